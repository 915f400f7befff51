/- Proved here: parts of the way to BEditBack (BL29 BM12 BH22 BH23 BD20); no condition beyond those that each theorem names. -/
import Derived.Test.YtachkofbmodnnaaGreatG4
import Derived.Test.YtachkofbmodnnaaGreatG24
import Derived.Deep.Slices
import Derived.SliceStrings
import Derived.ChangeSame
import Derived.ChangeSlices
import Derived.Lib.SmallJoins
import Derived.Test.YtachkofbmodnnaaGreatG21
import Derived.Test.YtachkofbmodnnaaGreatG19
set_option linter.unusedSimpArgs false
set_option linter.unusedVariables false
namespace Go.Im
open Go.RowKit
theorem Zc5.block {W:World} {vs:List View} (L:Zc5 W vs) {size:Nat} (hs:0 < size) {b o k c:Nat} {cc:Array Value} {e:TypeId} {fr:Nat × Nat} (hb:W.heap[b]? =some (.cells cc e fr)) (hkc:k≤c) (hc:0 < c) (hoc:o+c*size≤cc.size)
  {xs:List Value} (hxl:xs.length=k*size) (hrel:∀ (i:Nat) (x:Value),xs[i]? =some x→Zal x=true∧∃ y,cc[o+i]? =some y∧RV (ZaD vs) x y) :
  ∃ vs' a' c',Zc5 W vs'∧(∀ b l,ZaD vs b=some l→ZaD vs' b=some l)∧Ext (laid vs) (laid vs')∧RV (ZaD vs') (.slice a' k c') (.slice (some ⟨b,o,none⟩) k c)∧Sl (laid vs') size a' k c' xs:=by
 have hkcs:k*size≤c*size:=Nat.mul_le_mul_right _ hkc
 refine ⟨⟨b,o,o+c*size,size,xs⟩::vs,some ⟨vs.length,0,none⟩,big,?_,ZbT,(Ext.refl _).push _,?_,?_⟩
 ·intro i v hv
  rw [Zb6] at hv
  split at hv
  ·cases hv
   refine ⟨hs,cc,e,fr,hb,by simp only;omega,fun i x hi=> ?_⟩
   obtain ⟨h1,y,h2,h3⟩:=hrel i x hi
   exact ⟨h1,y,h2,h3.mono ZbT⟩
  ·exact View.Zmg ZbT (L i v hv)
 ·have hφ:ZaD (⟨b,o,o+c*size,size,xs⟩::vs) vs.length=some ⟨b,o,xs.length,o+c*size,size⟩:=by
   simp only [ZaD,Zb6,if_true,Option.map_some,View.loc]
  have:=RV.unknown (φ:=ZaD (⟨b,o,o+c*size,size,xs⟩::vs)) vs.length 0 k c _ hφ hkc Yj Yj Yj
  simpa using this
 ·right;right
  refine ⟨vs.length,0,xs,rfl,by simp [big],?_,?_,by omega,?_,.inr rfl⟩
  ·rw [ZcW];simp
  ·rw [Zdg _ _ ⟨b,o,o+c*size,size,xs⟩ (by rw [Zb6,if_pos rfl])]
   rfl
  ·rw [List.drop_zero,List.take_of_length_le Ya]
theorem ZjF {W:World} {a:Addr} {c:Nat} (hc:0 < c) {f:Nat→Value} (h:∀ i,i < c→W.cell? (a.add i)=some (f i)) :
  ∃ b o cc e fr,a=⟨b,o,none⟩∧W.heap[b]? =some (.cells cc e fr)∧o+c≤cc.size∧∀ i,i < c→cc[o+i]? =some (f i):=by
 obtain ⟨b,o,sp⟩:=a
 have c0:=h 0 hc
 have hadd0:(⟨b,o,sp⟩:Addr).add 0=⟨b,o,sp⟩:=rfl
 rw [hadd0] at c0
 unfold World.cell? at c0
 split at c0
 ·rename_i cc e fr hb
  split at c0
  ·cases c0
  ·rename_i hsp
   have hsp':sp=none:=by cases sp with
    | none=>rfl
    | some z=>simp at hsp
   subst hsp'
   have all:∀ i,i < c→cc[o+i]? =some (f i):=by
    intro i hi
    have cl:=h i hi
    rw [addr_add] at cl
    simp only [World.cell?,hb] at cl
    simpa using cl
   refine ⟨b,o,cc,e,fr,rfl,hb,?_,all⟩
   have:=(Array.getElem?_eq_some_iff.1 (all (c - 1) Ya)).1
   omega
 ·cases c0
end Go.Im
namespace Go.Proofs.YtachkofbmodnnaaGreat.L29
open Go Go.Im Go.ChangeShapes Go.WideShapes Go.ChangeAt Go.RowKit Go.Deep Go.Joins
theorem ints_at {H:Type} {enc:TypeId × Value→H} {P:Program} {t e:TypeId} {k':IntKind} (ht:P.underlying t=some (.slice e)) (he:P.underlying e=some (.int k')) (ce:P.cellsOf e=1)
  {W:World} {v:Value} {n:Nat} {y:DataW H × List MemPlace} (h:DataW.trod enc P W 0 (fun _=>true) true n t [v]=some y) :
  ∃ a k c,v= .slice a k c∧∃ l:List Int,Arg W a k c (l.map (Value.int k'))∧l.length=k∧∀ x ∈ l,(Lit.int k' x).wf=true:=by
 rcases open_ints ht he ce h with ⟨hcs,_⟩ | ⟨a',k,c,zs,hcs,_,hk,hm,hz,_,hcell,hwf⟩
 ·simp at hcs
  subst hcs
  exact ⟨_,_,_,rfl,[],⟨rfl,Nat.le_refl _,.inl ⟨rfl,rfl⟩⟩,rfl,by simp⟩
 ·simp at hcs
  subst hcs
  simp only [if_true] at hz
  refine ⟨_,_,_,rfl,zs.take k,?_,by simp;omega,fun x hx=>hwf x (List.mem_of_mem_take hx)⟩
  have:=Arg.of_cells (W:=W) (a:=a') (k:=k) (c:=c) (vals:=zs.map (Value.int k')) (by simp [hz]) hk (fun i hi=>by
   rw [hcell i Ya]
   simp [List.getD,List.getElem?_eq_getElem (show i < zs.length by omega)])
  rw [← List.map_take] at this
  exact this
structure Zc4 where
 l:List Int
 a:Option Addr
 c:Nat
def Zc4.cell (r:Zc4):Value:= .slice r.a r.l.length r.c
def Zc4.ok (W:World) (r:Zc4):Prop:=Arg W r.a r.l.length r.c (rv r.l)
theorem ZuF (l:List Int):(rv l).all Im.atomic=true:=by simp [rv,intCells,Im.atomic]
theorem Zii {W:World}:∀ (rs:List Zc4) {vs0:List View},Zc5 W vs0→(∀ r ∈ rs,r.ok W)→∃ (vs:List View) (xs:List Value),Zc5 W vs∧(∀ b l,ZaD vs0 b=some l→ZaD vs b=some l)∧Ext (laid vs0) (laid vs)∧xs.length=rs.length ∧
  (∀ (i:Nat) (r:Zc4),rs[i]? =some r→∃ v,xs[i]? =some v∧Ln (laid vs) v r.l)∧∀ (i:Nat) (x:Value),xs[i]? =some x→Zal x=true∧∃ y,(rs.map Zc4.cell)[i]? =some y∧RV (ZaD vs) x y
 | [],vs0,L0,_=>⟨vs0,[],L0,fun _ _ h=>h,Ext.refl _,rfl,by intro i r h;simp at h,by intro i x h;simp at h⟩
 | r::rs,vs0,L0,hok=>by
   obtain ⟨v1,b1,d1,L1,m1,x1,r1,s1,hc⟩:=L0.line (hok r Yp) (ZuF r.l)
   obtain ⟨vs,xs,L,m,x,hl,ln,rel⟩:=Zii rs L1 fun r' hr=>hok r' (by simp [hr])
   refine ⟨vs,.slice b1 r.l.length d1::xs,L,fun b l h=>m b l (m1 b l h),x1.trans x,by simp [hl],fun i q hi=> ?_,fun i y hy=> ?_⟩
   ·cases i with
    | zero =>
      cases hi
      exact ⟨_,rfl,(Ln.of s1 hc).ext x⟩
    | succ i=>exact ln i q Yae
   ·cases i with
    | zero =>
      cases hy
      exact ⟨rfl,_,rfl,r1.mono m⟩
    | succ i=>exact rel i y (by simpa using hy)
set_option maxRecDepth 100000 in
theorem Zok {H:Type} {enc:TypeId × Value→H} {W:World} {a:Option Addr} {k c:Nat} {d:DataW H} {p:List MemPlace} (h:DataW.Trod enc Tryz.prog W 0 (fun _=>true) true 40 (.slice a k c) d p) :
  ∃ rs:List Zc4,rs.length=k∧k≤maxLen∧(∀ r ∈ rs,r.ok W)∧((a=none∧k=0∧c=0)∨(k=0∧c=0∧∃ ad,a=some ad)∨(0 < c∧k≤c∧∃ b o cc e fr,a=some ⟨b,o,none⟩∧W.heap[b]? =some (.cells cc e fr)∧o+c*1≤cc.size∧∀ (j:Nat) y,(rs.map Zc4.cell)[j]? =some y→cc[o+j]? =some y)):=by
 obtain ⟨fuel,hf⟩:=h
 rcases open_slice Tryz.underlying40 hf with ⟨hcs,_⟩ | ⟨a',len,cap,m,n',D,Pl,hcs,_,hlc,hcm,hm,_,hx⟩
 ·simp [Value.cells] at hcs
  obtain ⟨rfl,rfl,rfl⟩:=hcs
  exact ⟨[],rfl,by simp [maxLen],by simp,.inl ⟨rfl,rfl,rfl⟩⟩
 ·simp [Value.cells] at hcs
  obtain ⟨rfl,rfl,rfl⟩:=hcs
  simp only [if_true] at hm
  subst hm
  have ce:Tryz.prog.cellsOf 22=1:=Yh
  have each:∀ i,i < m→∃ r:Zc4,r.ok W∧W.cell? (a'.add i)=some r.cell:=by
   intro i hi
   obtain ⟨cs',h1,h2⟩:=hx i hi
   rw [ce] at h1
   obtain ⟨_,hlen,hcell⟩:=World.cells?_some h1
   match cs',hlen with
   | [v0],_ =>
     have e0:=hcell 0 Ya
     rw [add_add] at e0
     obtain ⟨a2,k2,c2',rfl,ys,B,hy,_⟩:=ints_at Tryz.underlying22 Tryz.underlying21 Yh h2
     subst hy
     exact ⟨⟨ys,a2,c2'⟩,B,by simpa [Zc4.cell] using e0⟩
  have:Inhabited Zc4:=⟨⟨[],none,0⟩⟩
  obtain ⟨q,hq⟩:=choose_lt each
  obtain ⟨l,hl⟩:∃ l,l=(List.range m).map q:=⟨_,rfl⟩
  have hll:l.length=m:=by simp [hl]
  have hget:∀ i,i < m→l[i]? =some (q i):=by
   intro i hi
   rw [hl,List.getElem?_map,List.getElem?_range hi]
   rfl
  have hok:∀ r ∈ l,r.ok W:=by
   intro r hr
   rw [hl] at hr
   obtain ⟨i,hi,rfl⟩:=List.mem_map.1 hr
   exact (hq i (List.mem_range.1 hi)).1
  refine ⟨l.take k,by simp;omega,by omega,fun r hr=>hok r (List.mem_of_mem_take hr),?_⟩
  by_cases h0:m=0
  ·subst h0
   exact .inr (.inl ⟨by omega,rfl,a',rfl⟩)
  ·refine .inr (.inr ⟨by omega,hlc,?_⟩)
   obtain ⟨b,o,cc,e,fr,rfl,hb,hsz,hall⟩:=ZjF (W:=W) (a:=a') (c:=m) Ya (f:=fun j=>(q j).cell) (fun j hj=>(hq j hj).2)
   refine ⟨b,o,cc,e,fr,rfl,hb,by omega,fun j y hy=> ?_⟩
   rw [List.getElem?_map,List.getElem?_take] at hy
   split at hy
   ·rename_i hjk
    rw [hget j Ya] at hy
    cases hy
    exact hall j Ya
   ·cases hy
end Go.Proofs.YtachkofbmodnnaaGreat.L29
namespace Go.Proofs.YtachkofbmodnnaaGreat.M12
open Go Go.Im Go.Im.Limbs Go.Im.Lexing Go.Im.Heads Go.Im.Editing Go.Im.Defn Go.Proofs Go.RowKit Hd N19 H2 H3 H4 H5 H7 D2 D3 D4
set_option maxRecDepth 100000
theorem ZpW {α:Type} {xs ys:List α} {i:Nat} {x y:α} (h:xs.take i=ys.take i) (hx:xs[i]? =some x) (hy:ys[i]? =some y) (e:x=y):xs.take (i+1)=ys.take (i+1):=by
 rw [List.take_add_one,List.take_add_one,h,hx,hy,e]
theorem ZuU {α:Type} {xs ys:List α} {i:Nat} {x y:α} (hx:xs[i]? =some x) (hy:ys[i]? =some y) (e:¬ x=y):¬ xs=ys:=fun h=>e (by rw [h,hy] at hx;exact (Option.some.inj hx).symm)
theorem all_eq {α:Type} {xs ys:List α} {i:Nat} (h:xs.take i=ys.take i) (hx:xs.length≤i) (hy:ys.length≤i):xs=ys:=by rwa [List.take_of_length_le hx,List.take_of_length_le hy] at h
theorem Zgf (xs ys:List ByteArray) (h:Heap) {a a2:Option Addr} {c c2:Nat} (s:Sl h 1 a xs.length c (sv xs)) (t:Sl h 1 a2 ys.length c2 (sv ys)) (hm:xs.length≤1000000) :
  Runs K 55 #[.slice a xs.length c,.slice a2 ys.length c2] h fun r w=>h=w∧r= .bool (decide (xs=ys)):=by
 refine Runs.of Kok (Does.intro rfl Ye Tryz.func55 rfl ?_)
 by_cases hl:xs.length=ys.length
 ·have hl':((xs.length:Nat):Int)=((ys.length:Nat):Int):=by omega
  simp +decide only [go_sem,WR,WS,hl']
  refine Zah (α:=Nat) (fun i e w=>i≤xs.length∧e.size=26∧h=w∧e.get 0= .slice a xs.length c∧e.get 1= .slice a2 ys.length c2∧e.get 12= .int .i64 ((ys.length:Nat):Int)∧e.get 13= .int .i64 (i:Int)∧xs.take i=ys.take i) (fun i=>xs.length - i) 0 ?_ ?_
  ·exact ⟨Nat.zero_le _,Yc,rfl,Yc,Yc,by simp +decide only [go_sem,hl'],by simp +decide only [go_sem];rfl,rfl⟩
  rintro i e w ⟨hi,hsz,hw,e0,e1,e12,e13,ht⟩ next
  subst hw
  by_cases hil:(i:Int) < ((ys.length:Nat):Int)
  ·obtain ⟨b,o,cs,rfl,q2,q3,q4⟩:=ZaN s (i:=i) Ya
   obtain ⟨b2,o2,cs2,rfl,p2,p3,p4⟩:=ZaN t (i:=i) Ya
   have hx:xs[i]? =some xs[i]:=List.getElem?_eq_getElem Ya
   have hy:ys[i]? =some ys[i]:=List.getElem?_eq_getElem Ya
   have c0:(0:Int)≤(i:Int):=Ya
   have c1:(i:Int) < ((xs.length:Nat):Int):=Ya
   have i1:IntKind.i64.wrap ((i:Int)+1)=((i+1:Nat):Int):=Yd
   generalize xs[i]=x at q4 hx
   generalize ys[i]=y at p4 hy
   by_cases hs:x=y
   ·rw [hs] at q4
    simp +decide only [go_sem,WR,WS,hsz,e0,e1,e12,e13,hil,c0,c1,Int.toNat_natCast,q3,q4,p3,p4,i1]
    exact next (i+1) _ _ ⟨by omega,Yb,rfl,Yf,Yk,Yy,Yb,ZpW ht hx hy hs⟩ Ya
   ·simp +decide only [go_sem,WR,WS,hsz,e0,e1,e12,e13,hil,c0,c1,Int.toNat_natCast,q3,q4,p3,p4,hs]
    simp [ZuU hx hy hs]
  ·simp +decide only [go_sem,WR,WS,hsz,e0,e1,e12,e13,hil]
   simp [all_eq ht Ya Ya]
 ·have hl':¬ ((xs.length:Nat):Int)=((ys.length:Nat):Int):=by omega
  simp +decide only [go_sem,WR,WS,hl']
  have:¬ xs=ys:=fun hh=>hl (by rw [hh])
  simp [this]
def Zq5 (d e:DefT):Bool:=decide (Zby d=Zby e)
theorem Znb (d e:DefT) (h:Heap) {v u:Value} (V:DV h v d) (U:DV h u e) (G:Heads.Good d.hd) (G2:Heads.Good e.hd) (hm:d.lines.length≤100000) (hm2:e.lines.length≤100000):Runs K 26 #[v,u] h fun r w=>r= .bool (Zq5 d e):=by
 have V0:=V
 have U0:=U
 obtain ⟨a,c,a1,c1,a2,c2,rfl,s1,s2,s3⟩:=V0
 obtain ⟨b,k,b1,k1,b2,k2,rfl,t1,t2,t3⟩:=U0
 refine Runs.of Kok (Does.intro rfl Ye Tryz.func26 rfl ?_)
 obtain ⟨w0,e0,x0,hs0,z0,y0⟩:=lay2 h (.cells (dl d.hd (.slice a d.hd.ls.length c) (.slice a1 d.lines.length c1) (.slice a2 d.labels.length c2)) 7) (.cells (dl e.hd (.slice b e.hd.ls.length k) (.slice b1 e.lines.length k1) (.slice b2 e.labels.length k2)) 7)
 have dr1:=Zem d w0 (V.ext x0) G hm
 have dr2:=fun (w:Heap) (k:Ext w0 w)=>Zem e w (U.ext (x0.trans k)) G2 hm2
 simp only [dl] at e0 z0 y0 dr1 dr2
 simp +decide only [go_sem,WR,WS,dl,e0,z0]
 refine Zaa Kok x0.1 dr1 fun r w1 x1 hr=> ?_
 obtain ⟨ra,rc,rfl,s⟩:=hr
 have y1:w1.get (h.size+1)=_:=(x1.2 _ Ya).trans y0
 simp +decide only [go_sem,WR,WS,y1]
 refine Zaa Kok (x0.trans x1).1 (dr2 w1 x1) fun r w2 x2 hr=> ?_
 obtain ⟨rb,rd,rfl,t⟩:=hr
 simp +decide only [go_sem,WR,WS]
 refine Zaa Kok (x0.trans (x1.trans x2)).1 (Zgf (Zby d) (Zby e) w2 (s.ext x2) t (by rw [ZdW];omega)) fun r w3 x3 hr=> ?_
 obtain ⟨_,rfl⟩:=hr
 simp +decide only [go_sem,WR,WS]
 rfl
end Go.Proofs.YtachkofbmodnnaaGreat.M12
namespace Go.Im.Heads
open Go Go.Im Go.Im.Lexing
inductive Pc where
 | w (s:List Int)
 | m (c:Int)
 | b
def Pc.txt:Pc→List Int
 | .w s=>s
 | .m c=>[c]
 | .b=>[32]
def ptxt (ps:List Pc):List Int:=ps.flatMap Pc.txt
def ptok:Nat→List Pc→List (Nat × Tk)
 | _,[]=>[]
 | p,.w s::ps=>(p,⟨2,s,0⟩)::ptok (p+s.length) ps
 | p,.m c::ps=>(p,⟨6,[],c⟩)::ptok (p+1) ps
 | p,.b::ps=>ptok (p+1) ps
def isWp:List Pc→Bool
 | .w _::_=>true
 | _=>false
def pok:List Pc→Prop
 | []=>True
 | .w s::ps=>Zat s=true∧isWp ps=false∧pok ps
 | .m c::ps=>(c=59∨c=8592)∧pok ps
 | .b::ps=>pok ps
theorem ZbC {s:List Int} (h:Zat s=true):∃ c r,s=c::r∧kindOf c=2∧s.all isW=true:=by
 simp only [Zat,Bool.and_eq_true,decide_eq_true_eq] at h
 match s,h with
 | [],h=>simp at h
 | c::r,h=>exact ⟨c,r,rfl,by simpa using h.1.2,h.2⟩
theorem ZnW {ps:List Pc} (h:pok ps) (hw:isWp ps=false):(ptxt ps).takeWhile isW=[]:=by
 match ps,h,hw with
 | [],_,_=>rfl
 | .m c::ps,h,_ =>
   have e:ptxt (.m c::ps)=c::ptxt ps:=rfl
   rw [e]
   rcases h.1 with rfl | rfl<;>rfl
 | .b::ps,_,_=>rfl
theorem Zo5 {p:Int→Bool}:∀ {a r:List Int},a.all p=true→r.takeWhile p=[]→(a++r).takeWhile p=a
 | [],r,_,h=>h
 | x::a,r,ha,h=>by
   simp only [List.all_cons,Bool.and_eq_true] at ha
   rw [List.cons_append,List.takeWhile_cons_of_pos ha.1,Zo5 ha.2 h]
theorem ZnQ {s r:List Int} (h:Zat s=true) (hr:r.takeWhile isW=[]):tokS (s++r)=some (some ⟨2,s,0⟩,s.length):=by
 obtain ⟨c,t,rfl,hk,ha⟩:=ZbC h
 have htw:=Zo5 ha hr
 have hkL:isL c=true∧c≠32:=by
  unfold kindOf at hk
  split at hk
  ·cases hk
  ·rename_i h32
   split at hk
   ·exact ⟨by assumption,h32⟩
   ·repeat' split at hk
    all_goals omega
 have hb:begins (c::t++r)=false:=by
  have h1:isD c=false∧c≠175∧c≠46:=by
   simp only [isL,Bool.or_eq_true,Bool.and_eq_true,decide_eq_true_eq] at hkL
   simp only [isD,Bool.and_eq_false_iff,decide_eq_false_iff_not]
   omega
  simp only [begins,List.cons_append,List.getElem?_cons_zero,h1.1,Bool.false_or]
  simp [h1.2.1,h1.2.2]
 unfold tokS
 rw [List.cons_append,List.getElem?_cons_zero]
 rw [List.cons_append] at hb htw
 simp only [hk,hb]
 simp only [Zb2,htw,h]
 simp
theorem Zed:∀ {ps:List Pc} {f p:Nat},pok ps→ps.length < f→lexF f p (ptxt ps)=some (ptok p ps)
 | _,0,_,_,h=>by omega
 | [],f+1,p,_,_=>rfl
 | .m c::ps,f+1,p,h,hf=>by
   have ih:=Zed (ps:=ps) (f:=f) (p:=p+1) h.2 (by simpa using hf)
   have e:ptxt (.m c::ps)=c::ptxt ps:=rfl
   have ht:tokS (c::ptxt ps)=some (some ⟨6,[],c⟩,1):=by
    unfold tokS
    rw [List.getElem?_cons_zero]
    rcases h.1 with rfl | rfl<;>rfl
   have hc:c≠9053:=by rcases h.1 with rfl | rfl<;>decide
   rw [e,lexF,List.getElem?_cons_zero]
   simp only [ht,if_neg hc,List.drop_succ_cons,List.drop_zero,ih]
   rfl
 | .b::ps,f+1,p,h,hf=>by
   have ih:=Zed (ps:=ps) (f:=f) (p:=p+1) h (by simpa using hf)
   have e:ptxt (.b::ps)=32::ptxt ps:=rfl
   have ht:tokS (32::ptxt ps)=some (none,1):=by
    unfold tokS
    rw [List.getElem?_cons_zero]
    rfl
   rw [e,lexF,List.getElem?_cons_zero]
   simp only [ht,show ¬ (32:Int)=9053 by decide,if_false,List.drop_succ_cons,List.drop_zero,ih]
   rfl
 | .w s::ps,f+1,p,h,hf=>by
   have ih:=Zed (ps:=ps) (f:=f) (p:=p+s.length) h.2.2 (by simpa using hf)
   have e:ptxt (.w s::ps)=s++ptxt ps:=rfl
   have ht:=ZnQ h.1 (ZnW h.2.2 h.2.1)
   obtain ⟨c,r,rfl,hk,_⟩:=ZbC h.1
   have hc:c≠9053:=by
    rintro rfl
    exact absurd hk YI
   rw [e,lexF]
   have e0:(c::r++ptxt ps)[0]? =some c:=rfl
   rw [e0]
   simp only [ht,if_neg hc,List.drop_left,ih]
   rfl
def NK (ts:List (Nat × Tk)):Prop:=∀ t ∈ ts,t.2.kind=2→Zat t.2.word=true
def wt (t:Nat × Tk):Nat:=if isN t then t.2.word.length else 1
def wts (ts:List (Nat × Tk)):Nat:=(ts.map wt).sum
theorem ZcA (t:Nat × Tk) (ts:List (Nat × Tk)):wts (t::ts)=wt t+wts ts:=by simp [wts]
theorem Zo6 {s:List Int} {t:Tk} {k:Nat} (h:tokS s=some (some t,k)) (p:Nat):wt (p,t)≤k:=by
 have h1:=Zex h
 unfold wt
 by_cases hn:isN (p,t)=true
 ·rw [if_pos hn]
  have hk:t.kind=2:=by simpa [isN] using hn
  have word:∀ {k':Nat} {s':List Int} {g:Tk × Nat→Nat},(∀ x,x.2≤g x)→(Zb2 k' s').map (fun x=>(some x.1,g x))=some (some t,k)→t.word.length≤k:=by
   intro k' s' g hg hw
   obtain ⟨x,hx,hy⟩:=Option.map_eq_some_iff.1 hw
   cases hy
   unfold Zb2 at hx
   split at hx
   ·cases hx
    exact hg (⟨k',List.takeWhile isW s',0⟩,(List.takeWhile isW s').length)
   ·cases hx
  have one:∀ {α:Type} {o:Option α} {g:α→Nat},o.map (fun x=>(some (⟨1,[],0⟩:Tk),g x))=some (some t,k)→t.word.length≤k:=by
   intro α o g hw
   obtain ⟨x,hx,hy⟩:=Option.map_eq_some_iff.1 hw
   cases hy
   cases hk
  unfold tokS at h
  repeat' split at h
  all_goals first
   | (cases h;done)
   | (cases h;cases hk;done)
   | exact one h
   | exact word (fun x=>Nat.le_refl _) h
   | exact word (fun x=>by omega) h
 ·rw [if_neg hn]
  omega
theorem Zkf:∀ {f p:Nat} {s:List Int} {ts:List (Nat × Tk)},lexF f p s=some ts→wts ts≤s.length
 | 0,_,_,_,h=>by cases h
 | f+1,p,s,ts,h=>by
   simp only [lexF] at h
   split at h
   ·cases h
    simp [wts]
   ·split at h
    ·cases h
     simp [wts]
    ·split at h
     ·cases h
     ·rename_i k ht
      have:=Zkf h
      rw [List.length_drop] at this
      omega
     ·rename_i t k ht
      obtain ⟨us,hu,rfl⟩:=Option.map_eq_some_iff.1 h
      have h1:=Zkf hu
      have h2:=Zo6 ht p
      have h3:=Zex ht
      rw [List.length_drop] at h1
      rw [ZcA]
      omega
def gp:List (Nat × Tk)→Nat
 | a::b::r=>(if (isN a && isN b)=true then 1 else 0)+gp (b::r)
 | _=>0
theorem Zjv (a:Nat × Tk) (r:List (Nat × Tk)):gp r≤gp (a::r):=by
 cases r with
 | nil=>simp [gp]
 | cons b r=>simp only [gp];omega
theorem Zu7 (a:Nat × Tk) (r:List (Nat × Tk)):gp (a::r)≤gp r+1:=by
 cases r with
 | nil=>simp [gp]
 | cons b r=>simp only [gp];split<;>omega
theorem ZjO {s:List Int} {t:Tk} {k:Nat} (h:tokS s=some (some t,k)) (hk:t.kind=2):s.takeWhile isW≠[]∧k=(s.takeWhile isW).length:=by
 have word:∀ {k':Nat} {s':List Int} {g:Tk × Nat→Nat},(Zb2 k' s').map (fun x=>(some x.1,g x))=some (some t,k)→k'=2∧s'.takeWhile isW≠[]∧k=g (t,(s'.takeWhile isW).length):=by
  intro k' s' g hw
  obtain ⟨x,hx,hy⟩:=Option.map_eq_some_iff.1 hw
  cases hy
  unfold Zb2 at hx
  split at hx
  ·rename_i hn
   cases hx
   obtain ⟨c,r,e,_⟩:=ZbC hn
   exact ⟨hk,by rw [e];simp,rfl⟩
  ·cases hx
 have one:∀ {α:Type} {o:Option α} {g:α→Nat} {Q:Prop},o.map (fun x=>(some (⟨1,[],0⟩:Tk),g x))=some (some t,k)→Q:=by
  intro α o g Q hw
  obtain ⟨x,hx,hy⟩:=Option.map_eq_some_iff.1 hw
  cases hy
  cases hk
 unfold tokS at h
 repeat' split at h
 all_goals first
  | (cases h;done)
  | (cases h;cases hk;done)
  | exact one h
  | exact (word h).2
  | exact absurd (word h).1 YI
theorem drop_tw {p:Int→Bool}:∀ s:List Int,(s.drop (s.takeWhile p).length).takeWhile p=[]
 | []=>rfl
 | c::s=>by
   by_cases hc:p c=true
   ·rw [List.takeWhile_cons_of_pos hc]
    exact drop_tw s
   ·rw [List.takeWhile_cons_of_neg hc]
    simp only [List.length_nil,List.drop_zero]
    rw [List.takeWhile_cons_of_neg hc]
theorem Zho:∀ {f p:Nat} {s:List Int} {ts:List (Nat × Tk)},lexF f p s=some ts→wts ts+gp ts≤s.length∧(s.takeWhile isW=[]→∀ u us,ts=u::us→isN u=true→wts ts+gp ts+1≤s.length)
 | 0,_,_,_,h=>by cases h
 | f+1,p,s,ts,h=>by
   simp only [lexF] at h
   split at h
   ·cases h
    exact ⟨by simp [wts,gp],fun _ u us he=>by cases he⟩
   ·split at h
    ·cases h
     exact ⟨by simp [wts,gp],fun _ u us he=>by cases he⟩
    ·split at h
     ·cases h
     ·rename_i k ht
      have h3:=Zex ht
      obtain ⟨h1,h2⟩:=Zho h
      rw [List.length_drop] at h1
      exact ⟨by omega,fun _ u us he hu=>by omega⟩
     ·rename_i t k ht
      obtain ⟨us,hu,rfl⟩:=Option.map_eq_some_iff.1 h
      obtain ⟨h1,h2⟩:=Zho hu
      have h3:=Zo6 ht p
      have h4:=Zex ht
      have h5:=Zu7 (p,t) us
      rw [List.length_drop] at h1 h2
      rw [ZcA]
      refine ⟨?_,fun hs u vs he hn=> ?_⟩
      ·by_cases hk:t.kind=2
       ·have hkl:=(ZjO ht hk).2
        cases us with
        | nil=>simp only [gp,wts,List.map_nil,List.sum_nil] at h1 ⊢;omega
        | cons u vs =>
          by_cases hun:isN u=true
          ·have hst:(s.drop k).takeWhile isW=[]:=by
            rw [hkl]
            exact drop_tw s
           have:=h2 hst u vs rfl hun
           omega
          ·have:gp ((p,t)::u::vs)=gp (u::vs):=by simp [gp,hun]
           omega
       ·have:gp ((p,t)::us)=gp us:=by
         cases us with
         | nil=>rfl
         | cons u vs=>simp [gp,isN,hk]
        omega
      ·cases he
       have hk:t.kind=2:=by simpa [isN] using hn
       exact absurd hs (ZjO ht hk).1
def lsum (ls:List (List Int)):Nat:=(ls.map List.length).sum
theorem Zif:∀ {ts:List (Nat × Tk)} {bs:List ByteArray},NK ts→locT ts=some bs→∃ ls:List (List Int),bs=ls.map runesBytes∧(∀ w ∈ ls,Zat w=true)∧lsum ls+ls.length≤wts ts
 | [],bs,_,h=>by
   cases h
   exact ⟨[],rfl,by simp,by simp [lsum]⟩
 | [a],bs,_,h=>by cases h
 | a::b::r,bs,hN,h=>by
   simp only [locT] at h
   split at h
   ·rename_i hab
    simp only [Bool.and_eq_true] at hab
    obtain ⟨ms,hm,rfl⟩:=Option.map_eq_some_iff.1 h
    obtain ⟨ls,rfl,h1,h2⟩:=Zif (fun t ht=>hN t (by simp [ht])) hm
    refine ⟨b.2.word::ls,by simp [wd],?_,?_⟩
    ·intro w hw
     rcases List.mem_cons.1 hw with rfl | hw
     ·exact hN b Yp (by simpa [isN] using hab.2)
     ·exact h1 w hw
    ·have ha:wt a=1:=by
      have:isN a=false:=by
       have:=hab.1
       simp only [isM,Bool.and_eq_true,decide_eq_true_eq] at this
       simp [isN,this.1]
      simp [wt,this]
     have hb:wt b=b.2.word.length:=by simp [wt,hab.2]
     rw [ZcA,ZcA,ha,hb]
     simp only [lsum,List.map_cons,List.sum_cons,List.length_cons] at h2 ⊢
     omega
   ·cases h
theorem ZfV:∀ {ts:List (Nat × Tk)},NK ts→∃ ns:List (List Int),(ts.takeWhile isN).map wd=ns.map runesBytes∧(∀ w ∈ ns,Zat w=true)∧lsum ns+(ns.length - 1)+wts (ts.drop ns.length)≤wts ts+gp ts
 | [],_=>⟨[],rfl,by simp,by simp [lsum,wts,gp]⟩
 | t::ts,hN=>by
   by_cases ht:isN t=true
   ·obtain ⟨ns,h1,h2,h3⟩:=ZfV (ts:=ts) fun u hu=>hN u (by simp [hu])
    refine ⟨t.2.word::ns,?_,?_,?_⟩
    ·rw [List.takeWhile_cons_of_pos ht,List.map_cons,List.map_cons,h1]
     rfl
    ·intro w hw
     rcases List.mem_cons.1 hw with rfl | hw
     ·exact hN t Yp (by simpa [isN] using ht)
     ·exact h2 w hw
    ·have hb:wt t=t.2.word.length:=by simp [wt,ht]
     have hg:=Zjv t ts
     have hg2:ns≠[]→gp (t::ts)=gp ts+1:=by
      intro hne
      cases ts with
      | nil=>exact absurd (by simpa using h1.symm) hne
      | cons u us =>
        by_cases hu:isN u=true
        ·simp [gp,ht,hu];omega
        ·rw [List.takeWhile_cons_of_neg hu] at h1
         exact absurd (by simpa using h1.symm) hne
     rw [ZcA,hb]
     simp only [lsum,List.map_cons,List.sum_cons,List.length_cons,List.drop_succ_cons] at h3 ⊢
     cases ns with
     | nil=>simp only [List.map_nil,List.sum_nil,List.length_nil] at h3 ⊢;omega
     | cons n ns =>
       have:=hg2 Yp
       simp only [List.map_cons,List.sum_cons,List.length_cons] at h3 ⊢
       omega
   ·exact ⟨[],by rw [List.takeWhile_cons_of_neg ht];rfl,by simp,by simp [lsum]⟩
theorem Zl4 {ts:List (Nat × Tk)} (hN:NK ts):∃ re:List Int,(resT ts).1=runesBytes re∧(re=[]∨Zat re=true)∧NK (resT ts).2∧(if re=[] then 0 else re.length+1)+(wts (resT ts).2+gp (resT ts).2)≤wts ts+gp ts:=by
 match ts,hN with
 | [],hN=>exact ⟨[],rfl,.inl rfl,hN,by simp [resT]⟩
 | [a],hN=>exact ⟨[],rfl,.inl rfl,hN,by simp [resT]⟩
 | a::b::r,hN =>
   simp only [resT]
   split
   ·rename_i hab
    simp only [Bool.and_eq_true] at hab
    have hk:=hN a Yp (by simpa [isN] using hab.1)
    refine ⟨a.2.word,rfl,.inr hk,fun t ht=>hN t (by simp [ht]),?_⟩
    have hb:wt b=1:=by
     have:isN b=false:=by
      have:=hab.2
      simp only [isM,Bool.and_eq_true,decide_eq_true_eq] at this
      simp [isN,this.1]
     simp [wt,this]
    have ha:wt a=a.2.word.length:=by simp [wt,hab.1]
    have hne:a.2.word≠[]:=by
     obtain ⟨c,t,h,_⟩:=ZbC hk
     rw [h]
     simp
    have g1:=Zjv a (b::r)
    have g2:=Zjv b r
    rw [if_neg hne,ZcA,ZcA,ha,hb]
    simp only
    omega
   ·exact ⟨[],rfl,.inl rfl,hN,by simp⟩
def rePc (re:List Int):List Pc:=if re=[] then [] else [.w re,.m 8592]
def nsPc:List (List Int)→List Pc
 | []=>[]
 | [a]=>[.w a]
 | a::b::r=> .w a:: .b::nsPc (b::r)
def lsPc (ls:List (List Int)):List Pc:=ls.flatMap fun w=>[.m 59,.w w]
theorem Zqj:∀ {ls:List (List Int)},(∀ w ∈ ls,Zat w=true)→pok (lsPc ls)∧isWp (lsPc ls)=false
 | [],_=>⟨trivial,rfl⟩
 | w::ls,h=>by
   obtain ⟨h1,h2⟩:=Zqj (ls:=ls) fun u hu=>h u (by simp [hu])
   exact ⟨⟨.inl rfl,h w Yp,h2,h1⟩,rfl⟩
theorem Zsj:∀ {ns:List (List Int)} {ps:List Pc},(∀ w ∈ ns,Zat w=true)→pok ps→isWp ps=false→pok (nsPc ns++ps)
 | [],ps,_,h,_=>h
 | [a],ps,hn,h,hw=>⟨hn a Yp,hw,h⟩
 | a::b::r,ps,hn,h,hw=>⟨hn a Yp,rfl,Zsj (ns:=b::r) (fun u hu=>hn u (by simp [hu])) h hw⟩
theorem ZuG {re:List Int} {ps:List Pc} (h:re=[]∨Zat re=true) (hp:pok ps):pok (rePc re++ps):=by
 unfold rePc
 by_cases h0:re=[]
 ·rw [if_pos h0]
  exact hp
 ·rw [if_neg h0]
  exact ⟨h.resolve_left h0,rfl,.inr rfl,hp⟩
theorem Zkc:∀ (ls:List (List Int)) (p:Nat),locT (ptok p (lsPc ls))=some (ls.map runesBytes)
 | [],p=>rfl
 | w::ls,p=>by
   have e:ptok p (lsPc (w::ls))=(p,⟨6,[],59⟩)::(p+1,⟨2,w,0⟩)::ptok (p+1+w.length) (lsPc ls):=rfl
   rw [e,locT,Zkc ls]
   rfl
theorem Zo4 (ls:List (List Int)) (p:Nat):(ptok p (lsPc ls)).takeWhile isN=[]:=by
 cases ls<;>rfl
theorem Zmk:∀ (ns:List (List Int)) (ls:List (List Int)) (p:Nat),((ptok p (nsPc ns++lsPc ls)).takeWhile isN).map wd=ns.map runesBytes∧∃ q,(ptok p (nsPc ns++lsPc ls)).drop ns.length=ptok q (lsPc ls)
 | [],ls,p=>⟨by rw [nsPc,List.nil_append,Zo4];rfl,p,rfl⟩
 | [a],ls,p=>by
   have e:ptok p (nsPc [a]++lsPc ls)=(p,⟨2,a,0⟩)::ptok (p+a.length) (lsPc ls):=rfl
   rw [e,List.takeWhile_cons_of_pos rfl,Zo4]
   exact ⟨rfl,_,rfl⟩
 | a::b::r,ls,p=>by
   have e:ptok p (nsPc (a::b::r)++lsPc ls)=(p,⟨2,a,0⟩)::ptok (p+a.length+1) (nsPc (b::r)++lsPc ls):=rfl
   obtain ⟨h1,q,h2⟩:=Zmk (b::r) ls (p+a.length+1)
   rw [e,List.takeWhile_cons_of_pos rfl,List.map_cons,h1]
   exact ⟨rfl,q,h2⟩
theorem Zn5 (re:List Int) {ns:List (List Int)} (hns:ns≠[]) (ls:List (List Int)):∃ q,resT (ptok 0 (rePc re++(nsPc ns++lsPc ls)))=(runesBytes re,ptok q (nsPc ns++lsPc ls)):=by
 unfold rePc
 by_cases h0:re=[]
 ·refine ⟨0,?_⟩
  subst h0
  rw [if_pos rfl,List.nil_append]
  match ns,ls,hns with
  | [a],[],_=>rfl
  | [a],l::ls,_=>rfl
  | [a,b],ls,_=>rfl
  | a::b::c::r,ls,_=>rfl
 ·rw [if_neg h0]
  exact ⟨_,rfl⟩
theorem ZkQ {ts:List (Nat × Tk)} {x:HdT} (hN:NK ts) (h:ZaV ts=some x):∃ re ns ls,(re=[]∨Zat re=true)∧(∀ w ∈ ns,Zat w=true)∧(∀ w ∈ ls,Zat w=true)∧Zgn (runesBytes re) (ns.map runesBytes) (ls.map runesBytes)=some x ∧
  ZaV (ptok 0 (rePc re++(nsPc ns++lsPc ls)))=some x∧(ptxt (rePc re++(nsPc ns++lsPc ls))).length≤wts ts+gp ts:=by
 obtain ⟨re,r1,r2,r3,r4⟩:=Zl4 hN
 obtain ⟨ns,n1,n2,n3⟩:=ZfV r3
 unfold ZaV at h
 simp only at h
 split at h
 ·cases h
 rename_i bs hbs
 have hnl:((resT ts).2.takeWhile isN).map wd=ns.map runesBytes:=n1
 rw [hnl,List.length_map] at hbs
 obtain ⟨ls,rfl,l1,l2⟩:=Zif (fun t ht=>r3 t (List.mem_of_mem_drop ht)) hbs
 rw [hnl,r1] at h
 split at h
 ·cases h
 rename_i y hy
 split at h
 case isFalse=>cases h
 rename_i hnd
 cases h
 have hns:ns≠[]:=by
  rintro rfl
  cases hy
 have hn3:ns.length≤3:=by
  match ns,hy with
  | [],hy=>simp
  | [a],hy=>simp
  | [a,b],hy=>simp
  | [a,b,c],hy=>simp
  | a::b::c::d::r,hy=>simp [Zgn] at hy
 refine ⟨re,ns,ls,r2,n2,l1,hy,?_,?_⟩
 ·obtain ⟨q,hq⟩:=Zn5 re hns ls
  obtain ⟨h1,q2,h2⟩:=Zmk ns ls q
  unfold ZaV
  simp only [hq,h1,List.length_map,h2,Zkc,hy]
  rw [if_pos hnd]
 ·have e1:(ptxt (rePc re)).length=if re=[] then 0 else re.length+1:=by
   unfold rePc
   split
   ·rfl
   ·simp [ptxt,Pc.txt]
  have e2:∀ ls:List (List Int),(ptxt (lsPc ls)).length=lsum ls+ls.length:=by
   intro ls
   induction ls with
   | nil=>rfl
   | cons w ls ih =>
     have:ptxt (lsPc (w::ls))=59::(w++ptxt (lsPc ls)):=by simp [ptxt,lsPc,Pc.txt]
     rw [this,List.length_cons,List.length_append,ih]
     simp only [lsum,List.map_cons,List.sum_cons,List.length_cons]
     omega
  have e3:∀ ns:List (List Int),(ptxt (nsPc ns)).length=lsum ns+(ns.length - 1):=by
   intro ns
   induction ns with
   | nil=>rfl
   | cons a ns ih =>
     cases ns with
     | nil=>simp [ptxt,nsPc,Pc.txt,lsum]
     | cons b r =>
       have:ptxt (nsPc (a::b::r))=a++32::ptxt (nsPc (b::r)):=by simp [ptxt,nsPc,Pc.txt]
       rw [this,List.length_append,List.length_cons,ih]
       simp only [lsum,List.map_cons,List.sum_cons,List.length_cons]
       omega
  have e4:ptxt (rePc re++(nsPc ns++lsPc ls))=ptxt (rePc re)++(ptxt (nsPc ns)++ptxt (lsPc ls)):=by simp [ptxt]
  rw [e4,List.length_append,List.length_append,e1,e2,e3]
  omega
theorem Zk5 {c:Int} (h:isW c=true):Utf8.valid c=true:=by
 simp only [isW,Bool.or_eq_true,decide_eq_true_eq] at h
 have:(0≤c∧c < 55296):=by
  rcases h with h | h
  ·unfold kindOf at h
   split at h
   ·cases h
   ·split at h
    ·rename_i hl
     simp only [isL,Bool.or_eq_true,Bool.and_eq_true,decide_eq_true_eq] at hl
     omega
    ·repeat' split at h
     all_goals omega
  ·simp only [isD,Bool.and_eq_true,decide_eq_true_eq] at h
   omega
 simp only [Utf8.valid,Bool.or_eq_true,Bool.and_eq_true,decide_eq_true_eq]
 omega
theorem Zdd:∀ {ps:List Pc},pok ps→∀ c ∈ ptxt ps,Utf8.valid c=true
 | [],_,c,h=>by simp [ptxt] at h
 | .w s::ps,hp,c,h=>by
   have e:ptxt (.w s::ps)=s++ptxt ps:=rfl
   rw [e,List.mem_append] at h
   rcases h with h | h
   ·obtain ⟨_,_,_,_,ha⟩:=ZbC hp.1
    exact Zk5 (List.all_eq_true.1 ha c h)
   ·exact Zdd hp.2.2 c h
 | .m d::ps,hp,c,h=>by
   have e:ptxt (.m d::ps)=d::ptxt ps:=rfl
   rw [e,List.mem_cons] at h
   rcases h with rfl | h
   ·rcases hp.1 with rfl | rfl<;>rfl
   ·exact Zdd hp.2 c h
 | .b::ps,hp,c,h=>by
   have e:ptxt (.b::ps)=32::ptxt ps:=rfl
   rw [e,List.mem_cons] at h
   rcases h with rfl | h
   ·rfl
   ·exact Zdd (ps:=ps) hp c h
theorem Zfi:∀ (ps:List Pc),pok ps→ps.length≤(ptxt ps).length
 | [],_=>by simp
 | .w s::ps,h=>by
   obtain ⟨c,t,rfl,_⟩:=ZbC h.1
   have:=Zfi ps h.2.2
   have e:ptxt (.w (c::t)::ps)=(c::t)++ptxt ps:=rfl
   rw [e,List.length_append,List.length_cons,List.length_cons]
   omega
 | .m d::ps,h=>by
   have:=Zfi ps h.2
   have e:ptxt (.m d::ps)=d::ptxt ps:=rfl
   rw [e,List.length_cons,List.length_cons]
   omega
 | .b::ps,h=>by
   have:=Zfi ps h
   have e:ptxt (.b::ps)=32::ptxt ps:=rfl
   rw [e,List.length_cons,List.length_cons]
   omega
theorem Zoc (ps:List Pc) (k:Nat):ptxt (ps++List.replicate k .b)=ptxt ps++List.replicate k 32:=by
 have:ptxt (List.replicate k .b)=List.replicate k 32:=by
  induction k with
  | zero=>rfl
  | succ k ih =>
    rw [List.replicate_succ,List.replicate_succ,← ih]
    rfl
 simp only [ptxt,List.flatMap_append] at this ⊢
 rw [this]
theorem ZgH:∀ k,pok (List.replicate k .b)
 | 0=>trivial
 | k+1=>ZgH k
theorem Zhd:∀ {ps:List Pc},pok ps→∀ k,pok (ps++List.replicate k .b)
 | [],_,k=>ZgH k
 | .w s::ps,h,k=>by
   refine ⟨h.1,?_,Zhd h.2.2 k⟩
   have:=h.2.1
   cases ps with
   | nil=>cases k<;>rfl
   | cons p ps=>cases p<;>first | rfl | exact absurd this (by simp [isWp])
 | .m c::ps,h,k=>⟨h.1,Zhd h.2 k⟩
 | .b::ps,h,k=>Zhd (ps:=ps) h k
theorem ZfS:∀ k p,ptok p (List.replicate k .b)=[]
 | 0,_=>rfl
 | k+1,p=>ZfS k (p+1)
theorem Zfh:∀ (ps:List Pc) (k p:Nat),ptok p (ps++List.replicate k .b)=ptok p ps
 | [],k,p=>ZfS k p
 | .w s::ps,k,p=>by rw [List.cons_append,ptok,ptok,Zfh]
 | .m c::ps,k,p=>by rw [List.cons_append,ptok,ptok,Zfh]
 | .b::ps,k,p=>by rw [List.cons_append,ptok,ptok,Zfh]
theorem ZoF {l:List Int} {x:HdT} (h:hdp l=(x,true)):∃ re ns ls R,R=ptxt (rePc re++(nsPc ns++lsPc ls))∧(re=[]∨Zat re=true)∧(∀ w ∈ ns,Zat w=true)∧Zgn (runesBytes re) (ns.map runesBytes) (ls.map runesBytes)=some x ∧
  (∀ c ∈ R,Utf8.valid c=true)∧R.length≤l.length∧∀ k,R.length+k≤512→hdp (R++List.replicate k 32)=(x,true):=by
 unfold hdp at h
 split at h
 ·cases h
 rename_i ts hts
 split at h
 ·cases h
 rename_i y hy
 cases h
 have hN:NK ts:=Zph hts
 obtain ⟨re,ns,ls,h1,h2,h3,h4,h5,h6⟩:=ZkQ hN hy
 have hp:pok (rePc re++(nsPc ns++lsPc ls)):=ZuG h1 (Zsj h2 (Zqj h3).1 (Zqj h3).2)
 have hw:wts ts+gp ts≤l.length:=by
  unfold lex at hts
  split at hts
  ·cases hts
  ·exact (Zho hts).1
 refine ⟨re,ns,ls,_,rfl,h1,h2,h4,Zdd hp,by omega,fun k hR=> ?_⟩
 generalize rePc re++(nsPc ns++lsPc ls)=ps at *
 have e:=Zoc ps k
 have hp':=Zhd hp k
 have hf:=Zfi _ hp'
 have hln:(ptxt (ps++List.replicate k .b)).length≤512:=by rw [e,List.length_append,List.length_replicate];exact hR
 have hl:lex (ptxt ps++List.replicate k 32)=some (ptok 0 ps):=by
  rw [← e,← Zfh ps k 0]
  unfold lex
  rw [if_neg Ya]
  exact Zed hp' Ya
 unfold hdp
 rw [hl]
 simp only [h5]
end Go.Im.Heads
namespace Go.Proofs.YtachkofbmodnnaaGreat.H23
open Go Go.Im Go.Im.Limbs Go.Im.Lexing Go.Im.Heads Go.Im.Editing Go.Im.Defn Go.Proofs Go.RowKit Go.Sort H2 H3 H4 H5 D4
set_option maxRecDepth 100000
def rb (l:List Int):List UInt8:=(runesBytes l).data.toList
theorem ZbV (a b:List Int):rb (a++b)=rb a++rb b:=by simp [rb,ZhX,ByteArray.data_append]
theorem Zsd {l:List Int} (h:l≠[]):rb l≠[]:=by
 have:=ZfO h
 intro e
 have:(rb l).length=(runesBytes l).size:=by simp [rb]
 rw [e] at this
 simp at this
 omega
theorem Zi7 {l:List Int} (h:Zat l=true):rb l≠[]:=by
 obtain ⟨c,t,rfl,_⟩:=ZbC h
 exact Zsd Yp
theorem ZuH {re:List Int}:rb (ptxt (rePc re))=if rb re=[] then [] else rb re++[226,134,144]:=by
 unfold rePc
 by_cases h:re=[]
 ·subst h
  rfl
 ·rw [if_neg h,if_neg (Zsd h)]
  have:ptxt [.w re,.m 8592]=re++[8592]:=by simp [ptxt,Pc.txt]
  rw [this,ZbV]
  rfl
theorem ZuI (ls:List (List Int)):rb (ptxt (lsPc ls))=(ls.map rb).flatMap fun x=>59::x:=by
 induction ls with
 | nil=>rfl
 | cons w ls ih =>
   have:ptxt (lsPc (w::ls))=[59]++(w++ptxt (lsPc ls)):=by simp [ptxt,lsPc,Pc.txt]
   rw [this,ZbV,ZbV,ih,List.map_cons,List.flatMap_cons]
   rfl
theorem Zpe (a b:List Int):rb (a++32::b)=rb a++32::rb b:=by
 rw [ZbV,show (32::b)=[32]++b from rfl,ZbV]
 rfl
theorem ZnO {re:List Int} {ns ls:List (List Int)} {x:HdT} (hn:∀ w ∈ ns,Zat w=true) (h:Zgn (runesBytes re) (ns.map runesBytes) (ls.map runesBytes)=some x):text (txtL x)=runesBytes (ptxt (rePc re++(nsPc ns++lsPc ls))):=by
 have e4:ptxt (rePc re++(nsPc ns++lsPc ls))=ptxt (rePc re)++(ptxt (nsPc ns)++ptxt (lsPc ls)):=by simp [ptxt]
 have hg:txtL x=rb (ptxt (rePc re++(nsPc ns++lsPc ls))):=by
  rw [e4,ZbV,ZbV,ZuH,ZuI]
  have el:∀ ls:List (List Int),(ls.map runesBytes).map (·.data.toList)=ls.map rb:=fun ls=>by rw [List.map_map];rfl
  match ns,hn,h with
  | [f],hn,h =>
    cases h
    have e:ptxt (nsPc [f])=f:=by simp [ptxt,nsPc,Pc.txt]
    simp only [txtL,S3.txt,e,el]
    rfl
  | [f,b],hn,h =>
    cases h
    have e:ptxt (nsPc [f,b])=f++32::b:=by simp [ptxt,nsPc,Pc.txt]
    have hb:=Zi7 (hn b Yp)
    simp only [txtL,S3.txt,e,el,Zpe]
    have hb':¬ (runesBytes b).data.toList=[]:=hb
    rw [if_neg hb',List.append_assoc]
    rfl
  | [a,f,b],hn,h =>
    cases h
    have e:ptxt (nsPc [a,f,b])=a++32::(f++32::b):=by simp [ptxt,nsPc,Pc.txt]
    have hb':¬ (runesBytes b).data.toList=[]:=Zi7 (hn b Yp)
    have ha':¬ (runesBytes a).data.toList=[]:=Zi7 (hn a Yp)
    simp only [txtL,S3.txt,e,el,Zpe]
    rw [if_neg hb',if_neg ha']
    simp [rb,List.append_assoc]
 rw [hg]
 simp [text,rb]
theorem ZiM (s:ByteArray) (i:Nat):Utf8.valid ((Utf8.decode s i).1:Int)=true:=by
 have e:Utf8.valid ((Utf8.runeError:Nat):Int)=true:=YI
 have small:∀ n:Nat,n < 55296→Utf8.valid (n:Int)=true:=by
  intro n hn
  simp only [Utf8.valid,Bool.or_eq_true,Bool.and_eq_true,decide_eq_true_eq]
  omega
 unfold Utf8.decode
 simp only
 split
 ·exact small _ Ya
 ·split
  ·split
   ·refine small _ ?_
    simp only
    omega
   ·exact e
  ·split
   ·split
    ·rename_i h
     simp only [Bool.and_eq_true] at h
     exact h.2
    ·exact e
   ·split
    ·split
     ·rename_i h
      simp only [Bool.and_eq_true] at h
      exact h.2
     ·exact e
    ·exact e
theorem Ze1 (s:ByteArray):∀ (f i:Nat),∀ c ∈ runesL s f i,Utf8.valid c=true
 | 0,i,c,h=>by simp [runesL] at h
 | f+1,i,c,h=>by
   rw [runesL] at h
   split at h
   ·rcases List.mem_cons.1 h with rfl | h
    ·exact ZiM s i
    ·exact Ze1 s f _ c h
   ·cases h
theorem ZcQ (s:ByteArray):∀ c ∈ Zai s,Utf8.valid c=true:=Ze1 s _ _
theorem Zsb {a b:List Int} (h:rv a=rv b):a=b:=by
 have:∀ {a b:List Int},rv a=rv b→a=b:=by
  intro a
  induction a with
  | nil =>
    intro b h
    cases b with
    | nil=>rfl
    | cons x b=>simp [rv,intCells] at h
  | cons x a ih =>
    intro b h
    cases b with
    | nil=>simp [rv,intCells] at h
    | cons y b =>
      simp only [rv,intCells,List.map_cons,List.cons.injEq,Value.int.injEq,true_and] at h
      rw [h.1,ih (b:=b) h.2]
 exact this h
theorem ZcF {l:List Int} (hv:∀ c ∈ l,Utf8.valid c=true):Zai (runesBytes l)=l:=by
 have h1:=ZjV hv
 rw [ZhY] at h1
 exact Zsb h1
theorem dw_head {p:Int→Bool}:∀ {l:List Int} {c:Int},(l.dropWhile p)[0]? =some c→p c=false
 | [],c,h=>by simp at h
 | x::l,c,h=>by
   by_cases hx:p x=true
   ·rw [List.dropWhile_cons_of_pos hx] at h
    exact dw_head h
   ·rw [List.dropWhile_cons_of_neg hx] at h
    simp only [List.getElem?_cons_zero,Option.some.injEq] at h
    rw [← h]
    simpa using hx
theorem Zg0 (k:Nat):(List.replicate k (32:Int)).all isB=true:=by
 rw [List.all_eq_true]
 intro c hc
 rw [(List.mem_replicate.1 hc).2]
 rfl
theorem ZlX (m:List Int) (k:Nat):Zb3 (m++List.replicate k 32)=Zb3 m:=by
 unfold Zb3
 rw [List.reverse_append,List.reverse_replicate,ZgW (Zg0 k)]
theorem Zs5 {l r:List Int} {p:Int→Bool} (h:l.dropWhile p≠[]):(l++r).dropWhile p=l.dropWhile p++r:=by
 induction l with
 | nil=>exact absurd rfl h
 | cons x l ih =>
   by_cases hx:p x=true
   ·rw [List.cons_append,List.dropWhile_cons_of_pos hx,List.dropWhile_cons_of_pos hx]
    rw [List.dropWhile_cons_of_pos hx] at h
    exact ih h
   ·rw [List.cons_append,List.dropWhile_cons_of_neg hx,List.dropWhile_cons_of_neg hx]
    rfl
theorem ZpE {p:Int→Bool}:∀ {l:List Int},l.dropWhile p=[]→l.all p=true
 | [],_=>rfl
 | x::l,h=>by
   by_cases hx:p x=true
   ·rw [List.dropWhile_cons_of_pos hx] at h
    rw [List.all_cons,hx,ZpE h]
    rfl
   ·rw [List.dropWhile_cons_of_neg hx] at h
    cases h
theorem ZnP (l:List Int) (k:Nat):trimS (l++List.replicate k 32)=trimS l:=by
 unfold trimS
 by_cases h:l.dropWhile isB=[]
 ·have ha:l.all isB=true:=ZpE h
  have hb:=ZgW (r:=[]) (Zg0 k)
  rw [ZgW ha,h]
  rw [List.append_nil] at hb
  rw [hb]
  rfl
 ·rw [Zs5 h,ZlX]
theorem ZhZ (m:List Int):∃ t,m=Zb3 m++t:=by
 obtain ⟨t,ht⟩:=List.dropWhile_suffix isB (l:=m.reverse)
 refine ⟨t.reverse,?_⟩
 have:=congrArg List.reverse ht
 rw [List.reverse_append,List.reverse_reverse] at this
 exact this.symm
theorem ZkE (l:List Int):trimS (trimS l)=trimS l:=by
 obtain ⟨t,ht⟩:=ZhZ (l.dropWhile isB)
 have h1:(Zb3 (l.dropWhile isB)).dropWhile isB=Zb3 (l.dropWhile isB):=by
  refine dw_stop fun c hc=> ?_
  refine dw_head (l:=l) ?_
  rw [ht]
  cases hr:Zb3 (l.dropWhile isB) with
  | nil=>rw [hr] at hc;cases hc
  | cons x r=>rw [hr] at hc;exact hc
 have h2:Zb3 (Zb3 (l.dropWhile isB))=Zb3 (l.dropWhile isB):=by
  unfold Zb3
  rw [List.reverse_reverse,dw_stop (p:=isB) (l:=List.dropWhile isB (List.dropWhile isB l).reverse)]
  exact fun c hc=>dw_head hc
 show Zb3 ((Zb3 (l.dropWhile isB)).dropWhile isB)=_
 rw [h1,h2]
 rfl
theorem ZjM {l:List Int} {c:Int} (h:c ∈ trimS l):c ∈ l:=by
 obtain ⟨t,ht⟩:=ZhZ (l.dropWhile isB)
 have:c ∈ l.dropWhile isB:=by rw [ht];exact List.mem_append.2 (.inl h)
 exact (List.dropWhile_suffix isB).subset this
def padR (W:Nat) (y:ByteArray):ByteArray:=runesBytes (Zai y++List.replicate (W - (Zai y).length) 32)
theorem Zme {l:List Int} (hv:∀ c ∈ l,Utf8.valid c=true) (k:Nat):∀ c ∈ l++List.replicate k 32,Utf8.valid c=true:=by
 intro c hc
 rcases List.mem_append.1 hc with hc | hc
 ·exact hv c hc
 ·rw [(List.mem_replicate.1 hc).2]
  decide
theorem Zez (W:Nat) (y:ByteArray):Zai (padR W y)=Zai y++List.replicate (W - (Zai y).length) 32:=ZcF (Zme (ZcQ y) _)
theorem ZcC (W:Nat) (r:ByteArray):trimS (Zai (padR W (runesBytes (trimS (Zai r)))))=trimS (Zai r):=by
 rw [Zez,ZnP,ZcF (fun c hc=>ZcQ r c (ZjM hc)),ZkE]
theorem ZeK {x:HdT} {d:DefT}:∀ {rs:List ByteArray} {i:Nat} {ls:List ByteArray} {lb:List (ByteArray × Nat)} {tk:List ByteArray},Zau x rs i ls lb tk=(d, -1) →
  ∃ ms,d.hd=x∧d.lines=ls++ms∧(∀ y ∈ ms,(Zai y).length≤512)∧∀ W,Zau x (ms.map (padR W)) i ls lb tk=(d, -1)
 | [],i,ls,lb,tk,h=>by
   rw [Zau] at h
   cases h
   exact ⟨[],rfl,by simp,by simp,fun W=>rfl⟩
 | r::rs,i,ls,lb,tk,h=>by
   rw [Zau] at h
   split at h
   ·have:=congrArg Prod.snd h
    simp only at this
    omega
   rename_i hok
   have hlen:(Zai (runesBytes (trimS (Zai r)))).length≤512:=by
    rw [ZcF (fun c hc=>ZcQ r c (ZjM hc))]
    cases hx:lex (trimS (Zai r)) with
    | none=>exact absurd (.inl (by rw [hx];rfl)) hok
    | some ts=>exact ZeL hx
   split at h
   ·rename_i hE
    obtain ⟨ms,h1,h2,h3,h4⟩:=ZeK h
    refine ⟨runesBytes (trimS (Zai r))::ms,h1,by rw [h2];simp,?_,fun W=> ?_⟩
    ·intro y hy
     rcases List.mem_cons.1 hy with rfl | hy
     ·exact hlen
     ·exact h3 y hy
    ·rw [List.map_cons,Zde (by rw [ZcC];exact hok) (by rw [ZcC];exact hE),ZcC]
     exact h4 W
   ·rename_i hE
    split at h
    ·have:=congrArg Prod.snd h
     simp only at this
     omega
    ·rename_i hm
     obtain ⟨ms,h1,h2,h3,h4⟩:=ZeK h
     refine ⟨runesBytes (trimS (Zai r))::ms,h1,by rw [h2];simp,?_,fun W=> ?_⟩
     ·intro y hy
      rcases List.mem_cons.1 hy with rfl | hy
      ·exact hlen
      ·exact h3 y hy
     ·rw [List.map_cons,Zdf (by rw [ZcC];exact hok) (by rw [ZcC];exact hE) (by rw [ZcC];exact hm),ZcC]
      exact h4 W
theorem ZfZ {x:HdT}:∀ {rs:List ByteArray} {i:Nat} {ls:List ByteArray} {lb:List (ByteArray × Nat)} {tk:List ByteArray},(Zau x rs i ls lb tk).2 < 0→(Zau x rs i ls lb tk).2= -1
 | [],i,ls,lb,tk,h=>by rw [Zau]
 | r::rs,i,ls,lb,tk,h=>by
   rw [Zau] at h ⊢
   split
   ·rename_i h1
    rw [if_pos h1] at h
    simp only at h
    omega
   ·rename_i h1
    rw [if_neg h1] at h
    split
    ·rename_i h2
     rw [if_pos h2] at h
     exact ZfZ h
    ·rename_i h2
     rw [if_neg h2] at h
     split
     ·rename_i h3
      rw [if_pos h3] at h
      simp only at h
      omega
     ·rename_i h3
      rw [if_neg h3] at h
      exact ZfZ h
theorem Zka {rows:List ByteArray} (h:(ZaM rows).2 < 0):(ZaM rows).2= -1:=by
 match rows,h with
 | [],h=>simp [ZaM] at h
 | r::rs,h =>
   rw [ZaM] at h ⊢
   split
   ·rename_i h1
    rw [if_pos h1] at h
    exact ZfZ h
   ·rename_i h1
    rw [if_neg h1] at h
    simp at h
theorem Zmv {rows:List ByteArray} {d:DefT} (h:ZaM rows=(d, -1)):(∀ y ∈ Zby d,(Zai y).length≤512)∧∀ W,W≤512→ZaM ((Zby d).map (padR W))=(d, -1):=by
 match rows,h with
 | [],h=>simp [ZaM] at h
 | r::rs,h =>
   rw [ZaM] at h
   split at h
   case isFalse=>simp at h
   rename_i hok
   have hX:hdp (Zai r)=((hdp (Zai r)).1,true):=by rw [← hok]
   generalize (hdp (Zai r)).1=x at *
   obtain ⟨ms,h1,h2,h3,h4⟩:=ZeK h
   obtain ⟨re,ns,ls,R,hR,_,hn,hh,hv,hRl,hback⟩:=ZoF hX
   have htxt:txtB x=runesBytes R:=by
    have:=ZnO hn hh
    rw [← hR] at this
    exact this
   have hl512:(Zai r).length≤512:=by
    unfold hdp at hX
    split at hX
    ·cases hX
    ·rename_i ts hts
     exact ZeL hts
   have hRI:Zai (txtB x)=R:=by rw [htxt];exact ZcF hv
   have e:Zby d=txtB x::ms:=by
    unfold Zby
    rw [h1,h2]
    rfl
   refine ⟨?_,fun W hW=> ?_⟩
   ·intro y hy
    rw [e] at hy
    rcases List.mem_cons.1 hy with rfl | hy
    ·rw [hRI]
     omega
    ·exact h3 y hy
   ·have hp:hdp (Zai (padR W (txtB x)))=(x,true):=by
     rw [Zez,hRI]
     exact hback _ Ya
    rw [e,List.map_cons,ZaM,hp]
    simp only [if_true]
    exact h4 W
end Go.Proofs.YtachkofbmodnnaaGreat.H23
namespace Go.Proofs.YtachkofbmodnnaaGreat.D20
open Go Go.Im Go.Im.Limbs Go.Im.Lexing Go.Im.Heads Go.Im.Editing Go.Im.Defn Go.Proofs Go.RowKit Hd H2 H3 H4 H5 D2 D3 D4 D5 D6 D8 D9 D11 D15 D18 E2 D10 M12 H23
set_option maxRecDepth 100000
theorem pad0 (y:ByteArray):Zai (padR 0 y)=Zai y:=by rw [Zez];simp
theorem ZgM {x:HdT}:∀ (rs:List ByteArray) (i:Nat) (ls:List ByteArray) (lb:List (ByteArray × Nat)) (tk:List ByteArray),Zau x (rs.map (padR 0)) i ls lb tk=Zau x rs i ls lb tk
 | [],i,ls,lb,tk=>rfl
 | r::rs,i,ls,lb,tk=>by
   rw [List.map_cons,Zau,Zau,pad0]
   simp only [ZgM rs]
theorem Zmu (rows:List ByteArray):ZaM (rows.map (padR 0))=ZaM rows:=by
 cases rows with
 | nil=>rfl
 | cons r rs =>
   rw [List.map_cons,ZaM,ZaM,pad0]
   simp only [ZgM rs]
theorem Zk0 {rows:List ByteArray} (h:(ZaM rows).2 < 0):ZaM (Zby (ZaM rows).1)=((ZaM rows).1, -1):=by
 have h2:ZaM rows=((ZaM rows).1, -1):=Prod.ext rfl (Zka h)
 have h3:=(Zmv h2).2 0 Ya
 rwa [Zmu] at h3
theorem ZkT (rows:List ByteArray):(Zd1 rows).texts=rows:=by
 refine List.ext_getElem? fun i=> ?_
 simp only [EdT.texts,Zd1,Editing.ZcU,List.getElem?_map,List.getElem?_mapIdx]
 cases rows[i]? <;>rfl
theorem Zs8 (x:EdT):doS x [8711]=([],true,0,x):=by
 have h:Zb5 [8711]=([],true):=YI
 simp [doS,h]
theorem put7 {h w:Heap} (x:Ext h w) {d:DefT} {v:Value} (D:DV w v d):∃ (a0:Option Addr) (c0:Nat) (a1:Option Addr) (c1:Nat) (a2:Option Addr) (c2:Nat) (w2 w3:Heap),v= .agg (dl d.hd (.slice a0 d.hd.ls.length c0) (.slice a1 d.lines.length c1) (.slice a2 d.labels.length c2)).toArray ∧
  w.push (.cells [.string ByteArray.empty,.string ByteArray.empty,.string ByteArray.empty,.string ByteArray.empty,.slice none 0 0,.slice none 0 0,.slice none 0 0] 7)=w2 ∧
  w2.get w.size= .cells [.string ByteArray.empty,.string ByteArray.empty,.string ByteArray.empty,.string ByteArray.empty,.slice none 0 0,.slice none 0 0,.slice none 0 0] 7∧h.size≤w.size∧w2.set w.size (.cells (dl d.hd (.slice a0 d.hd.ls.length c0) (.slice a1 d.lines.length c1) (.slice a2 d.labels.length c2)) 7)=w3∧Ext w w3∧w3.size=w.size+1 ∧
  w3.get w.size= .cells (dl d.hd (.slice a0 d.hd.ls.length c0) (.slice a1 d.lines.length c1) (.slice a2 d.labels.length c2)) 7:=by
 obtain ⟨a0,c0,a1,c1,a2,c2,rfl, -⟩:=D
 obtain ⟨w2,e2,x2,hs2,z2⟩:=lay1 w (.cells [.string ByteArray.empty,.string ByteArray.empty,.string ByteArray.empty,.string ByteArray.empty,.slice none 0 0,.slice none 0 0,.slice none 0 0] 7)
 obtain ⟨w3,e3,x3,hs3,z3,k3⟩:=put1 x2 (Nat.le_refl _) (.cells (dl d.hd (.slice a0 d.hd.ls.length c0) (.slice a1 d.lines.length c1) (.slice a2 d.labels.length c2)) 7)
 exact ⟨a0,c0,a1,c1,a2,c2,w2,w3,rfl,e2,z2,x.1,e3,x3,by omega,z3⟩
set_option maxHeartbeats 1000000 in
theorem Zes (rows:List ByteArray) (ls:List (List Int)) (h:Heap) {a:Option Addr} {c:Nat} (s:Sl h 1 a rows.length c (sv rows)) (hn:rows.length≤9223372036854775807) (hz:∀ r ∈ rows,r.size≤9223372036854775807)
  {la:Option Addr} {lc:Nat} {vs:List Value} (sl:Sl h 1 la ls.length lc vs) (hv:∀ (i:Nat) (l:List Int),ls[i]? =some l→∃ v,vs[i]? =some v∧Ln h v l) (hls:ls.length≤9223372036854775807) :
  Runs K 7 #[.slice a rows.length c,.slice la ls.length lc] h fun r w=>r= .bool true:=by
 refine Runs.of Kok (Does.intro rfl Ye Tryz.func7 rfl ?_)
 simp +decide only [go_sem,WR,WS]
 refine Zaa Kok (Nat.le_refl _) (Znx rows h s hn hz) fun r w1 x1 hr=> ?_
 rcases hr with rfl | ⟨q,b,q',b',rfl,E,E',n1,n2,n3,n4,h40,hbad⟩
 ·simp +decide only [go_sem,WR,WS]
  refine Zaa Kok x1.1 (Zbi w1) fun r w2 x2 hr=> ?_
  subst hr
  simp +decide only [go_sem,WS]
 have I0:=open_inv rows h40
 have again:=Zk0 hbad
 have hbad1:=Zka hbad
 have ot:=ZkT (Zby (ZaM rows).1)
 have G:=Zea rows
 have few:=(Zfk rows).1
 have mk:=fun (w:Heap) (k:Ext h w)=>Zhj rows w (s.ext k) hn hz
 obtain ⟨d,hd⟩:∃ d,d=(ZaM rows).1:=⟨_,rfl⟩
 rw [← hd] at again ot G few mk E E' I0
 generalize Zd1 (Zby d)=x0 at *
 have ha:(⟨#[226,136,135]⟩:ByteArray)=text [226,136,135]:=rfl
 have hb:text [226,136,135]=runesBytes [8711]:=Ye
 obtain ⟨w2,e2,x2,hs2,z2⟩:=lay1 w1 (.cells (rv [8711]) 1)
 have t2:Ln w2 (.slice (some ⟨w1.size,0,none⟩) 1 big) [8711]:=Ln.new (l:=[8711]) Ya z2
 simp +decide only [go_sem,WR,WS,ha,Zlg hb YI,e2]
 have E2:=E.ext x2
 have E2':=E'.ext x2
 have h0x:0 < x0.rows.length:=by
  obtain ⟨t,ht⟩:=Zcg.1 I0.zero
  exact List.length_pos_of_mem ht
 have hfx:=I0.few
 refine ZaW rfl (Znd (x1.trans x2).1 E2 I0 t2 Yp) fun r w3 hr=> ?_
 rw [Zs8] at hr
 obtain ⟨b1,oa,oc,rfl,E3,hb1,fr3,so3⟩:=hr
 simp only at E3 so3
 have k1:=E.hb
 have k2:=E.hq
 have k3:=E'.hq
 have k4:=E'.hb
 have s2:=x2.1
 have E3':EP h.size w3 q' b' x0:=E2'.frm fr3 (fun hh=>by rcases hh with hh | hh<;>omega) (fun hh=>by rcases hh with hh | hh<;>omega)
 have s3:=fr3.1
 have x13:Ext h w3:=⟨by have:=x1.1;omega,fun k hk=>by
  have:=E.lq
  have:=E.lb
  have:=x1.1
  rw [fr3.2 k Ya (fun hh=>by rcases hh with hh | hh<;>omega),(x1.trans x2).2 k hk]⟩
 have mk1:=fun (w:Heap) (V:EV w (.pointer (some ⟨q,0,none⟩)) x0)=>ZiJ x0 w V Ya (fun r hr=>by
   obtain ⟨p,hp,rfl⟩:=List.mem_map.1 hr
   exact I0.sizes p hp)
 rw [ot,again] at mk1
 simp only at mk1
 simp +decide only [go_sem,WS]
 (rw [WR];simp +decide only [go_sem,WS])
 refine Zaa Kok x13.1 (mk1 w3 (E3.ev h0x)) fun r w4 x4 hr=> ?_
 obtain ⟨u1,rfl,D1⟩:=hr
 have K4:=x13.trans x4
 obtain ⟨a0,ka0,a1,ka1,a2,ka2,w5,w6,rfl,e5,z5,j4,e6,x6,hs6,z6⟩:=put7 K4 D1
 simp only [dl] at e6 z6
 have K6:=K4.trans x6
 simp +decide only [go_sem,WS,dl,e5,z5,j4,e6]
 (rw [WR];simp +decide only [go_sem,WS])
 refine Zaa Kok K6.1 (mk w6 K6) fun r w7 x7 hr=> ?_
 obtain ⟨u2,rfl,D2⟩:=hr
 rw [hbad1]
 have K7:=K6.trans x7
 obtain ⟨b0,kb0,b2,kb2,b3,kb3,w8,w9,rfl,e8,z8,j7,e9,x9,hs9,z9⟩:=put7 K7 D2
 simp only [dl] at e9 z9
 have K9:=K7.trans x9
 simp +decide only [go_sem,WS,dl,e8,z8,j7,e9]
 have z69:w9.get w4.size=_:=((x7.trans x9).2 _ Ya).trans z6
 have ds:=Znb d d w9 (D1.ext (x6.trans (x7.trans x9))) (D2.ext x9) G G Ya Ya
 simp only [dl] at ds
 (rw [WR];simp +decide only [go_sem,WS,z69,z9])
 refine Zaa Kok K9.1 ds fun r w10 x10 hr=> ?_
 subst hr
 have K10:=K9.trans x10
 have X310:=x4.trans (x6.trans (x7.trans (x9.trans x10)))
 have E10:=E3.ext X310
 have E10':=E3'.ext X310
 have dsd:Zq5 d d=true:=by simp [Zq5]
 rw [dsd]
 simp +decide only [go_sem,WS]
 (rw [WR];simp +decide only [go_sem,WS])
 refine Zaa Kok K10.1 (Zfv x0 h0x Ya w10 (E10.ev h0x)) fun r w11 x11 hr=> ?_
 obtain ⟨q2,b2,rfl,C⟩:=hr
 have sz10:=K10.1
 have fin:∀ {W:Heap},Ext w10 W→Runs K 19 #[.pointer (some ⟨q,0,none⟩),.pointer (some ⟨q',0,none⟩)] W fun r w=>r= .bool true:=fun k=>ZlN x0 _ ((E10.ext k).ev h0x) ((E10'.ext k).ev h0x) Ya (fun r hr=>by
   obtain ⟨p,hp,rfl⟩:=List.mem_map.1 hr
   exact I0.sizes p hp) I0.next
 simp +decide only [go_sem,WR,WS]
 refine Zah (α:=Nat × Nat × EdT) (fun i e W=>i.1≤ls.length∧i.1≤20∧e.size=105∧Ext w10 W∧e.get 1= .slice la ls.length lc∧e.get 5= .pointer (some ⟨q,0,none⟩)∧e.get 6= .pointer (some ⟨q',0,none⟩)∧e.get 15= .pointer (some ⟨q2,0,none⟩)∧e.get 16= .int .i64 (i.1:Int) ∧
  EP w10.size W q2 i.2.1 i.2.2∧Inv i.2.2) (fun i=>ls.length - i.1) (0,b2,x0) ?_ ?_
 ·exact ⟨Nat.zero_le _,by omega,Yc,x11,Yc,Yc,Yc,Yc,by simp +decide only [go_sem];rfl,C,I0⟩
 rintro ⟨i,c2,x⟩ e W ⟨hi,hi3,hsz,xW,e1,e5,e6,e15,e16,EW,I⟩ next
 simp only at hi hi3 e16 EW I
 have hW:=K10.trans xW
 by_cases hil:(i:Int) < ((ls.length:Nat):Int)
 case neg =>
  simp +decide only [go_sem,WR,WS,hsz,e1,e16,hil,e5,e6]
  refine Zaa Kok hW.1 (fin xW) fun r w12 x12 hr=> ?_
  subst hr
  simp +decide only [go_sem,WR,WS,hsz]
  refine Zaa Kok (hW.trans x12).1 (Zkv w12) fun r w13 x13 hr=> ?_
  obtain ⟨hw,rfl⟩:=hr
  subst hw
  simp +decide only [go_sem,WR,WS,hsz]
  refine Zaa Kok (hW.trans x12).1 (Zbi _) fun r w2 x2 hr=> ?_
  subst hr
  simp +decide only [go_sem,WR,WS,hsz]
 by_cases h20:(i:Int) < 20
 case neg =>
  simp +decide only [go_sem,WR,WS,hsz,e1,e16,hil,h20,e5,e6]
  refine Zaa Kok hW.1 (fin xW) fun r w12 x12 hr=> ?_
  subst hr
  simp +decide only [go_sem,WR,WS,hsz]
  refine Zaa Kok (hW.trans x12).1 (Zkv w12) fun r w13 x13 hr=> ?_
  obtain ⟨hw,rfl⟩:=hr
  subst hw
  simp +decide only [go_sem,WR,WS,hsz]
  refine Zaa Kok (hW.trans x12).1 (Zbi _) fun r w2 x2 hr=> ?_
  subst hr
  simp +decide only [go_sem,WR,WS,hsz]
 obtain ⟨l,hl⟩:∃ l,ls[i]? =some l:=⟨_,List.getElem?_eq_getElem Ya⟩
 obtain ⟨lv,hlv,tl⟩:=hv i l hl
 obtain ⟨bb0,o0,cs0,rfl,q2',q3',q4'⟩:=sl.one hlv
 have c0:(0:Int)≤(i:Int):=Ya
 have i1:IntKind.i64.wrap ((i:Int)+1)=((i+1:Nat):Int):=Yd
 have q3W:(W.get bb0).read= .cells cs0 1:=by rw [hW.2 bb0 q2'];exact q3'
 simp +decide only [go_sem,WR,WS,hsz,e1,e16,hil,h20,c0,Int.toNat_natCast,q3W,q4']
 refine Zaa Kok hW.1 (ZlP l W (tl.ext hW)) fun r w12 x12 hr=> ?_
 obtain ⟨hw,bb,rfl,hbb⟩:=hr
 subst hw
 cases bb with
 | false =>
   simp +decide only [go_sem,WR,WS,hsz]
   refine Zaa Kok hW.1 (Zbi W) fun r w2 x2 hr=> ?_
   subst hr
   simp +decide only [go_sem,WS,hsz]
 | true =>
   have hll:=hbb rfl
   simp +decide only [go_sem,WS,hsz]
   (rw [WR];simp +decide only [go_sem,WS,hsz,e15,e1,e16,hil,c0,Int.toNat_natCast,q3W,q4'])
   refine ZaW rfl (Znd hW.1 (x:=x) (q:=q2) (b:=c2) ⟨by have:=EW.lq;omega,EW.hq,by have:=EW.lb;omega,EW.hb,EW.ne,EW.ed,EW.row⟩ I (tl.ext hW) Ya) fun r w13 hr=> ?_
   obtain ⟨c3,oa',oc',rfl,E4,hc3,fr4,so4⟩:=hr
   have l2:=EW.lq
   have l3:=EW.lb
   have s4:=fr4.1
   have sW:=xW.1
   have xw4:Ext w10 w13:=⟨by omega,fun k hk=>(fr4.2 k Ya (fun hh=>by rcases hh with hh | hh<;>omega)).trans (xW.2 k hk)⟩
   have I4:=Zs7 I l
   obtain ⟨D,hD⟩:∃ D,D=doS x l:=⟨_,rfl⟩
   rw [← hD] at E4 so4 I4 ⊢
   obtain ⟨out,en,er,y⟩:=D
   simp only at E4 so4 I4 ⊢
   simp +decide only [go_sem,WR,WS,hsz,e16,i1]
   exact next (i+1,c3,y) _ _ ⟨by simp only;omega,by simp only;omega,Yb,xw4,Yk,Yo,Ym,by simp +decide only [go_sem,hsz,e15],Yb,⟨by omega,E4.hq,by simp only;rcases hc3 with hc | hc<;>omega,E4.hb,E4.ne,E4.ed,E4.row⟩,I4⟩ Yj
end Go.Proofs.YtachkofbmodnnaaGreat.D20
