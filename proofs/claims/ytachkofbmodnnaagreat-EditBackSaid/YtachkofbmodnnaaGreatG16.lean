/- Proved here: parts of the way to BEditBack (BR8 BN23 BN24 BN25 BN26); no condition beyond those that each theorem names. -/
import Derived.Test.YtachkofbmodnnaaGreatG15
set_option linter.unusedSimpArgs false
set_option linter.unusedVariables false
namespace Go.Im
theorem ZiH {h w:Heap} (x:Ext h w) {size bytes:Nat} {v:Value} {n k q e:Nat} {xs new C:List Value} (H:Own h.size w size v n xs) (hq:h.size≤q) (hqw:q < w.size) (hg:w.get q= .cells C e) (he:e≠size) (hs:0 < size) (hk:0 < k) (hn:new.length=k*size)
  (hb:2*(n+k)*bytes≤140737488355328) (hc:n+k≤4611686018427387904) (f:Value→List Value) :
  ∃ w1 w2,iapp h.size w size bytes v k (some new)=some (.slice (some ⟨w.size,0,none⟩) (n+k) big,w1)∧w1.get q= .cells C e∧w1.size=w.size+1∧w1.set q (.cells (f (.slice (some ⟨w.size,0,none⟩) (n+k) big)) e)=w2∧Ext h w2∧w2.size=w.size+1 ∧
    w2.get q= .cells (f (.slice (some ⟨w.size,0,none⟩) (n+k) big)) e∧Own h.size w2 size (.slice (some ⟨w.size,0,none⟩) (n+k) big) (n+k) (xs++new)∧∀ b,b < w.size→b≠q→vblk v≠some b→w2.get b=w.get b:=by
 obtain ⟨w1,h1,h2,h3,h4⟩:=ZdC H x.1 hs hk hn hb hc
 have h5:w1.get q= .cells C e:=(h4 q hqw (H.ne hg he)).trans hg
 have x1:Ext h w1:=by
  refine ⟨by have:=x.1;omega,fun b hb=> ?_⟩
  rw [h4 b (by have:=x.1;omega),x.2 b hb]
  rcases H with ⟨rfl,_,_⟩ | ⟨b',rfl,hlo,_,_,_⟩
  ·simp [vblk]
  ·intro hh
   simp only [vblk,Option.some.injEq] at hh
   omega
 obtain ⟨w2,e2,x2,hs2,g2,k2⟩:=put1 x1 hq (.cells (f (.slice (some ⟨w.size,0,none⟩) (n+k) big)) e)
 refine ⟨w1,w2,h1,h5,h3,e2,x2,by omega,g2,?_,fun b hb hbq hv=>(k2 b hbq).trans (h4 b hb hv)⟩
 rcases h2 with ⟨hh,_⟩ | ⟨b,hh,h6,h7,h8,h9⟩
 ·cases hh
 ·cases hh
  exact .inr ⟨w.size,rfl,h6,by omega,by rw [k2 _ Ya];exact h8,h9⟩
end Go.Im
namespace Go.Proofs.YtachkofbmodnnaaGreat.R8
open Go Go.Im Go.Im.Limbs Go.Im.Lexing Go.Im.Dec Go.Proofs Go.RowKit Hd N16 N18 N20 N22 R5 R6 R7
set_option maxRecDepth 100000
def Arr4 (l:List Value):Prop:=∃ a n c b a2 n2 c2 a3 n3 c3,l=[.slice a n c,.bool b,.slice a2 n2 c2,.slice a3 n3 c3]
set_option maxHeartbeats 4000000 in
theorem ZfP (l:List Int) (at':Nat) {v:Value} (h:Heap) (t:Tx h v l) (hm:l.length≤512) (hat:at' < l.length) :
  Runs K 111 #[v,.int .i64 (at':Int)] h fun r w=>(Zbj (l.drop (at'+1))=none∧∃ p,r= .tuple #[.agg p.toArray,.int .i64 0]∧Arr4 p) ∨
   ∃ k p,Zbj (l.drop (at'+1))=some k∧r= .tuple #[.agg p.toArray,.int .i64 ((at'+1+k:Nat):Int)]∧Arr4 p:=by
 obtain ⟨a,c,rfl⟩:=t.open
 refine Runs.of Kok (Does.intro rfl Ye Tryz.func111 rfl ?_)
 obtain ⟨w0,e0',x0,hs0,z0,z1⟩:=lay2 h (.cells [.slice none 0 0,.bool false,.slice none 0 0,.slice none 0 0] 4) (.cells [.slice none 0 0,.bool false,.slice none 0 0,.slice none 0 0] 4)
 have j1:h.size≤h.size+1:=Ya
 have j0:h.size≤h.size:=Nat.le_refl _
 obtain ⟨w1,e1',x1,hs1,g1,k1⟩:=put1 x0 j1 (.cells [.slice none 0 0,.bool true,.slice none 0 0,.slice none 0 0] 4)
 have z0':w1.get h.size=_:=(k1 _ Ya).trans z0
 have i1:IntKind.i64.wrap ((at':Int)+1)=((at'+1:Nat):Int):=Yd
 have i4:IntKind.i64.wrap (((l.length:Nat):Int) - 1)=((l.length - 1:Nat):Int):=Yd
 simp +decide only [go_sem,WR,WS,e0',z1,j1,e1',i1]
 refine Zah (α:=Nat × List Int × Value) (fun k e w=>at'+1≤k.1∧k.1≤l.length∧Zbj (l.drop (at'+1))=(Zbj (l.drop k.1)).map (·+(k.1 - (at'+1)))∧e.size=66∧Ext h w∧h.size+1 < w.size∧e.get 0= .slice a l.length c ∧
  e.get 4= .pointer (some ⟨h.size,0,none⟩)∧e.get 6= .pointer (some ⟨h.size+1,0,none⟩)∧e.get 7= .int .i64 (k.1:Int)∧w.get h.size= .cells [.slice none 0 0,.bool false,.slice none 0 0,.slice none 0 0] 4∧w.get (h.size+1)= .cells [.slice none 0 0,.bool true,k.2.2,.slice none 0 0] 4 ∧
  Own h.size w 1 k.2.2 k.2.1.length (rv k.2.1)∧k.2.1.length≤k.1) (fun k=>l.length - k.1) (at'+1,[],.slice none 0 0) ?_ ?_
 ·refine ⟨Nat.le_refl _,hat,?_,Yc,x1,by omega,Yc,Yc,YW,Yc,z0',g1,Own.nil _ _ _,by simp⟩
  simp
 ·rintro ⟨p,ss,sv⟩ e w ⟨hp1,hp2,htx,hsz,hxw,hws,e0,e4,e6,e7,gh,gq,owns,hss⟩ next
  simp only at hp1 hp2 htx e7 gq owns hss
  rw [ZjR l p] at htx
  obtain ⟨sa,sc,rfl⟩:=owns.shape
  have fin:∀ (vs:Value),∃ w2,w.set h.size (.cells [vs,.bool true,.slice sa ss.length sc,.slice none 0 0] 4)=w2∧w2.get h.size= .cells [vs,.bool true,.slice sa ss.length sc,.slice none 0 0] 4:=fun vs=>by
   obtain ⟨w2,e2,x2,hs2,g2,k2⟩:=put1 hxw j0 (.cells [vs,.bool true,.slice sa ss.length sc,.slice none 0 0] 4)
   exact ⟨w2,e2,g2⟩
  by_cases hpl:(p:Int) < ((l.length:Nat):Int)
  case neg =>
   rw [List.getElem?_eq_none Ya] at htx
   obtain ⟨w2,e2,g2⟩:=fin (.slice none 0 0)
   simp +decide only [go_sem,WR,WS,hsz,e0,e4,e6,e7,gh,gq,hpl,j0,e2,g2]
   exact .inl ⟨htx,_,rfl,⟨_,_,_,_,_,_,_,_,_,_,rfl⟩⟩
  obtain ⟨y,hy⟩:∃ y,l[p]? =some y:=⟨_,List.getElem?_eq_getElem Ya⟩
  rw [hy] at htx
  simp only at htx
  have i0:(0:Int)≤(p:Int):=Ya
  have i2:IntKind.i64.wrap ((p:Int)+1)=((p+1:Nat):Int):=Yd
  have i3:IntKind.i64.wrap (((p+1:Nat):Int)+1)=((p+2:Nat):Int):=Yd
  obtain ⟨b',o',cs',q1,q2,q3,q4⟩:=(t.ext hxw).one hy
  cases q1
  have app:∀ (y:Int),∃ w1 w2 w3,w.push (.cells [.int .i32 y] 1)=w1∧w1.get w.size= .cells [.int .i32 y] 1∧iapp h.size w1 1 4 (.slice sa ss.length sc) 1 (some [.int .i32 y])=some (.slice (some ⟨w1.size,0,none⟩) (ss.length+1) big,w2) ∧
    w2.get (h.size+1)= .cells [.slice none 0 0,.bool true,.slice sa ss.length sc,.slice none 0 0] 4∧w2.set (h.size+1) (.cells [.slice none 0 0,.bool true,.slice (some ⟨w1.size,0,none⟩) (ss.length+1) big,.slice none 0 0] 4)=w3∧Ext h w3∧h.size+1 < w3.size ∧
    w3.get h.size= .cells [.slice none 0 0,.bool false,.slice none 0 0,.slice none 0 0] 4∧w3.get (h.size+1)= .cells [.slice none 0 0,.bool true,.slice (some ⟨w1.size,0,none⟩) (ss.length+1) big,.slice none 0 0] 4∧Own h.size w3 1 (.slice (some ⟨w1.size,0,none⟩) (ss.length+1) big) (ss++[y]).length (rv (ss++[y])):=by
   intro y
   obtain ⟨w1,e1',x1,hs1,g1⟩:=lay1 w (.cells [.int .i32 y] 1)
   have gq1:w1.get (h.size+1)=_:=(x1.2 _ hws).trans gq
   have gh1:w1.get h.size=_:=(x1.2 _ Ya).trans gh
   have o1:=owns.ext x1
   obtain ⟨w2,w3,a1,a2,a3,a4,a5,a6,a7,a8,a9⟩:=ZiH (hxw.trans x1) (bytes:=4) (k:=1) (new:=[.int .i32 y]) o1 j1 Ya gq1 Ya Ya Ya rfl Ya Ya (fun v=>[.slice none 0 0,.bool true,v,.slice none 0 0])
   refine ⟨w1,w2,w3,e1',g1,a1,a2,a4,a5,by omega,(a9 _ Ya Ya (o1.ne gh1 Ya)).trans gh1,a7,?_⟩
   rw [ZfN,List.length_append]
   exact a8
  by_cases h39:y=39
  case neg =>
   rw [if_neg h39] at htx
   obtain ⟨w1,w2,w3,a1,a2,a3,a4,a5,a6,a7,a8,a9,a10⟩:=app y
   simp +decide only [go_sem,WR,WS,hsz,e0,e4,e6,e7,hpl,i0,Int.toNat_natCast,Nat.mul_one,q3,q4,h39,gq,a1,a2,a3,a4,j1,a5,i2]
   refine next (p+1,ss++[y],_) _ _ ⟨by simp only;omega,by simp only;omega,?_,Yb,a6,a7,Yf,Yg,Ym,Yb,a8,a9,a10,by simp;omega⟩ Yj
   rw [htx]
   simp only
   cases Zbj (l.drop (p+1)) with
   | none=>rfl
   | some k=>simp only [Option.map_some];congr 1;omega
  subst h39
  simp only [if_true] at htx
  have fin2:Zbj (l.drop (at'+1))=some (p - (at'+1)+1)→∃ k,Zbj (l.drop (at'+1))=some k∧at'+1+k=p+1:=fun hh=>⟨_,hh,by omega⟩
  have stop:Zbj (l.drop (at'+1))=some (p - (at'+1)+1)→∀ {e:Env},e.size=66→e.get 4= .pointer (some ⟨h.size,0,none⟩)→e.get 6= .pointer (some ⟨h.size+1,0,none⟩)→e.get 7= .int .i64 (p:Int)→True:=fun _ _ _ _ _ _=>trivial
  obtain ⟨w1,wq1,e1',x1,hs1,g1,wq2,wq3⟩:∃ w1:Heap,∃ w2:Heap,w.push (.cells [.int .i64 ((ss.length:Nat):Int)] 1)=w1∧Ext w w1∧w1.size=w.size+1∧w1.set (h.size+1) (.cells [.slice (some ⟨w.size,0,none⟩) 1 1,.bool true,.slice sa ss.length sc,.slice none 0 0] 4)=w2 ∧
    w2.get (h.size+1)= .cells [.slice (some ⟨w.size,0,none⟩) 1 1,.bool true,.slice sa ss.length sc,.slice none 0 0] 4∧(w1.get (h.size+1)= .cells [.slice none 0 0,.bool true,.slice sa ss.length sc,.slice none 0 0] 4∧w2.get h.size= .cells [.slice none 0 0,.bool false,.slice none 0 0,.slice none 0 0] 4∧Ext h w2):=by
   obtain ⟨w1,e1',x1,hs1,g1⟩:=lay1 w (.cells [.int .i64 ((ss.length:Nat):Int)] 1)
   obtain ⟨w2,e2,x2,hs2,g2,k2⟩:=put1 (hxw.trans x1) j1 (.cells [.slice (some ⟨w.size,0,none⟩) 1 1,.bool true,.slice sa ss.length sc,.slice none 0 0] 4)
   exact ⟨w1,w2,e1',x1,hs1,e2,g2,(x1.2 _ hws).trans gq,(k2 _ Ya).trans ((x1.2 _ Ya).trans gh),x2⟩
  obtain ⟨gq1,gh2,xq2⟩:=wq3
  obtain ⟨w5,e5,x5,hs5,g5,k5⟩:=put1 xq2 j0 (.cells [.slice (some ⟨w.size,0,none⟩) 1 1,.bool true,.slice sa ss.length sc,.slice none 0 0] 4)
  obtain ⟨w6,e6',g6⟩:=fin (.slice none 0 0)
  by_cases hend:(p:Int)=((l.length - 1:Nat):Int)
  ·have hnx:l[p+1]? =none:=List.getElem?_eq_none Ya
   have hd:decide ((p:Int)=((l.length - 1:Nat):Int))=true:=by simpa using hend
   rw [hnx,if_neg Yp] at htx
   simp only [Option.map_some] at htx
   have hpk:at'+1+(1+(p - (at'+1)))=p+1:=Ya
   by_cases hone:((ss.length:Nat):Int)=1
   ·simp +decide only [go_sem,WR,WS,hsz,e0,e4,e6,e7,hpl,i0,Int.toNat_natCast,Nat.mul_one,q3,q4,i4,hd,gq,hone,gh,j0,e6',g6,i2]
    exact .inr ⟨_,_,htx,by rw [hpk],⟨_,_,_,_,_,_,_,_,_,_,rfl⟩⟩
   ·simp +decide only [go_sem,WR,WS,hsz,e0,e4,e6,e7,hpl,i0,Int.toNat_natCast,Nat.mul_one,q3,q4,i4,hd,gq,hone,e1',gq1,j1,g1,wq2,gh2,j0,e5,g5,i2]
    exact .inr ⟨_,_,htx,by rw [hpk],⟨_,_,_,_,_,_,_,_,_,_,rfl⟩⟩
  obtain ⟨z,hz⟩:∃ z,l[p+1]? =some z:=⟨_,List.getElem?_eq_getElem Ya⟩
  have hzl:=(List.getElem?_eq_some_iff.1 hz).1
  obtain ⟨b2,o2,cs2,p1,p2,p3,p4⟩:=(t.ext hxw).one hz
  cases p1
  rw [q3] at p3
  cases p3
  have i5:(0:Int)≤((p+1:Nat):Int):=Ya
  have i6:((p+1:Nat):Int) < ((l.length:Nat):Int):=Ya
  by_cases hz39:z=39
  case neg =>
   rw [hz,if_neg (by simpa using hz39)] at htx
   simp only [Option.map_some] at htx
   have hpk:at'+1+(1+(p - (at'+1)))=p+1:=Ya
   by_cases hone:((ss.length:Nat):Int)=1
   ·simp +decide only [go_sem,WR,WS,hsz,e0,e4,e6,e7,hpl,i0,Int.toNat_natCast,Nat.mul_one,q3,q4,i4,hend,i2,i5,i6,p4,hz39,gq,hone,gh,j0,e6',g6]
    exact .inr ⟨_,_,htx,by rw [hpk],⟨_,_,_,_,_,_,_,_,_,_,rfl⟩⟩
   ·simp +decide only [go_sem,WR,WS,hsz,e0,e4,e6,e7,hpl,i0,Int.toNat_natCast,Nat.mul_one,q3,q4,i4,hend,i2,i5,i6,p4,hz39,gq,hone,e1',gq1,j1,g1,wq2,gh2,j0,e5,g5]
    exact .inr ⟨_,_,htx,by rw [hpk],⟨_,_,_,_,_,_,_,_,_,_,rfl⟩⟩
  subst hz39
  rw [hz,if_pos rfl] at htx
  obtain ⟨w1,w2,w3,a1,a2,a3,a4,a5,a6,a7,a8,a9,a10⟩:=app 39
  simp +decide only [go_sem,WR,WS,hsz,e0,e4,e6,e7,hpl,i0,Int.toNat_natCast,Nat.mul_one,q3,q4,i4,hend,i2,i5,i6,p4,gq,a1,a2,a3,a4,j1,a5,i3]
  refine next (p+2,ss++[39],_) _ _ ⟨by simp only;omega,by simp only;omega,?_,Yb,a6,a7,Yf,Yg,Ym,Yb,a8,a9,a10,by simp;omega⟩ Yj
  rw [htx]
  simp only
  cases Zbj (l.drop (p+2)) with
  | none=>rfl
  | some k=>simp only [Option.map_some];congr 1;omega
set_option maxHeartbeats 4000000 in
theorem Zh1 (l:List Int) (at':Nat) {v:Value} (h:Heap) (t:Tx h v l) (hm:l.length≤512) (hat:at' < l.length) (hbg:begins (l.drop at')=true) :
  Runs K 110 #[v,.int .i64 (at':Int)] h fun r w=>(Zbv 600 (l.drop at')=none∧∃ p,r= .tuple #[.agg p.toArray,.int .i64 0]∧Arr4 p) ∨
   ∃ n m p,Zbv 600 (l.drop at')=some (n,m)∧at' < at'+m∧at'+m≤l.length∧r= .tuple #[.agg p.toArray,.int .i64 ((at'+m:Nat):Int)]∧Arr4 p:=by
 obtain ⟨a,c,rfl⟩:=t.open
 refine Runs.of Kok (Does.intro rfl Ye Tryz.func110 rfl ?_)
 obtain ⟨w0,e0',x0,hs0,z0,z1⟩:=lay2 h (.cells [.slice none 0 0,.bool false,.slice none 0 0,.slice none 0 0] 4) (.cells [.slice none 0 0,.bool false,.slice none 0 0,.slice none 0 0] 4)
 have j1:h.size≤h.size+1:=Ya
 have j0:h.size≤h.size:=Nat.le_refl _
 simp +decide only [go_sem,WR,WS,e0']
 refine Zah (α:=Nat × Nat × Nat × Nat × List Value × Value) (fun k e w=>at'≤k.2.1∧k.2.1≤k.1∧k.1≤l.length∧Zbv 600 (l.drop at')=(Zbv k.2.2.1 (l.drop k.1)).map (addN at' k.2.2.2.1 k.2.1 k.1)∧513≤k.2.2.1+k.1∧e.size=48∧Ext h w∧h.size+1 < w.size ∧
  e.get 0= .slice a l.length c∧e.get 4= .pointer (some ⟨h.size,0,none⟩)∧e.get 6= .pointer (some ⟨h.size+1,0,none⟩)∧e.get 7= .int .i64 (k.2.1:Int)∧e.get 8= .int .i64 (k.1:Int)∧w.get h.size= .cells [.slice none 0 0,.bool false,.slice none 0 0,.slice none 0 0] 4 ∧
  w.get (h.size+1)= .cells [.slice none 0 0,.bool false,.slice none 0 0,k.2.2.2.2.2] 4∧Own h.size w 3 k.2.2.2.2.2 k.2.2.2.1 k.2.2.2.2.1∧k.2.2.2.1≤k.1∧(k.2.2.2.1=0→k.1=at')∧(0 < k.2.2.2.1→at' < k.2.1)) (fun k=>l.length - k.1) (at',at',600,0,[],.slice none 0 0) ?_ ?_
 ·refine ⟨Nat.le_refl _,Nat.le_refl _,by omega,?_,by simp only;omega,Yc,x0,by omega,Yc,Yc,Yc,Yc,Yc,z0,z1,Own.nil _ _ _,by simp,by simp,by simp⟩
  cases hq:Zbv 600 (l.drop at') with
  | none=>rfl
  | some r =>
    obtain ⟨n,m⟩:=r
    simp only [Option.map_some,addN,Nat.sub_self,Nat.zero_add,Option.some.injEq]
    split
    ·rename_i h0'
     have h0':n=0:=h0'
     subst h0'
     exact absurd hq (Zh9 (f:=599) hbg)
    ·rfl
 ·rintro ⟨p,upto,f,n,xs,sv⟩ e w ⟨hp1,hp2,hp3,hnm,hf,hsz,hxw,hws,e0,e4,e6,e7,e8,gh,gq,owns,hnp,hz,hpos⟩ next
  simp only at hp1 hp2 hp3 hnm hf e7 e8 gq owns hnp hz hpos
  obtain ⟨g,rfl⟩:∃ g,f=g+1:=⟨f - 1,by omega⟩
  cases hbp:begins (l.drop p) with
  | false =>
    have hn:Zbv (g+1) (l.drop p)=some (0,0):=by rw [Zcn,hbp];rfl
    rw [hn] at hnm
    simp only [Option.map_some,addN,if_true] at hnm
    have hq0:0 < n:=by
     refine Nat.pos_of_ne_zero fun hh=> ?_
     have:=hz hh
     subst this
     rw [hbg] at hbp
     cases hbp
    have hto:=hpos hq0
    have htl:at'+(upto - at')=upto:=Ya
    simp +decide only [go_sem,WR,WS,hsz,e0,e4,e6,e7,e8]
    refine Zaa Kok hxw.1 (ZcG l p w (t.ext hxw) Ya hp3) fun r w1 x1 hr=> ?_
    rw [hbp] at hr
    subst hr
    have x01:=hxw.trans x1
    obtain ⟨sa,sc,rfl⟩:=owns.shape
    have gq1:w1.get (h.size+1)=_:=(x1.2 _ hws).trans gq
    have gh1:w1.get h.size=_:=(x1.2 _ Ya).trans gh
    by_cases h1:((n:Nat):Int)=1
    ·obtain ⟨w2,e2,x2,hs2,g2,k2⟩:=put1 x01 j0 (.cells [.slice none 0 0,.bool false,.slice none 0 0,.slice sa n sc] 4)
     simp +decide only [go_sem,WR,WS,hsz,e0,e4,e6,e7,e8,gq1,h1,gh1,j0,e2,g2]
     exact .inr ⟨_,_,_,hnm,by omega,by omega,by rw [htl],⟨_,_,_,_,_,_,_,_,_,_,rfl⟩⟩
    ·obtain ⟨w2,e2,x2,hs2,g2⟩:=lay1 w1 (.cells [.int .i64 (n:Int)] 1)
     have hws1:h.size+1 < w1.size:=by have:=x1.1;omega
     have gq2:w2.get (h.size+1)=_:=(x2.2 _ hws1).trans gq1
     have gh2:w2.get h.size=_:=(x2.2 _ Ya).trans gh1
     obtain ⟨w3,e3,x3,hs3,g3,k3⟩:=put1 (x01.trans x2) j1 (.cells [.slice (some ⟨w1.size,0,none⟩) 1 1,.bool false,.slice none 0 0,.slice sa n sc] 4)
     have gh3:w3.get h.size=_:=(k3 _ Ya).trans gh2
     obtain ⟨w4,e4',x4,hs4,g4,k4⟩:=put1 x3 j0 (.cells [.slice (some ⟨w1.size,0,none⟩) 1 1,.bool false,.slice none 0 0,.slice sa n sc] 4)
     simp +decide only [go_sem,WR,WS,hsz,e0,e4,e6,e7,e8,gq1,h1,e2,gq2,j1,g2,e3,g3,gh3,j0,e4',g4]
     exact .inr ⟨_,_,_,hnm,by omega,by omega,by rw [htl],⟨_,_,_,_,_,_,_,_,_,_,rfl⟩⟩
  | true =>
    have hunf:Zbv (g+1) (l.drop p)=match ZdY (l.drop p) with
     | none=>none
     | some k=>match Zbv g (l.drop (p+(k+blanks (l.drop (p+k))))) with
       | none=>none
       | some (0,_)=>some (1,k)
       | some (n+1,m)=>some (n+2,k+blanks (l.drop (p+k))+m):=by
     rw [Zcn,hbp,if_pos rfl]
     cases ZdY (l.drop p) with
     | none=>rfl
     | some k =>
       simp only [List.drop_drop]
       cases Zbv g (l.drop (p+(k+blanks (l.drop (p+k))))) with
       | none=>rfl
       | some r =>
         obtain ⟨n,m⟩:=r
         cases n<;>rfl
    simp +decide only [go_sem,WR,WS,hsz,e0,e4,e6,e7,e8]
    refine Zaa Kok hxw.1 (ZcG l p w (t.ext hxw) Ya hp3) fun r w1 x1 hr=> ?_
    rw [hbp] at hr
    subst hr
    have x01:=hxw.trans x1
    simp +decide only [go_sem,WR,WS,hsz,e0,e4,e6,e7,e8]
    refine Zaa Kok x01.1 (ZlZ l p w1 (t.ext x01) hm hp3 hbp) fun r w2 x2 hr=> ?_
    have x02:=x01.trans x2
    have hws2:h.size+1 < w2.size:=by have:=x1.1;have:=x2.1;omega
    have gq2:w2.get (h.size+1)=_:=((x1.trans x2).2 _ hws).trans gq
    have gh2:w2.get h.size=_:=((x1.trans x2).2 _ Ya).trans gh
    obtain ⟨sa,sc,rfl⟩:=owns.shape
    have j2:=x02.1
    rcases hr with ⟨hrd,rfl⟩ | ⟨k,hrd,hk1,hk2,rfl⟩
    ·obtain ⟨w3,e3,x3,hs3,g3⟩:=lay1 w2 (.cells [.bool false,.string ByteArray.empty,.string ByteArray.empty] 3)
     obtain ⟨w4,e4',x4,hs4,g4,k4⟩:=put1 (x02.trans x3) j2 (.cells [.bool false,.string (text (ds 0)),.string (text (ds 1))] 3)
     have gq4:w4.get (h.size+1)=_:=(k4 _ Ya).trans ((x3.2 _ hws2).trans gq2)
     have gh4:w4.get h.size=_:=(k4 _ Ya).trans ((x3.2 _ Ya).trans gh2)
     obtain ⟨w5,e5,x5,hs5,g5,k5⟩:=put1 x4 j0 (.cells [.slice none 0 0,.bool false,.slice none 0 0,.slice sa n sc] 4)
     rw [hunf,hrd] at hnm
     simp only [Option.map_none] at hnm
     simp +decide only [go_sem,WR,WS,numA,hsz,e0,e4,e6,e7,e8,e3,g3,j2,e4',gq4,gh4,j0,e5,g5]
     exact .inl ⟨hnm,_,rfl,⟨_,_,_,_,_,_,_,_,_,_,rfl⟩⟩
    unfold ratN numA
    generalize ((Zhb (l.drop p)).1 && decide ((Zhb (l.drop p)).2.1≠0))=sg
    generalize text (ds (Go.Proofs.YtachkofbmodnnaaGreat.N14.scM (Zhb (l.drop p)).2.1 (Zhb (l.drop p)).2.2))=M
    generalize text (ds (Go.Proofs.YtachkofbmodnnaaGreat.N14.scK (Zhb (l.drop p)).2.1 (Zhb (l.drop p)).2.2))=D
    obtain ⟨w3,e3,x3,hs3,g3⟩:=lay1 w2 (.cells [.bool false,.string ByteArray.empty,.string ByteArray.empty] 3)
    obtain ⟨w4,e4',x4,hs4,g4,k4⟩:=put1 (x02.trans x3) j2 (.cells [.bool sg,.string M,.string D] 3)
    have ext24:Ext w2 w4:=⟨by have:=x3.1;omega,fun b hb=>(k4 b Ya).trans (x3.2 b hb)⟩
    obtain ⟨w5,e5,x5,hs5,g5⟩:=lay1 w4 (.cells [.bool sg,.string M,.string D] 3)
    have gq5:w5.get (h.size+1)=_:=((ext24.trans x5).2 _ hws2).trans gq2
    have gh5:w5.get h.size=_:=((ext24.trans x5).2 _ Ya).trans gh2
    have gq4:w4.get (h.size+1)=_:=(ext24.2 _ hws2).trans gq2
    have own5:=(((owns.ext x1).ext x2).ext ext24).ext x5
    obtain ⟨w6,w7,a1,a2,a3,a4,a5,a6,a7,a8,a9⟩:=ZiH (x4.trans x5) (bytes:=40) (k:=1) (new:=[.bool sg,.string M,.string D]) own5 j1 Ya gq5 Ya Ya Ya rfl Ya Ya (fun v=>[.slice none 0 0,.bool false,.slice none 0 0,v])
    have gh7:w7.get h.size=_:=(a9 _ Ya Ya (own5.ne gh5 Ya)).trans gh5
    obtain ⟨B,hB⟩:∃ B,B=blanks (l.drop (p+k)):=⟨_,rfl⟩
    have hBl:p+k+B≤l.length:=by rw [hB];exact Zdk hk1
    rw [hunf,hrd] at hnm
    simp only [← hB] at hnm
    simp +decide only [go_sem,WR,WS,hsz,e0,e4,e6,e7,e8,e3,g3,j2,e4',gq4,g4,e5,gq5,g5,a1,a2,j1,a4]
    refine Zaa Kok a5.1 (Zdz l (p+k) w7 (t.ext a5) Ya hk1) fun r w8 x8 hr=> ?_
    obtain ⟨rfl,rfl⟩:=hr
    rw [← hB]
    simp +decide only [go_sem,WR,WS,hsz]
    refine next (p+k+B,p+k,g,n+1,xs++[.bool sg,.string M,.string D],_) _ _ ⟨by simp only;omega,by simp only;omega,by simp only;omega,?_,by simp only;omega,Yb,a5,by omega,Yf,Yg,Ym,Yb,Yb,gh7,a7,a8,by simp only;omega,by simp,fun _=>by simp only;omega⟩ Yj
    rw [hnm]
    simp only
    rw [show p+(k+B)=p+k+B by omega]
    cases Zbv g (l.drop (p+k+B)) with
    | none=>rfl
    | some r =>
      obtain ⟨n,m⟩:=r
      cases n with
      | zero=>simp [addN];omega
      | succ n=>simp [addN];omega
end Go.Proofs.YtachkofbmodnnaaGreat.R8
namespace Go.Proofs.YtachkofbmodnnaaGreat.N23
open Go Go.Im Go.Im.Limbs Go.Im.Lexing Go.Proofs Go.RowKit Hd N1 N15 N16 N17 N18 N19 N20 N21 N22
set_option maxRecDepth 100000
def Step (low:Nat) (xb:Nat) (tv:Value) (l:List Int) (at':Nat) (xs:List XT) (v:Value) (h':Heap):Prop:=(tokS (l.drop at')=none∧v= .bool false)∨(∃ k,tokS (l.drop at')=some (none,k)∧v= .bool true∧at' < at'+k∧at'+k≤l.length∧LX low h' xb tv (at'+k) xs) ∨
 ∃ tk k rest,tokS (l.drop at')=some (some tk,k)∧v= .bool true∧Arr5 rest∧at' < at'+k∧at'+k≤l.length∧LX low h' xb tv (at'+k) (xs++[((at',tk),rest)])
def Zce (l:List Int) (i:Nat) (c:Int):Bool:=decide (c=9109) && (match l[i+1]? with
 | some d=>decide (kindOf d=2)
 | none=>false)
theorem ZiX {l:List Int} {i:Nat} {c:Int} (h:l[i]? =some c):tokS (l.drop i)=if kindOf c=1 then some (none,1)
  else if begins (l.drop i) then (Zbv 600 (l.drop i)).map fun x=>(some ⟨1,[],0⟩,x.2)
  else if kindOf c=2 then (Zb2 2 (l.drop i)).map fun x=>(some x.1,x.2)
  else if c=39 then (Zbj (l.drop (i+1))).map fun k=>(some ⟨1,[],0⟩,1+k)
  else if Zce l i c=true then (Zb2 3 (l.drop (i+1))).map fun x=>(some x.1,1+x.2)
  else if kindOf c=4∨kindOf c=5 then some (some ⟨4,[],c⟩,1)
  else if kindOf c=6 then some (some ⟨5,[],c⟩,1)
  else if kindOf c=7 then some (some ⟨6,[],c⟩,1)
  else none:=by
 have e0:(l.drop i)[0]? =some c:=by rw [List.getElem?_drop];exact h
 have e1:(l.drop i)[1]? =l[i+1]? :=by rw [List.getElem?_drop]
 have e2:(l.drop i).drop 1=l.drop (i+1):=by rw [List.drop_drop]
 unfold tokS
 rw [e0]
 simp only [e1,e2,Zce,Bool.and_eq_true,decide_eq_true_eq]
 congr
theorem Zmm {h0 h:Heap} (x:Ext h0 h) {l:List Int} {tv:Value} (t:Tx h0 tv l) (hm:l.length≤512) {xb at':Nat} {xs:List XT} (L:LX h0.size h xb tv at' xs) (hat:at' < l.length) :
  Does K h0.size 79 #[.pointer (some ⟨xb,0,none⟩)] h fun v h'=>Step h0.size xb tv l at' xs v h':=by
 have t':=t
 rcases t with ⟨rfl,_⟩ | ⟨b,o,cs,rfl,hb,hgb,hol,hcs⟩
 ·simp at hat
 have hne:l≠[]:=by
  rintro rfl
  simp at hat
 have L':=L
 obtain ⟨hl,hxb,hbd,hall,ov,hg,own,hv⟩:=L
 obtain ⟨c,hc⟩:∃ c,l[at']? =some c:=⟨_,List.getElem?_eq_getElem hat⟩
 have htok:=ZiX hc
 refine Does.intro rfl Ye Tryz.func79 rfl ?_
 have k1:=x.1
 have i0:(0:Int)≤(at':Int):=Ya
 have i1:IntKind.i64.wrap ((at':Int)+1)=((at'+1:Nat):Int):=Yd
 have il:(at':Int) < ((l.length:Nat):Int):=Ya
 obtain ⟨b',o',cs',q1,q2,q3,q4⟩:=(t'.ext x).one hc
 cases q1
 simp +decide only [go_sem,WR,WS,hg,il,i0,Int.toNat_natCast,Nat.mul_one,q3,q4]
 refine Zaa Kok k1 (Zfm c h) fun r w1 x1 hr=> ?_
 subst hr
 have x01:=x.trans x1
 have hg1:w1.get xb=_:=(x1.2 _ hxb).trans hg
 by_cases h1:kindOf c=1
 ·rw [if_pos h1] at htok
  have h1':((kindOf c:Nat):Int)=1:=Ya
  obtain ⟨w2,e2,x2,hs2,g2,k2⟩:=put1 x01 hl (.cells [.slice (some ⟨b,o,none⟩) l.length big,.int .i64 ((at'+1:Nat):Int),ov] 3)
  simp +decide only [go_sem,WR,WS,h1',hg1,i1,hl,e2]
  refine .inr (.inl ⟨1,htok,rfl,by omega,by omega,hl,by have:=x1.1;omega,by omega,hall,ov,g2,?_,hv⟩)
  refine (own.ext x1).keep (Nat.le_refl _) fun q hq hvq=> ?_
  have:q≠xb:=by
   rintro rfl
   exact hv hvq
  exact ⟨k2 q this,by omega⟩
 rw [if_neg h1] at htok
 have h1':¬ ((kindOf c:Nat):Int)=1:=Ya
 simp +decide only [go_sem,WR,WS,h1',hg1]
 refine Zaa Kok x01.1 (Zdl l at' w1 (t'.ext x01) Ya Ya) fun r w2 x2 hr=> ?_
 subst hr
 have x02:=x01.trans x2
 have x12:=x1.trans x2
 have hg2:w2.get xb=_:=(x12.2 _ hxb).trans hg
 have L2:=L'.ext x12
 cases hbg:begins (l.drop at') with
 | true =>
   rw [if_pos hbg] at htok
   simp +decide only [go_sem,WR,WS]
   refine ZaW rfl (Zia x02 t' hm L2 hat hbg) fun r w3 hr=> ?_
   simp +decide only [go_sem,WR,WS]
   rcases hr with ⟨hn,rfl⟩ | ⟨n,m,rest,hn,rfl,ha,hm1,hm2,hL⟩
   ·exact .inl ⟨by rw [htok,hn];rfl,rfl⟩
   ·exact .inr (.inr ⟨_,_,_,by rw [htok,hn];rfl,rfl,ha,hm1,hm2,hL⟩)
 | false =>
 rw [if_neg (by rw [hbg];simp)] at htok
 by_cases h2:kindOf c=2
 ·rw [if_pos h2] at htok
  have h2':((kindOf c:Nat):Int)=2:=Ya
  simp +decide only [go_sem,WR,WS,h2',hg2]
  refine ZaW rfl (ZhN x02 t' hne hm L2 (i:=at') (k:=2) Ya (Nat.le_refl _)) fun r w3 hr=> ?_
  simp +decide only [go_sem,WR,WS]
  rcases hr with ⟨hn,rfl⟩ | ⟨tk,m,rest,hn,rfl,ha,hm1,hm2,hL⟩
  ·exact .inl ⟨by rw [htok,hn];rfl,rfl⟩
  ·exact .inr (.inr ⟨_,_,_,by rw [htok,hn];rfl,rfl,ha,hm1,hm2,hL⟩)
 rw [if_neg h2] at htok
 have h2':¬ ((kindOf c:Nat):Int)=2:=Ya
 by_cases h39:c=39
 ·rw [if_pos h39] at htok
  simp +decide only [go_sem,WR,WS,h2',h39]
  refine ZaW rfl (Zlw x02 t' hm L2 hat) fun r w3 hr=> ?_
  simp +decide only [go_sem,WR,WS]
  rcases hr with ⟨hn,rfl⟩ | ⟨m,rest,hn,rfl,ha,hm1,hm2,hL⟩
  ·exact .inl ⟨by rw [htok,hn];rfl,rfl⟩
  ·exact .inr (.inr ⟨_,1+m,_,by rw [htok,hn];rfl,rfl,ha,by omega,by omega,by rw [← Nat.add_assoc];exact hL⟩)
 rw [if_neg h39] at htok
 simp +decide only [go_sem,WS,h2',h39]
 (rw [WR];simp +decide only [go_sem,WS,h2',h39])
 (rw [WR];simp +decide only [go_sem,WS,h2',h39])
 refine ZhK (J:=fun e w=>e.size=131∧e.get 0= .pointer (some ⟨xb,0,none⟩)∧e.get 3= .int .i32 c∧e.get 4= .int .i64 ((kindOf c:Nat):Int)∧e.get 53= .bool (Zce l at' c)∧Ext h w) YB ?_ ?_
 ·by_cases hq:c=9109
  case neg =>
   have:Zce l at' c=false:=by simp [Zce,hq]
   simp +decide only [go_sem,WR,WS,hq,this]
   exact x12
  by_cases hl2:((at'+1:Nat):Int) < ((l.length:Nat):Int)
  case neg =>
   have:Zce l at' c=false:=by
    unfold Zce
    rw [List.getElem?_eq_none Ya]
    simp
   simp +decide only [go_sem,WR,WS,hq,hg2,i1,hl2]
   rw [hq] at this
   exact ⟨by rw [this],x12⟩
  obtain ⟨d,hd⟩:∃ d,l[at'+1]? =some d:=⟨_,List.getElem?_eq_getElem Ya⟩
  have hqd:Zce l at' c=decide (kindOf d=2):=by simp [Zce,hq,hd]
  have i2:(0:Int)≤((at'+1:Nat):Int):=Ya
  obtain ⟨b2,o2,cs2,p1,p2,p3,p4⟩:=(t'.ext x02).one hd
  cases p1
  simp +decide only [go_sem,WR,WS,hq,hg2,i1,i2,hl2,Int.toNat_natCast,Nat.mul_one,p3,p4]
  refine Zaa Kok x02.1 (Zfm d w2) fun r w3 x3 hr=> ?_
  subst hr
  rw [hq] at hqd
  by_cases hk:kindOf d=2
  ·have hk':((kindOf d:Nat):Int)=2:=by omega
   simp +decide only [go_sem,WR,WS,hk']
   exact ⟨by rw [hqd,hk];rfl,x12.trans x3⟩
  ·have hk':¬ ((kindOf d:Nat):Int)=2:=by omega
   simp +decide only [go_sem,WR,WS,hk']
   exact ⟨by rw [hqd];simp [hk],x12.trans x3⟩
 rintro e w ⟨hsz,e0,e3,e4,e53,hxw⟩
 have x0w:=x.trans hxw
 have hgw:w.get xb=_:=(hxw.2 _ hxb).trans hg
 have Lw:=L'.ext hxw
 cases hqd:Zce l at' c with
 | true =>
   rw [hqd] at e53
   rw [if_pos hqd] at htok
   have hlt:at'+1≤l.length:=hat
   simp +decide only [go_sem,WR,WS,hsz,e0,e3,e4,e53,hgw,i1]
   refine ZaW rfl (ZhN x0w t' hne hm Lw (i:=at'+1) (k:=3) hlt Ya) fun r w3 hr=> ?_
   simp +decide only [go_sem,WR,WS,hsz]
   rcases hr with ⟨hn,rfl⟩ | ⟨tk,m,rest,hn,rfl,ha,hm1,hm2,hL⟩
   ·exact .inl ⟨by rw [htok,hn];rfl,rfl⟩
   ·exact .inr (.inr ⟨_,1+m,_,by rw [htok,hn];rfl,rfl,ha,by omega,by omega,by rw [← Nat.add_assoc];exact hL⟩)
 | false =>
 rw [hqd] at e53
 rw [if_neg (by rw [hqd];simp)] at htok
 have fin:∀ {k:Nat} {w':Heap} {r:Value},tokS (l.drop at')=some (some ⟨k,[],c⟩,1)→(r= .bool true∧LX h0.size w' xb (.slice (some ⟨b,o,none⟩) l.length big) (at'+1) (xs++[((at',⟨k,[],c⟩),[.slice none 0 0,.bool false,.slice none 0 0,.slice none 0 0,.bool false])]))→Step h0.size xb (.slice (some ⟨b,o,none⟩) l.length big) l at' xs r w' :=
  fun ht ⟨h1,h2⟩=> .inr (.inr ⟨_,1,_,ht,h1,⟨_,_,_,_,_,_,_,_,_,_,_,rfl⟩,by omega,by omega,h2⟩)
 by_cases h4:kindOf c=4
 ·rw [if_pos (.inl h4)] at htok
  have h4':((kindOf c:Nat):Int)=4:=Ya
  simp +decide only [go_sem,WR,WS,hsz,e0,e3,e4,e53,hgw,i1,h4']
  refine ZaW rfl (ZbP x0w Lw ⟨4,[],c⟩ (upto:=at'+1) Ya Ya) fun r w3 hr=> ?_
  simp +decide only [go_sem,WR,WS,hsz]
  exact fin htok hr
 have h4':¬ ((kindOf c:Nat):Int)=4:=Ya
 by_cases h5:kindOf c=5
 ·rw [if_pos (.inr h5)] at htok
  have h5':((kindOf c:Nat):Int)=5:=Ya
  simp +decide only [go_sem,WR,WS,hsz,e0,e3,e4,e53,hgw,i1,h5']
  refine ZaW rfl (ZbP x0w Lw ⟨4,[],c⟩ (upto:=at'+1) Ya Ya) fun r w3 hr=> ?_
  simp +decide only [go_sem,WR,WS,hsz]
  exact fin htok hr
 have h5':¬ ((kindOf c:Nat):Int)=5:=Ya
 rw [if_neg (by rintro (hh | hh);exact h4 hh;exact h5 hh)] at htok
 by_cases h6:kindOf c=6
 ·rw [if_pos h6] at htok
  have h6':((kindOf c:Nat):Int)=6:=Ya
  simp +decide only [go_sem,WR,WS,hsz,e0,e3,e4,e53,hgw,i1,h6']
  refine ZaW rfl (ZbP x0w Lw ⟨5,[],c⟩ (upto:=at'+1) Ya Ya) fun r w3 hr=> ?_
  simp +decide only [go_sem,WR,WS,hsz]
  exact fin htok hr
 have h6':¬ ((kindOf c:Nat):Int)=6:=Ya
 rw [if_neg h6] at htok
 by_cases h7:kindOf c=7
 ·rw [if_pos h7] at htok
  have h7':((kindOf c:Nat):Int)=7:=Ya
  simp +decide only [go_sem,WR,WS,hsz,e0,e3,e4,e53,hgw,i1,h7']
  refine ZaW rfl (ZbP x0w Lw ⟨6,[],c⟩ (upto:=at'+1) Ya Ya) fun r w3 hr=> ?_
  simp +decide only [go_sem,WR,WS,hsz]
  exact fin htok hr
 have h7':¬ ((kindOf c:Nat):Int)=7:=Ya
 rw [if_neg h7] at htok
 simp +decide only [go_sem,WR,WS,hsz,e0,e3,e4,e53,hgw,i1,h4',h5',h6',h7']
 exact .inl ⟨htok,rfl⟩
theorem Zig (f at':Nat) (s:List Int):lexF (f+1) at' s=match (s[0]? :Option Int) with
  | none=>some []
  | some c=>if c=9053 then some [] else match tokS s with
    | none=>none
    | some (none,k)=>lexF f (at'+k) (s.drop k)
    | some (some t,k)=>(lexF f (at'+k) (s.drop k)).map ((at',t)::·):=rfl
theorem Zhm (h:Heap) {l:List Int} {tv:Value} (t:Tx h tv l) :
  Runs K 52 #[tv] h fun r w=>(lex l=none∧r= .tuple #[.slice none 0 0,.bool false]) ∨
   ∃ (xs:List XT) (a:Option Addr) (c:Nat),lex l=some (xs.map (·.1))∧(∀ x ∈ xs,Arr5 x.2)∧xs.length≤l.length∧r= .tuple #[.slice a xs.length c,.bool true]∧Sl w 9 a xs.length c (xcs xs):=by
 obtain ⟨a,c,rfl⟩:=t.open
 refine Runs.of Kok (Does.intro rfl Ye Tryz.func52 rfl ?_)
 by_cases h512:(512:Int) < ((l.length:Nat):Int)
 ·have:lex l=none:=by
   unfold lex
   rw [if_pos Ya]
  simp +decide only [go_sem,WR,WS,h512]
  simp [this]
 have hl512:¬ 512 < l.length:=Ya
 obtain ⟨w1,e1,x1,hs1,g1⟩:=lay1 h (.cells [.slice a l.length c,.int .i64 0,.slice none 0 0] 3)
 have hk1:h.size≤w1.size:=x1.1
 simp +decide only [go_sem,WR,WS,h512,e1]
 refine Zah (α:=Nat × Nat × List XT) (fun k e w=>k.1≤l.length∧lex l=(lexF k.2.1 k.1 (l.drop k.1)).map (k.2.2.map (·.1)++·)∧513≤k.2.1+k.1∧e.size=35∧Ext h w∧e.get 0= .slice a l.length c∧e.get 4= .pointer (some ⟨h.size,0,none⟩)∧LX h.size w h.size (.slice a l.length c) k.1 k.2.2) (fun k=>l.length - k.1) (0,600,[]) ?_ ?_
 ·refine ⟨Nat.zero_le _,?_,by simp only;omega,Yc,x1,Yc,Yc,Nat.le_refl _,by omega,by simp,by simp,_,g1,Own.nil _ _ _,by simp [vblk]⟩
  unfold lex
  rw [if_neg hl512]
  simp
 ·rintro ⟨p,f,xs⟩ e w ⟨hp,hlex,hf,hsz,hxw,e0,e4,L⟩ next
  simp only at hp hlex hf L
  have L':=L
  obtain ⟨hl,hxb,hbd,hall,ov,hg,own,hv⟩:=L
  obtain ⟨g,rfl⟩:∃ g,f=g+1:=⟨f - 1,by omega⟩
  have hb0:(l.drop p)[0]? =l[p]? :=by rw [List.getElem?_drop,Nat.add_zero]
  rw [Zig,hb0] at hlex
  obtain ⟨oa,oc,rfl⟩:=own.shape
  by_cases hpl:(p:Int) < ((l.length:Nat):Int)
  case neg =>
   rw [List.getElem?_eq_none Ya] at hlex
   simp +decide only [go_sem,WR,WS,hsz,e0,e4,hg,hpl]
   exact .inr ⟨xs,_,_,by simpa using hlex,hall,by omega,rfl,own.sl⟩
  obtain ⟨y,hy⟩:∃ y,l[p]? =some y:=⟨_,List.getElem?_eq_getElem Ya⟩
  rw [hy] at hlex
  simp only at hlex
  have i0:(0:Int)≤(p:Int):=Ya
  obtain ⟨b',o',cs',q1,q2,q3,q4⟩:=(t.ext hxw).one hy
  cases q1
  by_cases hlamp:y=9053
  ·rw [if_pos hlamp] at hlex
   simp +decide only [go_sem,WR,WS,hsz,e0,e4,hg,hpl,i0,Int.toNat_natCast,Nat.mul_one,q3,q4,hlamp]
   exact .inr ⟨xs,_,_,by simpa using hlex,hall,by omega,rfl,own.sl⟩
  rw [if_neg hlamp] at hlex
  simp +decide only [go_sem,WR,WS,hsz,e0,e4,hg,hpl,i0,Int.toNat_natCast,Nat.mul_one,q3,q4,hlamp]
  refine ZaW rfl (Does.ext Kok hxw (Zmm hxw t Ya L' Ya)) fun r w2 hr=> ?_
  obtain ⟨hx2,hr⟩:=hr
  rcases hr with ⟨ht,rfl⟩ | ⟨k,ht,rfl,hk1,hk2,hL⟩ | ⟨tk,k,rest,ht,rfl,ha,hk1,hk2,hL⟩
  ·rw [ht] at hlex
   simp +decide only [go_sem,WR,WS,hsz,e0,e4]
   simpa using hlex
  ·rw [ht] at hlex
   simp only [List.drop_drop] at hlex
   simp +decide only [go_sem,WR,WS,hsz,e0,e4]
   exact next (p+k,g,xs) _ _ ⟨hk2,hlex,by simp only;omega,Yb,hx2,Yf,Yg,hL⟩ Yj
  ·rw [ht] at hlex
   simp only [List.drop_drop] at hlex
   simp +decide only [go_sem,WR,WS,hsz,e0,e4]
   refine next (p+k,g,xs++[((p,tk),rest)]) _ _ ⟨hk2,?_,by simp only;omega,Yb,hx2,Yf,Yg,hL⟩ Yj
   rw [hlex]
   simp only [Option.map_map]
   congr 1
   funext z
   simp
end Go.Proofs.YtachkofbmodnnaaGreat.N23
namespace Go.Im.Lexing
abbrev rem (m s:List Int):List Int:=s++9053::m
theorem Zpz (s:List Int):hi s≤s.length:=by
 unfold hi
 split
 ·rename_i h
  exact (List.getElem?_eq_some_iff.1 h).1
 ·omega
theorem ZjB (s:List Int):(digs s).length≤s.length:=Zgh s
theorem Zkn {s:List Int} {k:Nat} (h:Zcv s=some k):k≤s.length:=by
 unfold Zcv at h
 split at h
 ·rename_i h0
  have h1:=(List.getElem?_eq_some_iff.1 h0).1
  have h2:=Zpz (s.drop 1)
  have h3:=ZjB (s.drop (1+hi (s.drop 1)))
  rw [List.length_drop] at h2 h3
  split at h
  ·cases h
  ·cases h
   omega
 ·cases h
  omega
theorem ZuL (s:List Int):pt s≤1∧pt s≤s.length:=by
 unfold pt
 split
 ·rename_i h
  exact ⟨Nat.le_refl _,(List.getElem?_eq_some_iff.1 h).1⟩
 ·omega
theorem Zn6 {s:List Int} {k:Nat} (h:ZdY s=some k):1≤k∧k≤s.length:=by
 unfold ZdY at h
 have h1:=Zpz s
 have h2:=ZjB (s.drop (hi s))
 have h3:=ZuL (s.drop (hi s+(digs (s.drop (hi s))).length))
 rw [List.length_drop] at h2 h3
 simp only at h
 by_cases hp:pt (s.drop (hi s+(digs (s.drop (hi s))).length))=1
 ·rw [hp] at h h3
  have h4:=ZjB (s.drop (hi s+(digs (s.drop (hi s))).length+1))
  rw [List.length_drop] at h4
  simp only [if_true] at h
  split at h
  ·cases h
  ·split at h
   ·cases h
   ·rename_i k' hk
    have h5:=Zkn hk
    rw [List.length_drop] at h5
    split at h
    ·cases h
    ·cases h
     omega
 ·have hp0:pt (s.drop (hi s+(digs (s.drop (hi s))).length))=0:=by omega
  rw [hp0] at h
  simp only [Nat.zero_ne_one,if_false,false_and,Nat.add_zero] at h
  split at h
  ·cases h
  ·rename_i k' hk
   have h5:=Zkn hk
   rw [List.length_drop] at h5
   split at h
   ·cases h
   ·cases h
    omega
theorem Znu (s:List Int):blanks s≤s.length:=Zgh s
theorem Zqd (f:Nat) (s:List Int):Zbv (f+1) s=if begins s then match ZdY s with
   | none=>none
   | some k=>match Zbv f (s.drop (k+blanks (s.drop k))) with
     | none=>none
     | some (0,_)=>some (1,k)
     | some (n+1,m)=>some (n+2,k+blanks (s.drop k)+m)
  else some (0,0):=rfl
theorem Zj7:∀ (f:Nat) {s:List Int} {n m:Nat},Zbv f s=some (n,m)→m≤s.length∧(begins s=true→1≤m)
 | 0,s,n,m,h=>by cases h
 | f+1,s,n,m,h=>by
   rw [Zqd] at h
   split at h
   ·rename_i hb
    split at h
    ·cases h
    ·rename_i k hk
     have h1:=Zn6 hk
     have h2:=Znu (s.drop k)
     rw [List.length_drop] at h2
     split at h
     ·cases h
     ·cases h
      exact ⟨h1.2,fun _=>h1.1⟩
     ·rename_i n' m' hq
      have h3:=(Zj7 f hq).1
      rw [List.length_drop] at h3
      cases h
      exact ⟨by omega,fun _=>by omega⟩
   ·rename_i hb
    cases h
    exact ⟨by omega,fun hh=>absurd hh hb⟩
theorem ZnU {s:List Int} {k:Nat} (h:Zbj s=some k):1≤k∧k≤s.length:=Go.Proofs.YtachkofbmodnnaaGreat.N20.ZhR h
theorem ZjI {k:Nat} {s:List Int} {x:Tk × Nat} (h:Zb2 k s=some x):1≤x.2∧x.2≤s.length:=by
 unfold Zb2 at h
 split at h
 ·rename_i hn
  cases h
  exact ⟨Go.Proofs.YtachkofbmodnnaaGreat.N20.ZeJ hn,Zgh s⟩
 ·cases h
end Go.Im.Lexing
namespace Go.Im.Lexing
open Go.Proofs.YtachkofbmodnnaaGreat.N23
theorem ZfD (c:Int) (s:List Int):tokS (c::s)=if kindOf c=1 then some (none,1)
  else if begins (c::s) then (Zbv 600 (c::s)).map fun x=>(some ⟨1,[],0⟩,x.2)
  else if kindOf c=2 then (Zb2 2 (c::s)).map fun x=>(some x.1,x.2)
  else if c=39 then (Zbj s).map fun k=>(some ⟨1,[],0⟩,1+k)
  else if Zce (c::s) 0 c=true then (Zb2 3 s).map fun x=>(some x.1,1+x.2)
  else if kindOf c=4∨kindOf c=5 then some (some ⟨4,[],c⟩,1)
  else if kindOf c=6 then some (some ⟨5,[],c⟩,1)
  else if kindOf c=7 then some (some ⟨6,[],c⟩,1)
  else none:=by
 have:=ZiX (l:=c::s) (i:=0) (c:=c) rfl
 simpa using this
theorem Zex {s:List Int} {t:Option Tk} {k:Nat} (h:tokS s=some (t,k)):1≤k∧k≤s.length:=by
 cases s with
 | nil=>cases h
 | cons c s =>
   rw [ZfD] at h
   simp only [List.length_cons]
   split at h
   ·cases h;omega
   ·split at h
    ·rename_i hb
     simp only [Option.map_eq_some_iff,Prod.mk.injEq] at h
     obtain ⟨⟨n,m⟩,h1,_,rfl⟩:=h
     have:=Zj7 600 h1
     simp only [List.length_cons] at this
     exact ⟨this.2 hb,this.1⟩
    ·split at h
     ·simp only [Option.map_eq_some_iff,Prod.mk.injEq] at h
      obtain ⟨x,h1,_,rfl⟩:=h
      exact ZjI h1
     ·split at h
      ·simp only [Option.map_eq_some_iff,Prod.mk.injEq] at h
       obtain ⟨x,h1,_,rfl⟩:=h
       have:=ZnU h1
       omega
      ·split at h
       ·simp only [Option.map_eq_some_iff,Prod.mk.injEq] at h
        obtain ⟨x,h1,_,rfl⟩:=h
        have:=ZjI h1
        omega
       ·split at h
        ·cases h;omega
        ·split at h
         ·cases h;omega
         ·split at h
          ·cases h;omega
          ·cases h
theorem Zpi (f at':Nat) (c:Int) (s:List Int):lexF (f+1) at' (c::s)=if c=9053 then some [] else match tokS (c::s) with
   | none=>none
   | some (none,k)=>lexF f (at'+k) ((c::s).drop k)
   | some (some t,k)=>(lexF f (at'+k) ((c::s).drop k)).map ((at',t)::·):=rfl
theorem Zij:kindOf 32=1:=by decide
def Zeu (l:List Int):Nat→List (Nat × Tk)→Prop
 | _,[]=>True
 | p,t::ts=>p≤t.1∧(∃ c,l[t.1]? =some c∧c≠32)∧Zeu l (t.1+1) ts
theorem Zeu.mono {l:List Int} {p q:Nat} (hpq:p≤q):∀ {ts:List (Nat × Tk)},Zeu l q ts→Zeu l p ts
 | [],_=>trivial
 | t::ts,h=>⟨Nat.le_trans hpq h.1,h.2⟩
theorem ZdE (l:List Int):∀ (f p:Nat) {ts:List (Nat × Tk)},lexF f p (l.drop p)=some ts→Zeu l p ts
 | 0,_,_,h=>by cases h
 | f+1,p,ts,h=>by
   cases hc:l[p]? with
   | none =>
     rw [List.drop_of_length_le (by simpa using hc)] at h
     cases h
     trivial
   | some c =>
     have hp:=(List.getElem?_eq_some_iff.1 hc).1
     have e1:l.drop p=c::l.drop (p+1):=by
      rw [List.drop_eq_getElem_cons hp,(List.getElem?_eq_some_iff.1 hc).2]
     have hd:∀ k,(c::l.drop (p+1)).drop k=l.drop (p+k):=fun k=>by rw [← e1,List.drop_drop]
     rw [e1,Zpi] at h
     split at h
     ·cases h
      trivial
     ·split at h
      ·cases h
      ·rename_i k ht
       have h1:=Zex ht
       rw [hd] at h
       exact (ZdE l f (p+k) h).mono Ya
      ·rename_i t k ht
       have h1:=Zex ht
       rw [hd] at h
       simp only [Option.map_eq_some_iff] at h
       obtain ⟨ts',h2,rfl⟩:=h
       refine ⟨Nat.le_refl _,⟨c,hc,?_⟩,(ZdE l f (p+k) h2).mono Yj⟩
       rintro rfl
       rw [ZfD,if_pos Zij] at ht
       cases ht
theorem ZgN {l:List Int} {ts:List (Nat × Tk)} (h:lex l=some ts):Zeu l 0 ts:=by
 unfold lex at h
 split at h
 ·cases h
 ·exact ZdE l 600 0 h
theorem Zeu.at {l:List Int}:∀ {p:Nat} {ts:List (Nat × Tk)} {i:Nat} {t:Nat × Tk},Zeu l p ts→ts[i]? =some t→p≤t.1∧(∃ c,l[t.1]? =some c∧c≠32)∧(∀ u,0 < i→ts[i - 1]? =some u→u.1 < t.1)
 | p,[],i,t,_,h=>by simp at h
 | p,u::ts,0,t,hr,h=>by
   cases h
   exact ⟨hr.1,hr.2.1,fun _ h0=>by omega⟩
 | p,u::ts,i+1,t,hr,h=>by
   have h1:=Zeu.at hr.2.2 (i:=i) YO
   have h2:=hr.1
   refine ⟨by omega,h1.2.1,fun v _ hv=> ?_⟩
   cases i with
   | zero =>
     cases hv
     omega
   | succ i=>exact h1.2.2 v Ya (by simpa using hv)
end Go.Im.Lexing
namespace Go.Im
theorem Zmf {low:Nat} {h w:Heap} (hlow:low≤h.size) (x:Ext h w) {size bytes:Nat} {v:Value} {n k:Nat} {xs new:List Value} (H:Own h.size w size v n xs) (hs:0 < size) (hn:new.length=k*size)
  (hb:2*(n+k)*bytes≤140737488355328) (hc:n+k≤4611686018427387904) :
  ∃ a c w',iapp low w size bytes v k (some new)=some (.slice a (n+k) c,w')∧Own h.size w' size (.slice a (n+k) c) (n+k) (xs++new)∧Ext h w'∧(c=0∨c=big):=by
 by_cases h0:k=0
 ·subst h0
  have hn0:new=[]:=List.eq_nil_of_length_eq_zero Ya
  subst hn0
  rcases H with ⟨rfl,rfl,rfl⟩ | ⟨b,rfl,h2,h3,h4,h5⟩
  ·refine ⟨none,0,w,?_,.inl ⟨rfl,rfl,rfl⟩,x,.inl rfl⟩
   simp [iapp]
  ·refine ⟨some ⟨b,0,none⟩,big,w,?_,.inr ⟨b,rfl,h2,h3,by rw [List.append_nil];exact h4,by rw [List.append_nil];exact h5⟩,x,.inr rfl⟩
   simp only [iapp,Nat.add_zero] at hb hc ⊢
   rw [if_neg Ya,if_pos trivial]
 ·obtain ⟨w',h1,h2,_,h4⟩:=Zbu hlow x H hs Ya hn hb hc
  exact ⟨_,_,w',h1,h2,h4,.inr rfl⟩
end Go.Im
namespace Go.Proofs.YtachkofbmodnnaaGreat.N26
open Go Go.Im Go.Im.Limbs Go.Im.Lexing Go.Proofs Go.RowKit Hd N1 N15 N16 N17 N18 N19 N23
set_option maxRecDepth 100000
theorem Zg3 {x:XT} (h:Arr5 x.2):(tc4 x.1++x.2).length=9:=by
 obtain ⟨a,n,c,b,a2,n2,c2,a3,n3,c3,m,h⟩:=h
 rw [h]
 rfl
theorem Zo1:∀ {xs:List XT} {i:Nat} {x:XT},(∀ x ∈ xs,Arr5 x.2)→xs[i]? =some x→((xcs xs).drop (i*9)).take 9=tc4 x.1++x.2
 | [],i,x,_,h=>by simp at h
 | y::xs,0,x,hA,h=>by
   cases h
   have h1:=Zg3 (hA y Yp)
   simp only [xcs,List.flatMap_cons,Nat.zero_mul,List.drop_zero]
   rw [← h1,List.take_left']
   rfl
 | y::xs,i+1,x,hA,h=>by
   have h1:=Zg3 (hA y Yp)
   have h2:=Zo1 (xs:=xs) (i:=i) (fun z hz=>hA z (by simp [hz])) YO
   rw [← h2]
   simp only [xcs,List.flatMap_cons]
   have:(i+1)*9=9+i*9:=by omega
   rw [this,← List.drop_drop,← h1,List.drop_left']
   rfl
theorem Sl.tok {h:Heap} {a:Option Addr} {n c i:Nat} {xs:List XT} {x:XT} (s:Sl h 9 a n c (xcs xs)) (hA:∀ x ∈ xs,Arr5 x.2) (hn:xs.length=n) (hx:xs[i]? =some x) :
  ∃ b o cs,a=some ⟨b,o,none⟩∧b < h.size∧(h.get b).read= .cells cs 9∧cs[o+i*9]? =some (.int .i64 (x.1.2.kind:Int))∧cs[o+i*9+1]? =some (.int .i64 (x.1.1:Int))∧cs[o+i*9+2]? =some (.string (runesBytes x.1.2.word)) ∧
    cs[o+i*9+3]? =some (.int .i32 x.1.2.sign)∧(cs.drop (o+i*9)).take 9=tc4 x.1++x.2∧o+i*9+9≤cs.length:=by
 have hi:i < n:=by rw [← hn];exact (List.getElem?_eq_some_iff.1 hx).1
 obtain ⟨b,o,cs,h1,h2,h3,h4,h5⟩:=s.at hi
 have h6:=Zo1 hA hx
 have h9:i*9+9≤n*9:=Ya
 rw [h5,List.drop_take,List.take_take,List.drop_drop,Nat.min_eq_left Ya] at h6
 have hj:∀ j,j < 9→cs[o+i*9+j]? =(tc4 x.1++x.2)[j]? :=by
  intro j hj
  rw [← h6,List.getElem?_take,if_pos hj,List.getElem?_drop]
 exact ⟨b,o,cs,h1,h2,h3,(hj 0 Ya).trans rfl,(hj 1 Ya).trans rfl,(hj 2 Ya).trans rfl,(hj 3 Ya).trans rfl,h6,by omega⟩
end Go.Proofs.YtachkofbmodnnaaGreat.N26
