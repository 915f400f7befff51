/- Proved here: parts of the way to CTokenCuts (CV8 CV9); no condition beyond those that each theorem names. -/
import Derived.Test.YtjlaenglmdpboaaGreatK13
import Derived.Test.YtjlaenglmdpboaaGreatK14
set_option linter.unusedSimpArgs false
set_option linter.unusedVariables false
namespace Go.Im.Lexing
open Go.Im.Limbs Go.Im.Arrays Go.Im.Dec Go.Proofs.YtjlaenglmdpboaaGreat.R8 Go.Proofs.YtjlaenglmdpboaaGreat.N19
def qcs (l:List R3):List Value:=l.flatMap fun x=>[.bool x.1,.string (text (ds x.2.1)),.string (text (ds x.2.2))]
theorem qcs_append (l m:List R3):qcs (l++m)=qcs l++qcs m:=by simp [qcs]
def PG (w:Heap) (rest:List Value) (p:AT):Prop:=∃ a c a1 c1 a2 c2,rest=[.slice a p.shape.length c,.bool p.ch,.slice a1 p.tx.length c1,.slice a2 p.nums.length c2] ∧
 Sl w 1 a p.shape.length c (iv p.shape)∧Sl w 1 a1 p.tx.length c1 (rv p.tx)∧Sl w 3 a2 p.nums.length c2 (qcs p.nums)
theorem PG.ext {w w':Heap} (k:Ext w w') {rest:List Value} {p:AT} (H:PG w rest p):PG w' rest p:=by
 obtain ⟨a,c,a1,c1,a2,c2,h1,h2,h3,h4⟩:=H
 exact ⟨a,c,a1,c1,a2,c2,h1,h2.ext k,h3.ext k,h4.ext k⟩
theorem _root_.Go.Im.Sl.oth {h h':Heap} {e9:Nat} {u:Value} {low n9:Nat} {x9:List Value} (hs:h.size≤h'.size) (k:∀ b,b < h.size→vblk u≠some b→h'.get b=h.get b) (O:Own low h e9 u n9 x9) {e:Nat} (he:e≠e9) {a:Option Addr} {n c:Nat} {xs:List Value} (s:Sl h e a n c xs):Sl h' e a n c xs:=by
 rcases s with h0 | h0 | ⟨b,o,cs,g2,g3,g4,g5,g6⟩
 ·exact .inl h0
 ·exact .inr (.inl h0)
 ·refine .inr (.inr ⟨b,o,cs,g2,g3,by omega,?_,g6⟩)
  rw [k b g4]
  ·exact g5
  ·intro hv
   rcases O with ⟨rfl,_⟩ | ⟨b',rfl,_,_,h4,_⟩
   ·cases hv
   ·simp only [vblk,Option.some.injEq] at hv
    subst hv
    rw [h4] at g5
    cases g5
    exact he rfl
theorem PG.oth {h h':Heap} {e9:Nat} {u:Value} {low n9:Nat} {x9:List Value} (hs:h.size≤h'.size) (k:∀ b,b < h.size→vblk u≠some b→h'.get b=h.get b) (O:Own low h e9 u n9 x9) (h1:1≠e9) (h3:3≠e9) {rest:List Value} {p:AT} (H:PG h rest p):PG h' rest p:=by
 obtain ⟨a,c,a1,c1,a2,c2,g1,g2,g3,g4⟩:=H
 exact ⟨a,c,a1,c1,a2,c2,g1,g2.oth hs k O h1,g3.oth hs k O h1,g4.oth hs k O h3⟩
theorem PG.set {w:Heap} {q e9:Nat} {old new:List Value} {rest:List Value} {p:AT} (hg:w.get q= .cells old e9) (ho:old.length=e9) (hq:q < w.size) (h1:1≠e9) (h3:3≠e9) (H:PG w rest p):PG (w.set q (.cells new e9)) rest p:=by
 refine PG.oth (h:=w) (h':=w.set q (.cells new e9)) (u:= .slice (some ⟨q,0,none⟩) 1 big) (low:=0) (n9:=1) (x9:=old) (Nat.le_refl _) (fun b hb hv=> ?_) (.inr ⟨q,rfl,Nat.zero_le _,hq,hg,by omega⟩) h1 h3 H
 rw [Heap.get_set,if_neg]
 rintro rfl
 exact hv rfl
end Go.Im.Lexing
namespace Go.Proofs.YtjlaenglmdpboaaGreat.V8
open Go Go.Im Go.Im.Limbs Go.Im.Lexing Go.Im.Dec Go.Proofs Go.RowKit Hd N16 N18 N20 N22 R5 R6 R7 Go.Im.Arrays R8 V5
set_option maxRecDepth 100000
set_option maxHeartbeats 4000000 in
theorem rtext_val (l:List Int) (at':Nat) {v:Value} (h:Heap) (t:Tx h v l) (hm:l.length≤512) (hat:at' < l.length) :
  Runs K 76 #[v,.int .i64 (at':Int)] h fun r w=>(textF (l.drop (at'+1))=none∧∃ p,r= .tuple #[.agg p.toArray,.int .i64 0]∧Arr4 p) ∨
   ∃ k p,textF (l.drop (at'+1))=some k∧r= .tuple #[.agg p.toArray,.int .i64 ((at'+1+k:Nat):Int)]∧PG w p (textAT (textL (l.drop (at'+1)))):=by
 obtain ⟨a,c,rfl⟩:=t.open
 refine Runs.of Kok (Does.intro rfl (by decide +kernel) Tryz.func76 rfl ?_)
 obtain ⟨w0,e0',x0,hs0,z0,z1⟩:=lay2 h (.cells [.slice none 0 0,.bool false,.slice none 0 0,.slice none 0 0] 4) (.cells [.slice none 0 0,.bool false,.slice none 0 0,.slice none 0 0] 4)
 have j1:h.size≤h.size+1:=by omega
 have j0:h.size≤h.size:=Nat.le_refl _
 obtain ⟨w1,e1',x1,hs1,g1,k1⟩:=put1 x0 j1 (.cells [.slice none 0 0,.bool true,.slice none 0 0,.slice none 0 0] 4)
 have z0':w1.get h.size=_:=(k1 _ (by omega)).trans z0
 have i1:IntKind.i64.wrap ((at':Int)+1)=((at'+1:Nat):Int):=by rw [wrap_i64 (by omega) (by omega)];omega
 have i4:IntKind.i64.wrap (((l.length:Nat):Int) - 1)=((l.length - 1:Nat):Int):=by rw [wrap_i64 (by omega) (by omega)];omega
 simp +decide only [go_sem,WR,WS,e0',z1,j1,e1',i1]
 refine W_loop (α:=Nat × List Int × Value) (fun k e w=>at'+1≤k.1∧k.1≤l.length∧textF (l.drop (at'+1))=(textF (l.drop k.1)).map (·+(k.1 - (at'+1)))∧textL (l.drop (at'+1))=k.2.1++textL (l.drop k.1)∧e.size=66∧Ext h w∧h.size+1 < w.size∧e.get 0= .slice a l.length c ∧
  e.get 4= .pointer (some ⟨h.size,0,none⟩)∧e.get 6= .pointer (some ⟨h.size+1,0,none⟩)∧e.get 7= .int .i64 (k.1:Int)∧w.get h.size= .cells [.slice none 0 0,.bool false,.slice none 0 0,.slice none 0 0] 4∧w.get (h.size+1)= .cells [.slice none 0 0,.bool true,k.2.2,.slice none 0 0] 4 ∧
  Own h.size w 1 k.2.2 k.2.1.length (rv k.2.1)∧k.2.1.length≤k.1) (fun k=>l.length - k.1) (at'+1,[],.slice none 0 0) ?_ ?_
 ·refine ⟨Nat.le_refl _,hat,?_,rfl,by simp +decide only [go_sem],x1,by omega,by simp +decide only [go_sem],by simp +decide only [go_sem],by simp +decide only [go_sem,hs0],by simp +decide only [go_sem],z0',g1,Own.nil _ _ _,by simp⟩
  simp
 ·rintro ⟨p,ss,sv⟩ e w ⟨hp1,hp2,htx,htl,hsz,hxw,hws,e0,e4,e6,e7,gh,gq,owns,hss⟩ next
  simp only at hp1 hp2 htx htl e7 gq owns hss
  rw [textF_at l p] at htx
  rw [textL_at l p] at htl
  obtain ⟨sa,sc,rfl⟩:=owns.shape
  have fin:∀ (vs:Value),∃ w2,w.set h.size (.cells [vs,.bool true,.slice sa ss.length sc,.slice none 0 0] 4)=w2∧w2.get h.size= .cells [vs,.bool true,.slice sa ss.length sc,.slice none 0 0] 4:=fun vs=>by
   obtain ⟨w2,e2,x2,hs2,g2,k2⟩:=put1 hxw j0 (.cells [vs,.bool true,.slice sa ss.length sc,.slice none 0 0] 4)
   exact ⟨w2,e2,g2⟩
  by_cases hpl:(p:Int) < ((l.length:Nat):Int)
  case neg =>
   rw [List.getElem?_eq_none (by omega)] at htx
   obtain ⟨w2,e2,g2⟩:=fin (.slice none 0 0)
   simp +decide only [go_sem,WR,WS,hsz,e0,e4,e6,e7,gh,gq,hpl,j0,e2,g2]
   exact .inl ⟨htx,_,rfl,⟨_,_,_,_,_,_,_,_,_,_,rfl⟩⟩
  obtain ⟨y,hy⟩:∃ y,l[p]? =some y:=⟨_,List.getElem?_eq_getElem (by omega)⟩
  rw [hy] at htx htl
  simp only at htx htl
  have i0:(0:Int)≤(p:Int):=by omega
  have i2:IntKind.i64.wrap ((p:Int)+1)=((p+1:Nat):Int):=by rw [wrap_i64 (by omega) (by omega)];omega
  have i3:IntKind.i64.wrap (((p+1:Nat):Int)+1)=((p+2:Nat):Int):=by rw [wrap_i64 (by omega) (by omega)];omega
  obtain ⟨b',o',cs',q1,q2,q3,q4⟩:=(t.ext hxw).one hy
  cases q1
  have app:∀ (y:Int),∃ w1 w2 w3,w.push (.cells [.int .i32 y] 1)=w1∧w1.get w.size= .cells [.int .i32 y] 1∧iapp h.size w1 1 4 (.slice sa ss.length sc) 1 (some [.int .i32 y])=some (.slice (some ⟨w1.size,0,none⟩) (ss.length+1) big,w2) ∧
    w2.get (h.size+1)= .cells [.slice none 0 0,.bool true,.slice sa ss.length sc,.slice none 0 0] 4∧w2.set (h.size+1) (.cells [.slice none 0 0,.bool true,.slice (some ⟨w1.size,0,none⟩) (ss.length+1) big,.slice none 0 0] 4)=w3∧Ext h w3∧h.size+1 < w3.size ∧
    w3.get h.size= .cells [.slice none 0 0,.bool false,.slice none 0 0,.slice none 0 0] 4∧w3.get (h.size+1)= .cells [.slice none 0 0,.bool true,.slice (some ⟨w1.size,0,none⟩) (ss.length+1) big,.slice none 0 0] 4∧Own h.size w3 1 (.slice (some ⟨w1.size,0,none⟩) (ss.length+1) big) (ss++[y]).length (rv (ss++[y])):=by
   intro y
   obtain ⟨w1,e1',x1,hs1,g1⟩:=lay1 w (.cells [.int .i32 y] 1)
   have gq1:w1.get (h.size+1)=_:=(x1.2 _ hws).trans gq
   have gh1:w1.get h.size=_:=(x1.2 _ (by omega)).trans gh
   have o1:=owns.ext x1
   obtain ⟨w2,w3,a1,a2,a3,a4,a5,a6,a7,a8,a9⟩:=field_app (hxw.trans x1) (bytes:=4) (k:=1) (new:=[.int .i32 y]) o1 j1 (by omega) gq1 (by omega) (by omega) (by omega) rfl (by omega) (by omega) (fun v=>[.slice none 0 0,.bool true,v,.slice none 0 0])
   refine ⟨w1,w2,w3,e1',g1,a1,a2,a4,a5,by omega,(a9 _ (by omega) (by omega) (o1.ne gh1 (by omega))).trans gh1,a7,?_⟩
   rw [rv_append,List.length_append]
   exact a8
  by_cases h39:y=39
  case neg =>
   rw [if_neg h39] at htx htl
   obtain ⟨w1,w2,w3,a1,a2,a3,a4,a5,a6,a7,a8,a9,a10⟩:=app y
   simp +decide only [go_sem,WR,WS,hsz,e0,e4,e6,e7,hpl,i0,Int.toNat_natCast,Nat.mul_one,q3,q4,h39,gq,a1,a2,a3,a4,j1,a5,i2]
   refine next (p+1,ss++[y],_) _ _ ⟨by simp only;omega,by simp only;omega,?_,by rw [htl];simp,by simp +decide only [go_sem,hsz],a6,a7,by simp +decide only [go_sem,hsz,e0],by simp +decide only [go_sem,hsz,e4],by simp +decide only [go_sem,hsz,e6],by simp +decide only [go_sem,hsz],a8,a9,a10,by simp;omega⟩ (by simp only;omega)
   rw [htx]
   simp only
   cases textF (l.drop (p+1)) with
   | none=>rfl
   | some k=>simp only [Option.map_some];congr 1;omega
  subst h39
  simp only [if_true] at htx htl
  have fin2:textF (l.drop (at'+1))=some (p - (at'+1)+1)→∃ k,textF (l.drop (at'+1))=some k∧at'+1+k=p+1:=fun hh=>⟨_,hh,by omega⟩
  have stop:textF (l.drop (at'+1))=some (p - (at'+1)+1)→∀ {e:Env},e.size=66→e.get 4= .pointer (some ⟨h.size,0,none⟩)→e.get 6= .pointer (some ⟨h.size+1,0,none⟩)→e.get 7= .int .i64 (p:Int)→True:=fun _ _ _ _ _ _=>trivial
  obtain ⟨w1,wq1,e1',x1,hs1,g1,wq2,wq3⟩:∃ w1:Heap,∃ w2:Heap,w.push (.cells [.int .i64 ((ss.length:Nat):Int)] 1)=w1∧Ext w w1∧w1.size=w.size+1∧w1.set (h.size+1) (.cells [.slice (some ⟨w.size,0,none⟩) 1 1,.bool true,.slice sa ss.length sc,.slice none 0 0] 4)=w2 ∧
    w2.get (h.size+1)= .cells [.slice (some ⟨w.size,0,none⟩) 1 1,.bool true,.slice sa ss.length sc,.slice none 0 0] 4∧(w1.get (h.size+1)= .cells [.slice none 0 0,.bool true,.slice sa ss.length sc,.slice none 0 0] 4∧w2.get h.size= .cells [.slice none 0 0,.bool false,.slice none 0 0,.slice none 0 0] 4∧Ext h w2):=by
   obtain ⟨w1,e1',x1,hs1,g1⟩:=lay1 w (.cells [.int .i64 ((ss.length:Nat):Int)] 1)
   obtain ⟨w2,e2,x2,hs2,g2,k2⟩:=put1 (hxw.trans x1) j1 (.cells [.slice (some ⟨w.size,0,none⟩) 1 1,.bool true,.slice sa ss.length sc,.slice none 0 0] 4)
   exact ⟨w1,w2,e1',x1,hs1,e2,g2,(x1.2 _ hws).trans gq,(k2 _ (by omega)).trans ((x1.2 _ (by omega)).trans gh),x2⟩
  obtain ⟨gq1,gh2,xq2⟩:=wq3
  obtain ⟨w5,e5,x5,hs5,g5,k5⟩:=put1 xq2 j0 (.cells [.slice (some ⟨w.size,0,none⟩) 1 1,.bool true,.slice sa ss.length sc,.slice none 0 0] 4)
  have hpa:ss.length=1→PG (w.set h.size (.cells [.slice none 0 0,.bool true,.slice sa ss.length sc,.slice none 0 0] 4)) [.slice none 0 0,.bool true,.slice sa ss.length sc,.slice none 0 0] (textAT ss):=fun h1=>by
   have e0:textAT ss=⟨[],true,ss,[]⟩:=by unfold textAT;rw [if_pos h1]
   rw [e0]
   exact PG.set gh rfl (by omega) (by omega) (by omega) ⟨none,0,_,_,none,0,rfl,Sl.nil _ _,owns.sl,Sl.nil _ _⟩
  have hpb:ss.length≠1→PG w5 [.slice (some ⟨w.size,0,none⟩) 1 1,.bool true,.slice sa ss.length sc,.slice none 0 0] (textAT ss):=fun h1=>by
   have e0:textAT ss=⟨[(ss.length:Int)],true,ss,[]⟩:=by unfold textAT;rw [if_neg h1]
   rw [e0,← e5]
   refine PG.set gh2 rfl (by rw [← g1];show h.size < w1.size;omega) (by omega) (by omega) ?_
   rw [← g1]
   refine PG.set gq1 rfl (by omega) (by omega) (by omega) ⟨_,_,_,_,none,0,rfl,Sl.made (N:=1) (xs:=[.int .i64 ((ss.length:Nat):Int)]) (by omega) (by rw [← e1',Heap.get_push,if_pos rfl]) rfl (by simp [big]),owns.sl.ext x1,Sl.nil _ _⟩
  obtain ⟨w6,e6',g6⟩:=fin (.slice none 0 0)
  rw [e6'] at hpa
  by_cases hend:(p:Int)=((l.length - 1:Nat):Int)
  ·have hnx:l[p+1]? =none:=List.getElem?_eq_none (by omega)
   have hd:decide ((p:Int)=((l.length - 1:Nat):Int))=true:=by simpa using hend
   rw [hnx,if_neg (by simp),List.append_nil] at htl
   rw [hnx,if_neg (by simp)] at htx
   rw [htl]
   simp only [Option.map_some] at htx
   have hpk:at'+1+(1+(p - (at'+1)))=p+1:=by omega
   by_cases hone:((ss.length:Nat):Int)=1
   ·simp +decide only [go_sem,WR,WS,hsz,e0,e4,e6,e7,hpl,i0,Int.toNat_natCast,Nat.mul_one,q3,q4,i4,hd,gq,hone,gh,j0,e6',g6,i2]
    exact .inr ⟨_,_,htx,by rw [hpk],hpa (by omega)⟩
   ·simp +decide only [go_sem,WR,WS,hsz,e0,e4,e6,e7,hpl,i0,Int.toNat_natCast,Nat.mul_one,q3,q4,i4,hd,gq,hone,e1',gq1,j1,g1,wq2,gh2,j0,e5,g5,i2]
    exact .inr ⟨_,_,htx,by rw [hpk],hpb (by omega)⟩
  obtain ⟨z,hz⟩:∃ z,l[p+1]? =some z:=⟨_,List.getElem?_eq_getElem (by omega)⟩
  have hzl:=(List.getElem?_eq_some_iff.1 hz).1
  obtain ⟨b2,o2,cs2,p1,p2,p3,p4⟩:=(t.ext hxw).one hz
  cases p1
  rw [q3] at p3
  cases p3
  have i5:(0:Int)≤((p+1:Nat):Int):=by omega
  have i6:((p+1:Nat):Int) < ((l.length:Nat):Int):=by omega
  by_cases hz39:z=39
  case neg =>
   rw [hz,if_neg (by simpa using hz39),List.append_nil] at htl
   rw [hz,if_neg (by simpa using hz39)] at htx
   rw [htl]
   simp only [Option.map_some] at htx
   have hpk:at'+1+(1+(p - (at'+1)))=p+1:=by omega
   by_cases hone:((ss.length:Nat):Int)=1
   ·simp +decide only [go_sem,WR,WS,hsz,e0,e4,e6,e7,hpl,i0,Int.toNat_natCast,Nat.mul_one,q3,q4,i4,hend,i2,i5,i6,p4,hz39,gq,hone,gh,j0,e6',g6]
    exact .inr ⟨_,_,htx,by rw [hpk],hpa (by omega)⟩
   ·simp +decide only [go_sem,WR,WS,hsz,e0,e4,e6,e7,hpl,i0,Int.toNat_natCast,Nat.mul_one,q3,q4,i4,hend,i2,i5,i6,p4,hz39,gq,hone,e1',gq1,j1,g1,wq2,gh2,j0,e5,g5]
    exact .inr ⟨_,_,htx,by rw [hpk],hpb (by omega)⟩
  subst hz39
  rw [hz,if_pos rfl] at htx htl
  obtain ⟨w1,w2,w3,a1,a2,a3,a4,a5,a6,a7,a8,a9,a10⟩:=app 39
  simp +decide only [go_sem,WR,WS,hsz,e0,e4,e6,e7,hpl,i0,Int.toNat_natCast,Nat.mul_one,q3,q4,i4,hend,i2,i5,i6,p4,gq,a1,a2,a3,a4,j1,a5,i3]
  refine next (p+2,ss++[39],_) _ _ ⟨by simp only;omega,by simp only;omega,?_,by rw [htl];simp,by simp +decide only [go_sem,hsz],a6,a7,by simp +decide only [go_sem,hsz,e0],by simp +decide only [go_sem,hsz,e4],by simp +decide only [go_sem,hsz,e6],by simp +decide only [go_sem,hsz],a8,a9,a10,by simp;omega⟩ (by simp only;omega)
  rw [htx]
  simp only
  cases textF (l.drop (p+2)) with
  | none=>rfl
  | some k=>simp only [Option.map_some];congr 1;omega
set_option maxHeartbeats 4000000 in
theorem rnumbers_val (l:List Int) (at':Nat) {v:Value} (h:Heap) (t:Tx h v l) (hm:l.length≤512) (hat:at' < l.length) (hbg:begins (l.drop at')=true) :
  Runs K 75 #[v,.int .i64 (at':Int)] h fun r w=>(numsF 600 (l.drop at')=none∧∃ p,r= .tuple #[.agg p.toArray,.int .i64 0]∧Arr4 p) ∨
   ∃ n m p,numsF 600 (l.drop at')=some (n,m)∧at' < at'+m∧at'+m≤l.length∧r= .tuple #[.agg p.toArray,.int .i64 ((at'+m:Nat):Int)]∧PG w p (numsAT (numsL 600 (l.drop at'))):=by
 obtain ⟨a,c,rfl⟩:=t.open
 refine Runs.of Kok (Does.intro rfl (by decide +kernel) Tryz.func75 rfl ?_)
 obtain ⟨w0,e0',x0,hs0,z0,z1⟩:=lay2 h (.cells [.slice none 0 0,.bool false,.slice none 0 0,.slice none 0 0] 4) (.cells [.slice none 0 0,.bool false,.slice none 0 0,.slice none 0 0] 4)
 have j1:h.size≤h.size+1:=by omega
 have j0:h.size≤h.size:=Nat.le_refl _
 simp +decide only [go_sem,WR,WS,e0']
 refine W_loop (α:=Nat × Nat × Nat × Nat × List Value × Value) (fun k e w=>at'≤k.2.1∧k.2.1≤k.1∧k.1≤l.length∧numsF 600 (l.drop at')=(numsF k.2.2.1 (l.drop k.1)).map (addN at' k.2.2.2.1 k.2.1 k.1)∧513≤k.2.2.1+k.1∧e.size=48∧Ext h w∧h.size+1 < w.size ∧
  e.get 0= .slice a l.length c∧e.get 4= .pointer (some ⟨h.size,0,none⟩)∧e.get 6= .pointer (some ⟨h.size+1,0,none⟩)∧e.get 7= .int .i64 (k.2.1:Int)∧e.get 8= .int .i64 (k.1:Int)∧w.get h.size= .cells [.slice none 0 0,.bool false,.slice none 0 0,.slice none 0 0] 4 ∧
  w.get (h.size+1)= .cells [.slice none 0 0,.bool false,.slice none 0 0,k.2.2.2.2.2] 4∧Own h.size w 3 k.2.2.2.2.2 k.2.2.2.1 k.2.2.2.2.1∧k.2.2.2.1≤k.1∧(∃ dl,numsL 600 (l.drop at')=dl++numsL k.2.2.1 (l.drop k.1)∧k.2.2.2.2.1=qcs dl∧k.2.2.2.1=dl.length)∧(k.2.2.2.1=0→k.1=at')∧(0 < k.2.2.2.1→at' < k.2.1)) (fun k=>l.length - k.1) (at',at',600,0,[],.slice none 0 0) ?_ ?_
 ·refine ⟨Nat.le_refl _,Nat.le_refl _,by omega,?_,by simp only;omega,by simp +decide only [go_sem],x0,by omega,by simp +decide only [go_sem],by simp +decide only [go_sem],by simp +decide only [go_sem],by simp +decide only [go_sem],by simp +decide only [go_sem],z0,z1,Own.nil _ _ _,by simp,⟨[],rfl,rfl,rfl⟩,by simp,by simp⟩
  cases hq:numsF 600 (l.drop at') with
  | none=>rfl
  | some r =>
    obtain ⟨n,m⟩:=r
    simp only [Option.map_some,addN,Nat.sub_self,Nat.zero_add,Option.some.injEq]
    split
    ·rename_i h0'
     have h0':n=0:=h0'
     subst h0'
     exact absurd hq (numsF_pos (f:=599) hbg)
    ·rfl
 ·rintro ⟨p,upto,f,n,xs,sv⟩ e w ⟨hp1,hp2,hp3,hnm,hf,hsz,hxw,hws,e0,e4,e6,e7,e8,gh,gq,owns,hnp,⟨dl,hdl,hxs,hnl⟩,hz,hpos⟩ next
  simp only at hp1 hp2 hp3 hnm hf e7 e8 gq owns hnp hz hpos hdl hxs hnl
  subst hxs
  subst hnl
  obtain ⟨g,rfl⟩:∃ g,f=g+1:=⟨f - 1,by omega⟩
  cases hbp:begins (l.drop p) with
  | false =>
    have hn:numsF (g+1) (l.drop p)=some (0,0):=by rw [numsF_succ,hbp];rfl
    rw [hn] at hnm
    simp only [Option.map_some,addN,if_true] at hnm
    have hq0:0 < dl.length:=by
     refine Nat.pos_of_ne_zero fun hh=> ?_
     have:=hz hh
     subst this
     rw [hbg] at hbp
     cases hbp
    have hL0:numsL (g+1) (l.drop p)=[]:=by simp [numsL,hbp]
    rw [hL0,List.append_nil] at hdl
    rw [hdl]
    have hto:=hpos hq0
    have htl:at'+(upto - at')=upto:=by omega
    simp +decide only [go_sem,WR,WS,hsz,e0,e4,e6,e7,e8]
    refine W_call Kok hxw.1 (rbegins_run l p w (t.ext hxw) (by omega) hp3) fun r w1 x1 hr=> ?_
    rw [hbp] at hr
    subst hr
    have x01:=hxw.trans x1
    obtain ⟨sa,sc,rfl⟩:=owns.shape
    have gq1:w1.get (h.size+1)=_:=(x1.2 _ hws).trans gq
    have gh1:w1.get h.size=_:=(x1.2 _ (by omega)).trans gh
    by_cases h1:((dl.length:Nat):Int)=1
    ·obtain ⟨w2,e2,x2,hs2,g2,k2⟩:=put1 x01 j0 (.cells [.slice none 0 0,.bool false,.slice none 0 0,.slice sa dl.length sc] 4)
     simp +decide only [go_sem,WR,WS,hsz,e0,e4,e6,e7,e8,gq1,h1,gh1,j0,e2,g2]
     refine .inr ⟨_,_,_,hnm,by omega,by omega,by rw [htl],?_⟩
     have e0:numsAT dl=⟨[],false,[],dl⟩:=by unfold numsAT;rw [if_pos (by omega)]
     rw [e0,← e2]
     exact PG.set gh1 rfl (by have:=x1.1;omega) (by omega) (by omega) ⟨none,0,none,0,_,_,rfl,Sl.nil _ _,Sl.nil _ _,owns.sl.ext x1⟩
    ·obtain ⟨w2,e2,x2,hs2,g2⟩:=lay1 w1 (.cells [.int .i64 ((dl.length:Nat):Int)] 1)
     have hws1:h.size+1 < w1.size:=by have:=x1.1;omega
     have gq2:w2.get (h.size+1)=_:=(x2.2 _ hws1).trans gq1
     have gh2:w2.get h.size=_:=(x2.2 _ (by omega)).trans gh1
     obtain ⟨w3,e3,x3,hs3,g3,k3⟩:=put1 (x01.trans x2) j1 (.cells [.slice (some ⟨w1.size,0,none⟩) 1 1,.bool false,.slice none 0 0,.slice sa dl.length sc] 4)
     have gh3:w3.get h.size=_:=(k3 _ (by omega)).trans gh2
     obtain ⟨w4,e4',x4,hs4,g4,k4⟩:=put1 x3 j0 (.cells [.slice (some ⟨w1.size,0,none⟩) 1 1,.bool false,.slice none 0 0,.slice sa dl.length sc] 4)
     simp +decide only [go_sem,WR,WS,hsz,e0,e4,e6,e7,e8,gq1,h1,e2,gq2,j1,g2,e3,g3,gh3,j0,e4',g4]
     refine .inr ⟨_,_,_,hnm,by omega,by omega,by rw [htl],?_⟩
     have e0:numsAT dl=⟨[(dl.length:Int)],false,[],dl⟩:=by unfold numsAT;rw [if_neg (by omega)]
     rw [e0,← e4']
     refine PG.set gh3 rfl (by omega) (by omega) (by omega) ?_
     rw [← e3]
     exact PG.set gq2 rfl (by omega) (by omega) (by omega) ⟨_,_,none,0,_,_,rfl,Sl.made (N:=1) (by omega) g2 rfl (by simp [big]),Sl.nil _ _,(owns.sl.ext x1).ext x2⟩
  | true =>
    have hunf:numsF (g+1) (l.drop p)=match readS (l.drop p) with
     | none=>none
     | some k=>match numsF g (l.drop (p+(k+blanks (l.drop (p+k))))) with
       | none=>none
       | some (0,_)=>some (1,k)
       | some (n+1,m)=>some (n+2,k+blanks (l.drop (p+k))+m):=by
     rw [numsF_succ,hbp,if_pos rfl]
     cases readS (l.drop p) with
     | none=>rfl
     | some k =>
       simp only [List.drop_drop]
       cases numsF g (l.drop (p+(k+blanks (l.drop (p+k))))) with
       | none=>rfl
       | some r =>
         obtain ⟨n,m⟩:=r
         cases n<;>rfl
    have hunL:numsL (g+1) (l.drop p)=match readS (l.drop p) with
     | none=>[]
     | some k=>rat3 (readN (l.drop p))::numsL g (l.drop (p+(k+blanks (l.drop (p+k))))):=by
     rw [numsL,hbp,if_pos rfl]
     simp only [List.drop_drop]
     all_goals (cases readS (l.drop p)<;>rfl)
    simp +decide only [go_sem,WR,WS,hsz,e0,e4,e6,e7,e8]
    refine W_call Kok hxw.1 (rbegins_run l p w (t.ext hxw) (by omega) hp3) fun r w1 x1 hr=> ?_
    rw [hbp] at hr
    subst hr
    have x01:=hxw.trans x1
    simp +decide only [go_sem,WR,WS,hsz,e0,e4,e6,e7,e8]
    refine W_call Kok x01.1 (rread_run l p w1 (t.ext x01) hm hp3 hbp) fun r w2 x2 hr=> ?_
    have x02:=x01.trans x2
    have hws2:h.size+1 < w2.size:=by have:=x1.1;have:=x2.1;omega
    have gq2:w2.get (h.size+1)=_:=((x1.trans x2).2 _ hws).trans gq
    have gh2:w2.get h.size=_:=((x1.trans x2).2 _ (by omega)).trans gh
    obtain ⟨sa,sc,rfl⟩:=owns.shape
    have j2:=x02.1
    rcases hr with ⟨hrd,rfl⟩ | ⟨k,hrd,hk1,hk2,rfl⟩
    ·obtain ⟨w3,e3,x3,hs3,g3⟩:=lay1 w2 (.cells [.bool false,.string ByteArray.empty,.string ByteArray.empty] 3)
     obtain ⟨w4,e4',x4,hs4,g4,k4⟩:=put1 (x02.trans x3) j2 (.cells [.bool false,.string (text (ds 0)),.string (text (ds 1))] 3)
     have gq4:w4.get (h.size+1)=_:=(k4 _ (by omega)).trans ((x3.2 _ hws2).trans gq2)
     have gh4:w4.get h.size=_:=(k4 _ (by omega)).trans ((x3.2 _ (by omega)).trans gh2)
     obtain ⟨w5,e5,x5,hs5,g5,k5⟩:=put1 x4 j0 (.cells [.slice none 0 0,.bool false,.slice none 0 0,.slice sa dl.length sc] 4)
     rw [hunf,hrd] at hnm
     simp only [Option.map_none] at hnm
     simp +decide only [go_sem,WR,WS,numA,hsz,e0,e4,e6,e7,e8,e3,g3,j2,e4',gq4,gh4,j0,e5,g5]
     exact .inl ⟨hnm,_,rfl,⟨_,_,_,_,_,_,_,_,_,_,rfl⟩⟩
    unfold ratN numA
    generalize hsg:((readN (l.drop p)).1 && decide ((readN (l.drop p)).2.1≠0))=sg
    generalize hM:text (ds (Go.Proofs.YtjlaenglmdpboaaGreat.N14.scM (readN (l.drop p)).2.1 (readN (l.drop p)).2.2))=M
    generalize hK:text (ds (Go.Proofs.YtjlaenglmdpboaaGreat.N14.scK (readN (l.drop p)).2.1 (readN (l.drop p)).2.2))=D
    obtain ⟨w3,e3,x3,hs3,g3⟩:=lay1 w2 (.cells [.bool false,.string ByteArray.empty,.string ByteArray.empty] 3)
    obtain ⟨w4,e4',x4,hs4,g4,k4⟩:=put1 (x02.trans x3) j2 (.cells [.bool sg,.string M,.string D] 3)
    have ext24:Ext w2 w4:=⟨by have:=x3.1;omega,fun b hb=>(k4 b (by omega)).trans (x3.2 b hb)⟩
    obtain ⟨w5,e5,x5,hs5,g5⟩:=lay1 w4 (.cells [.bool sg,.string M,.string D] 3)
    have gq5:w5.get (h.size+1)=_:=((ext24.trans x5).2 _ hws2).trans gq2
    have gh5:w5.get h.size=_:=((ext24.trans x5).2 _ (by omega)).trans gh2
    have gq4:w4.get (h.size+1)=_:=(ext24.2 _ hws2).trans gq2
    have own5:=(((owns.ext x1).ext x2).ext ext24).ext x5
    obtain ⟨w6,w7,a1,a2,a3,a4,a5,a6,a7,a8,a9⟩:=field_app (x4.trans x5) (bytes:=40) (k:=1) (new:=[.bool sg,.string M,.string D]) own5 j1 (by omega) gq5 (by omega) (by omega) (by omega) rfl (by omega) (by omega) (fun v=>[.slice none 0 0,.bool false,.slice none 0 0,v])
    have gh7:w7.get h.size=_:=(a9 _ (by omega) (by omega) (own5.ne gh5 (by omega))).trans gh5
    obtain ⟨B,hB⟩:∃ B,B=blanks (l.drop (p+k)):=⟨_,rfl⟩
    have hBl:p+k+B≤l.length:=by rw [hB];exact blanks_len hk1
    rw [hunf,hrd] at hnm
    simp only [← hB] at hnm
    rw [hunL,hrd] at hdl
    simp only [← hB] at hdl
    simp +decide only [go_sem,WR,WS,hsz,e0,e4,e6,e7,e8,e3,g3,j2,e4',gq4,g4,e5,gq5,g5,a1,a2,j1,a4]
    refine W_call Kok a5.1 (rblanks_run l (p+k) w7 (t.ext a5) (by omega) hk1) fun r w8 x8 hr=> ?_
    obtain ⟨rfl,rfl⟩:=hr
    rw [← hB]
    simp +decide only [go_sem,WR,WS,hsz]
    refine next (p+k+B,p+k,g,dl.length+1,qcs dl++[.bool sg,.string M,.string D],_) _ _ ⟨by simp only;omega,by simp only;omega,by simp only;omega,?_,by simp only;omega,by simp +decide only [go_sem,hsz],a5,by omega,by simp +decide only [go_sem,hsz,e0],by simp +decide only [go_sem,hsz,e4],by simp +decide only [go_sem,hsz,e6],by simp +decide only [go_sem,hsz],by simp +decide only [go_sem,hsz],gh7,a7,a8,by simp only;omega,⟨dl++[rat3 (readN (l.drop p))],by rw [hdl,show p+(k+B)=p+k+B by omega];simp only [List.append_assoc,List.singleton_append],by rw [qcs_append,← hsg,← hM,← hK];rfl,by simp⟩,by simp,fun _=>by simp only;omega⟩ (by simp only;omega)
    rw [hnm]
    simp only
    rw [show p+(k+B)=p+k+B by omega]
    cases numsF g (l.drop (p+k+B)) with
    | none=>rfl
    | some r =>
      obtain ⟨n,m⟩:=r
      cases n with
      | zero=>simp [addN];omega
      | succ n=>simp [addN];omega
end Go.Proofs.YtjlaenglmdpboaaGreat.V8
namespace Go.Proofs.YtjlaenglmdpboaaGreat.V9
open Go Go.Im Go.Im.Limbs Go.Im.Lexing Go.Im.Dec Go.Proofs Go.RowKit Hd N16 N18 N19 N20 N22 N23 R5 R6 R7 R8 Go.Im.Arrays R9 V8
set_option maxRecDepth 100000
def TR (l:List Int) (h:Heap) (x:XT):Prop:=Arr4 x.2∧(x.1.2.kind=1→PG h x.2 (valAt l x.1.1))
theorem TR.ext {l:List Int} {h h':Heap} (k:Ext h h') {x:XT} (H:TR l h x):TR l h' x:=⟨H.1,fun e=>(H.2 e).ext k⟩
def ROneV (l:List Int) (at':Nat) (r:Value) (w:Heap):Prop:=(tokS (l.drop at')=none∧∃ (k q z:Int) (s:ByteArray) (p:List Value),r= .tuple #[.agg (([.int .i64 k,.int .i64 q,.string s,.int .i32 z]:List Value)++p).toArray,.int .i64 0]∧Arr4 p) ∨
 ∃ tk k p,tokS (l.drop at')=some (some tk,k)∧at' < at'+k∧at'+k≤l.length∧r= .tuple #[.agg (tc4 (at',tk)++p).toArray,.int .i64 ((at'+k:Nat):Int)]∧TR l w ((at',tk),p)
set_option maxHeartbeats 4000000 in
theorem rone_val (l:List Int) (at':Nat) {v:Value} (h:Heap) (t:Tx h v l) (hm:l.length≤512) (hat:at' < l.length) (h32:l[at']? ≠some 32) :
  Runs K 46 #[v,.int .i64 (at':Int)] h fun r w=>ROneV l at' r w:=by
 obtain ⟨a,c0,rfl⟩:=t.open
 have hne:l≠[]:=by rintro rfl;simp at hat
 refine Runs.of Kok (Does.intro rfl (by decide +kernel) Tryz.func46 rfl ?_)
 obtain ⟨w0,e0',x0,hs0,z0,z1⟩:=lay2 h (.cells [.int .i64 0,.int .i64 0,.string ByteArray.empty,.int .i32 0,.slice none 0 0,.bool false,.slice none 0 0,.slice none 0 0] 8) (.cells [.int .i64 0,.int .i64 0,.string ByteArray.empty,.int .i32 0,.slice none 0 0,.bool false,.slice none 0 0,.slice none 0 0] 8)
 have j1:h.size≤h.size+1:=by omega
 have j0:h.size≤h.size:=Nat.le_refl _
 obtain ⟨w1,e1',x1,hs1,g1,k1⟩:=put1 x0 j1 (.cells [.int .i64 0,.int .i64 (at':Int),.string ByteArray.empty,.int .i32 0,.slice none 0 0,.bool false,.slice none 0 0,.slice none 0 0] 8)
 have gh1:w1.get h.size=_:=(k1 _ (by omega)).trans z0
 have hws1:h.size+1 < w1.size:=by omega
 obtain ⟨c,hc⟩:∃ c,l[at']? =some c:=⟨_,List.getElem?_eq_getElem hat⟩
 have hc32:¬ c=32:=fun hh=>h32 (by rw [hc,hh])
 have hk1:¬ kindOf c=1:=by
  intro hh
  apply hc32
  unfold kindOf at hh
  split at hh
  ·assumption
  ·repeat' split at hh
   all_goals first | omega | cases hh
 have htok:=tokS_at hc
 rw [if_neg hk1] at htok
 have i0:(0:Int)≤(at':Int):=by omega
 have i1:IntKind.i64.wrap ((at':Int)+1)=((at'+1:Nat):Int):=by rw [wrap_i64 (by omega) (by omega)];omega
 have il:(at':Int) < ((l.length:Nat):Int):=by omega
 obtain ⟨b,o,cs,q1,q2,q3,q4⟩:=(t.ext x1).one hc
 cases q1
 simp +decide only [go_sem,WR,WS,e0',z1,j1,e1',il,i0,Int.toNat_natCast,Nat.mul_one,q3,q4]
 refine W_call Kok x1.1 (rkind_run c w1) fun r w2 x2 hr=> ?_
 subst hr
 have x02:=x1.trans x2
 simp +decide only [go_sem,WR,WS,i1]
 refine W_call Kok x02.1 (rbegins_run l at' w2 (t.ext x02) (by omega) (by omega)) fun r w3 x3 hr=> ?_
 subst hr
 have x03:=x02.trans x3
 have x13:=x2.trans x3
 have g3:w3.get (h.size+1)=_:=(x13.2 _ hws1).trans g1
 have gh3:w3.get h.size=_:=(x13.2 _ (by omega)).trans gh1
 have hws3:h.size+1 < w3.size:=by have:=x13.1;omega
 obtain ⟨b3,o3,cs3,q1,q2,q3,q4⟩:=(t.ext x03).one hc
 cases q1
 have fin:∀ (w:Heap) (C:List Value),Ext h w→h.size+1 < w.size→∃ w8,w.set h.size (.cells C 8)=w8∧w8.get h.size= .cells C 8:=fun w C xw hw=>by
  obtain ⟨w8,e8,x8,hs8,g8,k8⟩:=put1 xw j0 (.cells C 8)
  exact ⟨w8,e8,g8⟩
 cases hbg:begins (l.drop at') with
 | true =>
   rw [hbg,if_pos rfl] at htok
   obtain ⟨w5,e5,x5,hs5,g5,k5⟩:=put1 x03 j1 (.cells [.int .i64 1,.int .i64 (at':Int),.string ByteArray.empty,.int .i32 0,.slice none 0 0,.bool false,.slice none 0 0,.slice none 0 0] 8)
   have gh5:w5.get h.size=_:=(k5 _ (by omega)).trans gh3
   simp +decide only [go_sem,WR,WS,g3,j1,e5]
   refine W_call Kok x5.1 (rnumbers_val l at' w5 (t.ext x5) hm hat hbg) fun r w6 x6 hr=> ?_
   have g6:w6.get (h.size+1)=_:=(x6.2 _ (by omega)).trans g5
   have gh6:w6.get h.size=_:=(x6.2 _ (by omega)).trans gh5
   have x06:=x5.trans x6
   rcases hr with ⟨hn,p,rfl,pa,pn,pc,pb,pa2,pn2,pc2,pa3,pn3,pc3,rfl⟩ | ⟨n,m,p,hn,hm1,hm2,rfl,PGr⟩
   ·obtain ⟨w7,e7,x7,hs7,g7,k7⟩:=put1 x06 j1 (.cells [.int .i64 1,.int .i64 (at':Int),.string ByteArray.empty,.int .i32 0,.slice pa pn pc,.bool pb,.slice pa2 pn2 pc2,.slice pa3 pn3 pc3] 8)
    have gh7:w7.get h.size=_:=(k7 _ (by omega)).trans gh6
    obtain ⟨w8,e8,g8⟩:=fin w7 [.int .i64 1,.int .i64 (at':Int),.string ByteArray.empty,.int .i32 0,.slice pa pn pc,.bool pb,.slice pa2 pn2 pc2,.slice pa3 pn3 pc3] x7 (by have:=x6.1;omega)
    rw [hn] at htok
    simp +decide only [go_sem,WR,WS,g6,j1,e7,g7,gh7,j0,e8,g8]
    exact .inl ⟨htok,_,_,_,_,_,rfl,⟨_,_,_,_,_,_,_,_,_,_,rfl⟩⟩
   ·obtain ⟨V,hV⟩:∃ V,V=numsAT (numsL 600 (l.drop at')):=⟨_,rfl⟩
    have hval:valAt l at'=V:=by unfold valAt;rw [hbg,hV];rfl
    rw [← hV] at PGr
    have PG0:=PGr
    obtain ⟨pa,pc,pa2,pc2,pa3,pc3,rfl,_⟩:=PG0
    obtain ⟨w7,e7,x7,hs7,g7,k7⟩:=put1 x06 j1 (.cells [.int .i64 1,.int .i64 (at':Int),.string ByteArray.empty,.int .i32 0,.slice pa V.shape.length pc,.bool V.ch,.slice pa2 V.tx.length pc2,.slice pa3 V.nums.length pc3] 8)
    have gh7:w7.get h.size=_:=(k7 _ (by omega)).trans gh6
    obtain ⟨w8,e8,g8⟩:=fin w7 [.int .i64 1,.int .i64 (at':Int),.string ByteArray.empty,.int .i32 0,.slice pa V.shape.length pc,.bool V.ch,.slice pa2 V.tx.length pc2,.slice pa3 V.nums.length pc3] x7 (by have:=x6.1;omega)
    rw [hn] at htok
    simp +decide only [go_sem,WR,WS,g6,j1,e7,g7,gh7,j0,e8,g8]
    exact .inr ⟨_,_,_,htok,hm1,hm2,rfl,⟨⟨_,_,_,_,_,_,_,_,_,_,rfl⟩,fun _=>by rw [hval,← e8];refine PG.set gh7 rfl (by have:=x6.1;omega) (by omega) (by omega) ?_;rw [← e7];exact PG.set g6 rfl (by have:=x6.1;omega) (by omega) (by omega) PGr⟩⟩
 | false =>
 rw [hbg,if_neg (by simp)] at htok
 by_cases h39:c=39
 ·subst h39
  have hk39:¬ kindOf 39=2:=by decide
  rw [if_neg hk39,if_pos rfl] at htok
  obtain ⟨w5,e5,x5,hs5,g5,k5⟩:=put1 x03 j1 (.cells [.int .i64 1,.int .i64 (at':Int),.string ByteArray.empty,.int .i32 0,.slice none 0 0,.bool false,.slice none 0 0,.slice none 0 0] 8)
  have gh5:w5.get h.size=_:=(k5 _ (by omega)).trans gh3
  simp +decide only [go_sem,WR,WS,il,i0,Int.toNat_natCast,Nat.mul_one,q3,q4,g3,j1,e5]
  refine W_call Kok x5.1 (rtext_val l at' w5 (t.ext x5) hm hat) fun r w6 x6 hr=> ?_
  have g6:w6.get (h.size+1)=_:=(x6.2 _ (by omega)).trans g5
  have gh6:w6.get h.size=_:=(x6.2 _ (by omega)).trans gh5
  have x06:=x5.trans x6
  rcases hr with ⟨hn,p,rfl,pa,pn,pc,pb,pa2,pn2,pc2,pa3,pn3,pc3,rfl⟩ | ⟨k,p,hn,rfl,PGr⟩
  ·obtain ⟨w7,e7,x7,hs7,g7,k7⟩:=put1 x06 j1 (.cells [.int .i64 1,.int .i64 (at':Int),.string ByteArray.empty,.int .i32 0,.slice pa pn pc,.bool pb,.slice pa2 pn2 pc2,.slice pa3 pn3 pc3] 8)
   have gh7:w7.get h.size=_:=(k7 _ (by omega)).trans gh6
   obtain ⟨w8,e8,g8⟩:=fin w7 [.int .i64 1,.int .i64 (at':Int),.string ByteArray.empty,.int .i32 0,.slice pa pn pc,.bool pb,.slice pa2 pn2 pc2,.slice pa3 pn3 pc3] x7 (by have:=x6.1;omega)
   rw [hn] at htok
   simp +decide only [go_sem,WR,WS,g6,j1,e7,g7,gh7,j0,e8,g8]
   exact .inl ⟨htok,_,_,_,_,_,rfl,⟨_,_,_,_,_,_,_,_,_,_,rfl⟩⟩
  ·obtain ⟨V,hV⟩:∃ V,V=textAT (textL (l.drop (at'+1))):=⟨_,rfl⟩
   have hval:valAt l at'=V:=by unfold valAt;rw [hbg,hV];rfl
   rw [← hV] at PGr
   have PG0:=PGr
   obtain ⟨pa,pc,pa2,pc2,pa3,pc3,rfl,_⟩:=PG0
   obtain ⟨w7,e7,x7,hs7,g7,k7⟩:=put1 x06 j1 (.cells [.int .i64 1,.int .i64 (at':Int),.string ByteArray.empty,.int .i32 0,.slice pa V.shape.length pc,.bool V.ch,.slice pa2 V.tx.length pc2,.slice pa3 V.nums.length pc3] 8)
   have gh7:w7.get h.size=_:=(k7 _ (by omega)).trans gh6
   obtain ⟨w8,e8,g8⟩:=fin w7 [.int .i64 1,.int .i64 (at':Int),.string ByteArray.empty,.int .i32 0,.slice pa V.shape.length pc,.bool V.ch,.slice pa2 V.tx.length pc2,.slice pa3 V.nums.length pc3] x7 (by have:=x6.1;omega)
   rw [hn] at htok
   have hkl:=textF_len hn
   rw [List.length_drop] at hkl
   simp +decide only [go_sem,WR,WS,g6,j1,e7,g7,gh7,j0,e8,g8]
   exact .inr ⟨_,_,_,htok,by omega,by omega,by rw [Nat.add_assoc];rfl,⟨⟨_,_,_,_,_,_,_,_,_,_,rfl⟩,fun _=>by rw [hval,← e8];refine PG.set gh7 rfl (by have:=x6.1;omega) (by omega) (by omega) ?_;rw [← e7];exact PG.set g6 rfl (by have:=x6.1;omega) (by omega) (by omega) PGr⟩⟩
 apply W_join (α:=Unit) (fun _ e w=>e.size=117∧Ext h w∧h.size+1 < w.size∧e.get 0= .slice (some ⟨b,o,none⟩) l.length big∧e.get 1= .int .i64 (at':Int)∧e.get 4= .pointer (some ⟨h.size,0,none⟩)∧e.get 6= .pointer (some ⟨h.size+1,0,none⟩)∧e.get 7= .int .i64 ((kindOf c:Nat):Int) ∧
  e.get 8= .int .i64 ((at'+1:Nat):Int)∧e.get 9= .bool (quadS l at' c)∧w.get h.size= .cells [.int .i64 0,.int .i64 0,.string ByteArray.empty,.int .i32 0,.slice none 0 0,.bool false,.slice none 0 0,.slice none 0 0] 8 ∧
  w.get (h.size+1)= .cells [.int .i64 0,.int .i64 (at':Int),.string ByteArray.empty,.int .i32 0,.slice none 0 0,.bool false,.slice none 0 0,.slice none 0 0] 8)
 ·intro cont
  simp +decide only [go_sem,WS,il,i0,Int.toNat_natCast,Nat.mul_one,q3,q4,h39]
  (rw [WR];simp +decide only [go_sem,WS,il,i0,Int.toNat_natCast,Nat.mul_one,q3,q4,h39])
  by_cases hq:c=9109
  case neg =>
   have hqq:quadS l at' c=false:=by simp [quadS,hq]
   (rw [WR];simp +decide only [go_sem,WS,il,i0,Int.toNat_natCast,Nat.mul_one,q3,q4,hq])
   exact cont () _ _ ⟨by simp +decide only [go_sem],x03,hws3,by simp +decide only [go_sem],by simp +decide only [go_sem],by simp +decide only [go_sem],by simp +decide only [go_sem,hs0],by simp +decide only [go_sem],by simp +decide only [go_sem],by simp +decide only [go_sem,hqq],gh3,g3⟩
  by_cases hl2:((at'+1:Nat):Int) < ((l.length:Nat):Int)
  case neg =>
   have hqq:quadS l at' c=false:=by simp [quadS,List.getElem?_eq_none (show l.length≤at'+1 by omega)]
   (rw [WR];simp +decide only [go_sem,WS,il,i0,Int.toNat_natCast,Nat.mul_one,q3,q4,hq,hl2])
   rw [hq] at hqq
   exact cont () _ _ ⟨by simp +decide only [go_sem],x03,hws3,by simp +decide only [go_sem],by simp +decide only [go_sem],by simp +decide only [go_sem],by simp +decide only [go_sem,hs0],by simp +decide only [go_sem,hq],by simp +decide only [go_sem],by simp +decide only [go_sem,hq,hqq],gh3,g3⟩
  obtain ⟨d,hd⟩:∃ d,l[at'+1]? =some d:=⟨_,List.getElem?_eq_getElem (by omega)⟩
  obtain ⟨b4,o4,cs4,p1,p2,p3,p4⟩:=(t.ext x03).one hd
  cases p1
  rw [q3] at p3
  cases p3
  have i2:(0:Int)≤((at'+1:Nat):Int):=by omega
  (rw [WR];simp +decide only [go_sem,WS,il,i0,Int.toNat_natCast,Nat.mul_one,q3,q4,hq,hl2,i2,p4])
  refine W_call Kok x03.1 (rkind_run d w3) fun r w4 x4 hr=> ?_
  subst hr
  have hqq:quadS l at' c=decide (((kindOf d:Nat):Int)=2):=by
   simp only [quadS,hq,hd,decide_true,Bool.true_and]
   exact decide_eq_decide.2 (by omega)
  simp +decide only [go_sem,WS]
  rw [hq] at hqq
  exact cont () _ _ ⟨by simp +decide only [go_sem],x03.trans x4,by have:=x4.1;omega,by simp +decide only [go_sem],by simp +decide only [go_sem],by simp +decide only [go_sem],by simp +decide only [go_sem,hs0],by simp +decide only [go_sem,hq],by simp +decide only [go_sem],by simp +decide only [go_sem,hq,hqq],(x4.2 _ (by omega)).trans gh3,(x4.2 _ hws3).trans g3⟩
 rintro _ e w ⟨hsz,hxw,hws,e0,e1,e4,e6,e7,e8,e9,gh,gq⟩
 have tw:=t.ext hxw
 obtain ⟨b5,o5,cs5,q1,q2,q3,q4⟩:=tw.one hc
 cases q1
 have put:∀ {w:Heap} (C:List Value),Ext h w→h.size+1 < w.size→w.get h.size= .cells [.int .i64 0,.int .i64 0,.string ByteArray.empty,.int .i32 0,.slice none 0 0,.bool false,.slice none 0 0,.slice none 0 0] 8→∃ w7,w.set (h.size+1) (.cells C 8)=w7∧Ext h w7∧h.size+1 < w7.size∧w7.get (h.size+1)= .cells C 8 ∧
   w7.get h.size= .cells [.int .i64 0,.int .i64 0,.string ByteArray.empty,.int .i32 0,.slice none 0 0,.bool false,.slice none 0 0,.slice none 0 0] 8:=fun {w} C xw hw gw=>by
  obtain ⟨w7,e7,x7,hs7,g7,k7⟩:=put1 xw j1 (.cells C 8)
  exact ⟨w7,e7,x7,by omega,g7,(k7 _ (by omega)).trans gw⟩
 apply W_join (α:=Nat × Nat) (fun k e w=>e.size=117∧Ext h w∧h.size+1 < w.size∧e.get 0= .slice (some ⟨b,o,none⟩) l.length big∧e.get 1= .int .i64 (k.1:Int)∧e.get 4= .pointer (some ⟨h.size,0,none⟩)∧e.get 6= .pointer (some ⟨h.size+1,0,none⟩) ∧
  w.get h.size= .cells [.int .i64 0,.int .i64 0,.string ByteArray.empty,.int .i32 0,.slice none 0 0,.bool false,.slice none 0 0,.slice none 0 0] 8 ∧
  w.get (h.size+1)= .cells [.int .i64 (k.2:Int),.int .i64 (at':Int),.string ByteArray.empty,.int .i32 0,.slice none 0 0,.bool false,.slice none 0 0,.slice none 0 0] 8∧k.1≤l.length∧at'≤k.1∧k.2≠1 ∧
  tokS (l.drop at')=(wordS k.2 (l.drop k.1)).map fun x=>(some x.1,k.1 - at'+x.2))
 ·intro cont
  by_cases hk2:kindOf c=2
  ·have hk2':((kindOf c:Nat):Int)=2:=by omega
   have hqq:quadS l at' c=false:=by
    have:¬ c=9109:=by
     rintro rfl
     revert hk2
     decide
    simp [quadS,this]
   rw [if_pos hk2] at htok
   rw [hqq] at e9
   obtain ⟨w7,f1,f2,f3,f4,f5⟩:=put [.int .i64 2,.int .i64 (at':Int),.string ByteArray.empty,.int .i32 0,.slice none 0 0,.bool false,.slice none 0 0,.slice none 0 0] hxw hws gh
   (rw [WR];simp +decide only [go_sem,WS,hsz,e0,e1,e4,e6,e7,e8,e9,hk2'])
   (rw [WR];simp +decide only [go_sem,WS,hsz,e0,e1,e4,e6,e7,e8,e9,gq,j1,f1])
   (rw [WR];simp +decide only [go_sem,WS,hsz,e9])
   refine cont (at',2) _ _ ⟨by simp +decide only [go_sem,hsz],f2,f3,by simp +decide only [go_sem,hsz,e0],by simp +decide only [go_sem,hsz,e1],by simp +decide only [go_sem,hsz,e4],by simp +decide only [go_sem,hsz,e6],f5,f4,by simp only;omega,Nat.le_refl _,by simp,?_⟩
   rw [htok]
   simp
  rw [if_neg hk2,if_neg h39] at htok
  have hk2':¬ ((kindOf c:Nat):Int)=2:=by omega
  cases hqq:quadS l at' c with
  | true =>
    rw [hqq,if_pos rfl] at htok
    rw [hqq] at e9
    have hlt:at'+1≤l.length:=by omega
    obtain ⟨w7,f1,f2,f3,f4,f5⟩:=put [.int .i64 2,.int .i64 (at':Int),.string ByteArray.empty,.int .i32 0,.slice none 0 0,.bool false,.slice none 0 0,.slice none 0 0] hxw hws gh
    obtain ⟨w8,d1,d2,d3,d4,d5⟩:=put [.int .i64 3,.int .i64 (at':Int),.string ByteArray.empty,.int .i32 0,.slice none 0 0,.bool false,.slice none 0 0,.slice none 0 0] f2 f3 f5
    (rw [WR];simp +decide only [go_sem,WS,hsz,e0,e1,e4,e6,e7,e8,e9,hk2'])
    (rw [WR];simp +decide only [go_sem,WS,hsz,e0,e1,e4,e6,e7,e8,e9,gq,j1,f1])
    (rw [WR];simp +decide only [go_sem,WS,hsz,e9])
    (rw [WR];simp +decide only [go_sem,WS,hsz,e0,e1,e4,e6,e7,e8,e9,f4,j1,d1])
    (rw [WR];simp +decide only [go_sem,WS,hsz,e8])
    refine cont (at'+1,3) _ _ ⟨by simp +decide only [go_sem,hsz],d2,d3,by simp +decide only [go_sem,hsz,e0],by simp +decide only [go_sem,hsz],by simp +decide only [go_sem,hsz,e4],by simp +decide only [go_sem,hsz,e6],d5,d4,hlt,by simp,by simp,?_⟩
    rw [htok]
    simp
  | false =>
    rw [hqq,if_neg (by simp)] at htok
    rw [hqq] at e9
    obtain ⟨w7,f1,f2,f3,f4,f5⟩:=put [.int .i64 0,.int .i64 (at':Int),.string ByteArray.empty,.int .i32 c,.slice none 0 0,.bool false,.slice none 0 0,.slice none 0 0] hxw hws gh
    have done:∀ kd:Nat,∃ w8 w9,w7.set (h.size+1) (.cells [.int .i64 (kd:Int),.int .i64 (at':Int),.string ByteArray.empty,.int .i32 c,.slice none 0 0,.bool false,.slice none 0 0,.slice none 0 0] 8)=w8 ∧
      w8.get (h.size+1)= .cells [.int .i64 (kd:Int),.int .i64 (at':Int),.string ByteArray.empty,.int .i32 c,.slice none 0 0,.bool false,.slice none 0 0,.slice none 0 0] 8 ∧
      w8.get h.size= .cells [.int .i64 0,.int .i64 0,.string ByteArray.empty,.int .i32 0,.slice none 0 0,.bool false,.slice none 0 0,.slice none 0 0] 8 ∧
      w8.set h.size (.cells [.int .i64 (kd:Int),.int .i64 (at':Int),.string ByteArray.empty,.int .i32 c,.slice none 0 0,.bool false,.slice none 0 0,.slice none 0 0] 8)=w9∧w9.get h.size= .cells [.int .i64 (kd:Int),.int .i64 (at':Int),.string ByteArray.empty,.int .i32 c,.slice none 0 0,.bool false,.slice none 0 0,.slice none 0 0] 8:=fun kd=>by
     obtain ⟨w8,d1,d2,d3,d4,d5⟩:=put [.int .i64 (kd:Int),.int .i64 (at':Int),.string ByteArray.empty,.int .i32 c,.slice none 0 0,.bool false,.slice none 0 0,.slice none 0 0] f2 f3 f5
     obtain ⟨w9,b1,b2⟩:=fin w8 [.int .i64 (kd:Int),.int .i64 (at':Int),.string ByteArray.empty,.int .i32 c,.slice none 0 0,.bool false,.slice none 0 0,.slice none 0 0] d2 d3
     exact ⟨w8,w9,d1,d4,d5,b1,b2⟩
    by_cases h45:kindOf c=4∨kindOf c=5
    ·rw [if_pos h45] at htok
     obtain ⟨w8,w9,d1,d2,d3,d4,d5⟩:=done 4
     rcases h45 with h4 | h5
     ·have h4':((kindOf c:Nat):Int)=4:=by omega
      simp only [Int.cast_ofNat_Int] at d1 d2 d3 d4 d5
      simp +decide only [go_sem,WR,WS,hsz,e0,e1,e4,e6,e7,e8,e9,il,i0,Int.toNat_natCast,Nat.mul_one,q3,q4,hk2',gq,j1,f1,f4,h4',d1,d2,d3,j0,d4,d5]
      exact .inr ⟨_,_,_,htok,by omega,by omega,rfl,⟨⟨_,_,_,_,_,_,_,_,_,_,rfl⟩,fun hh=>absurd (show (4:Nat)=1 from hh) (by decide)⟩⟩
     ·have h4':¬ ((kindOf c:Nat):Int)=4:=by omega
      have h5':((kindOf c:Nat):Int)=5:=by omega
      simp only [Int.cast_ofNat_Int] at d1 d2 d3 d4 d5
      simp +decide only [go_sem,WR,WS,hsz,e0,e1,e4,e6,e7,e8,e9,il,i0,Int.toNat_natCast,Nat.mul_one,q3,q4,hk2',gq,j1,f1,f4,h4',h5',d1,d2,d3,j0,d4,d5]
      exact .inr ⟨_,_,_,htok,by omega,by omega,rfl,⟨⟨_,_,_,_,_,_,_,_,_,_,rfl⟩,fun hh=>absurd (show (4:Nat)=1 from hh) (by decide)⟩⟩
    rw [if_neg h45] at htok
    have h4':¬ ((kindOf c:Nat):Int)=4:=by omega
    have h5':¬ ((kindOf c:Nat):Int)=5:=by omega
    by_cases h6:kindOf c=6
    ·rw [if_pos h6] at htok
     obtain ⟨w8,w9,d1,d2,d3,d4,d5⟩:=done 5
     have h6':((kindOf c:Nat):Int)=6:=by omega
     simp only [Int.cast_ofNat_Int] at d1 d2 d3 d4 d5
     have i6:IntKind.i64.wrap 5=5:=rfl
     simp +decide only [go_sem,WR,WS,hsz,e0,e1,e4,e6,e7,e8,e9,il,i0,Int.toNat_natCast,Nat.mul_one,q3,q4,hk2',gq,j1,f1,f4,h4',h5',h6',i6,d1,d2,d3,j0,d4,d5]
     exact .inr ⟨_,_,_,htok,by omega,by omega,rfl,⟨⟨_,_,_,_,_,_,_,_,_,_,rfl⟩,fun hh=>absurd (show (5:Nat)=1 from hh) (by decide)⟩⟩
    rw [if_neg h6] at htok
    have h6':¬ ((kindOf c:Nat):Int)=6:=by omega
    by_cases h7:kindOf c=7
    ·rw [if_pos h7] at htok
     obtain ⟨w8,w9,d1,d2,d3,d4,d5⟩:=done 6
     have h7':((kindOf c:Nat):Int)=7:=by omega
     simp only [Int.cast_ofNat_Int] at d1 d2 d3 d4 d5
     have i6:IntKind.i64.wrap 6=6:=rfl
     simp +decide only [go_sem,WR,WS,hsz,e0,e1,e4,e6,e7,e8,e9,il,i0,Int.toNat_natCast,Nat.mul_one,q3,q4,hk2',gq,j1,f1,f4,h4',h5',h6',h7',i6,d1,d2,d3,j0,d4,d5]
     exact .inr ⟨_,_,_,htok,by omega,by omega,rfl,⟨⟨_,_,_,_,_,_,_,_,_,_,rfl⟩,fun hh=>absurd (show (6:Nat)=1 from hh) (by decide)⟩⟩
    rw [if_neg h7] at htok
    have h7':¬ ((kindOf c:Nat):Int)=7:=by omega
    obtain ⟨w9,b1,b2⟩:=fin w7 [.int .i64 0,.int .i64 (at':Int),.string ByteArray.empty,.int .i32 c,.slice none 0 0,.bool false,.slice none 0 0,.slice none 0 0] f2 f3
    simp +decide only [go_sem,WR,WS,hsz,e0,e1,e4,e6,e7,e8,e9,il,i0,Int.toNat_natCast,Nat.mul_one,q3,q4,hk2',gq,j1,f1,f4,h4',h5',h6',h7',f5,j0,b1,b2]
    exact .inl ⟨htok,_,_,_,_,_,rfl,⟨_,_,_,_,_,_,_,_,_,_,rfl⟩⟩
 rintro ⟨i,kd⟩ e w ⟨hsz,hxw,hws,e0,e1,e4,e6,gh,gq,hil,hati,hkd,htok⟩
 simp only at e1 gq hil hati hkd htok
 obtain ⟨D,hD⟩:∃ D,D=(l.drop i).takeWhile isW:=⟨_,rfl⟩
 have hDl:=word_len l hil
 unfold wordS at htok
 rw [← hD] at htok hDl
 simp +decide only [go_sem,WR,WS,hsz,e0,e1]
 refine W_call Kok hxw.1 (rword22_run l i w (t.ext hxw) hne (by omega) hil) fun r w4 x4 hr=> ?_
 obtain ⟨tD,aD,rfl⟩:=hr
 rw [← hD] at tD ⊢
 have x04:=hxw.trans x4
 simp +decide only [go_sem,WR,WS,hsz]
 refine W_call Kok x04.1 (rname_run D w4 tD (by omega)) fun r w5 x5 hr=> ?_
 subst hr
 have x05:=x04.trans x5
 have gh5:w5.get h.size=_:=((x4.trans x5).2 _ (by omega)).trans gh
 have gq5:w5.get (h.size+1)=_:=((x4.trans x5).2 _ hws).trans gq
 have hws5:h.size+1 < w5.size:=by have:=(x4.trans x5).1;omega
 cases hnm:nameOK D with
 | false =>
   rw [hnm,if_neg (by simp)] at htok
   obtain ⟨w9,b1,b2⟩:=fin w5 [.int .i64 (kd:Int),.int .i64 (at':Int),.string ByteArray.empty,.int .i32 0,.slice none 0 0,.bool false,.slice none 0 0,.slice none 0 0] x05 hws5
   simp +decide only [go_sem,WR,WS,hsz,e4,e6,gq5,gh5,j0,b1,b2]
   exact .inl ⟨htok,_,_,_,_,_,rfl,⟨_,_,_,_,_,_,_,_,_,_,rfl⟩⟩
 | true =>
   rw [hnm,if_pos rfl] at htok
   have hD1:=nameOK_len hnm
   have hDne:D≠[]:=by
    rintro rfl
    simp at hD1
   have hisl:=(tD.ext x5).isl hDne
   obtain ⟨w7,f1,f2,f3,f4,f5⟩:=put (w:=w5) [.int .i64 (kd:Int),.int .i64 (at':Int),.string (runesBytes D),.int .i32 0,.slice none 0 0,.bool false,.slice none 0 0,.slice none 0 0] x05 hws5 gh5
   obtain ⟨w9,b1,b2⟩:=fin w7 [.int .i64 (kd:Int),.int .i64 (at':Int),.string (runesBytes D),.int .i32 0,.slice none 0 0,.bool false,.slice none 0 0,.slice none 0 0] f2 f3
   have i6:IntKind.i64.wrap ((i:Int)+((D.length:Nat):Int))=((i+D.length:Nat):Int):=by rw [wrap_i64 (by omega) (by omega)];omega
   simp +decide only [go_sem,WR,WS,hsz,e1,e4,e6,hisl,icvs_rv,gq5,j1,f1,f4,f5,i6,j0,b1,b2]
   simp only [Option.map_some] at htok
   exact .inr ⟨_,_,_,htok,by omega,by omega,by rw [show at'+(i - at'+D.length)=i+D.length by omega];rfl,⟨⟨_,_,_,_,_,_,_,_,_,_,rfl⟩,fun hh=>absurd (show kd=1 from hh) hkd⟩⟩
theorem rlex_val (h:Heap) {l:List Int} {tv:Value} (t:Tx h tv l) :
  Runs K 10 #[tv] h fun r w=>(lex l=none∧r= .tuple #[.slice none 0 0,.bool false]) ∨
   ∃ (xs:List XT) (a:Option Addr) (c:Nat),lex l=some (xs.map (·.1))∧(∀ x ∈ xs,TR l w x)∧xs.length≤l.length∧r= .tuple #[.slice a xs.length c,.bool true]∧Sl w 8 a xs.length c (xcs xs):=by
 obtain ⟨a,c,rfl⟩:=t.open
 refine Runs.of Kok (Does.intro rfl (by decide +kernel) Tryz.func10 rfl ?_)
 by_cases h512:(512:Int) < ((l.length:Nat):Int)
 ·have:lex l=none:=by
   unfold lex
   rw [if_pos (by omega)]
  simp +decide only [go_sem,WR,WS,h512]
  simp [this]
 have hl512:¬ 512 < l.length:=by omega
 have b0:blanks l≤l.length:=by
  have:=blanks_len (l:=l) (p:=0) (Nat.zero_le _)
  simpa using this
 simp +decide only [go_sem,WR,WS,h512]
 refine W_call Kok (Nat.le_refl _) (rblanks_run l 0 h t (by omega) (Nat.zero_le _)) fun r w1 x1 hr=> ?_
 obtain ⟨rfl,rfl⟩:=hr
 rw [List.drop_zero,Nat.zero_add]
 simp +decide only [go_sem,WR,WS]
 refine W_loop (α:=Nat × Nat × List XT × Value) (fun k e w=>k.1≤l.length∧lex l=(lexF k.2.1 k.1 (l.drop k.1)).map (k.2.2.1.map (·.1)++·)∧600≤k.2.1+k.1∧e.size=40∧Ext w1 w∧e.get 0= .slice a l.length c∧e.get 4=k.2.2.2∧e.get 5= .int .i64 (k.1:Int)∧l[k.1]? ≠some 32 ∧
  Own w1.size w 8 k.2.2.2 k.2.2.1.length (xcs k.2.2.1)∧(∀ x ∈ k.2.2.1,TR l w x)∧k.2.2.1.length≤k.1) (fun k=>l.length - k.1) (blanks l,600 - blanks l,[],.slice none 0 0) ?_ ?_
 ·refine ⟨b0,?_,by simp only;omega,by simp +decide only [go_sem],Ext.refl _,by simp +decide only [go_sem],by simp +decide only [go_sem],by simp +decide only [go_sem],?_,Own.nil _ _ _,by simp,by simp⟩
  ·unfold lex
   rw [if_neg hl512]
   have:=lexF_blanks (blanks l) (600 - blanks l) 0 (s:=l) rfl
   rw [Nat.zero_add,show 600 - blanks l+blanks l=600 by omega] at this
   rw [this]
   simp
  ·intro hh
   have:=blanks_end (l:=l) (p:=0) (c:=32) (by simpa using hh)
   exact this rfl
 ·rintro ⟨p,f,xs,sv⟩ e w ⟨hp,hlex,hf,hsz,hxw,e0,e4,e5,h32,own,hall,hxp⟩ next
  simp only at hp hlex hf e4 e5 h32 own hall hxp
  obtain ⟨g,rfl⟩:∃ g,f=g+1:=⟨f - 1,by omega⟩
  have hb0:(l.drop p)[0]? =l[p]? :=by rw [List.getElem?_drop,Nat.add_zero]
  rw [lexF_succ,hb0] at hlex
  obtain ⟨oa,oc,rfl⟩:=own.shape
  by_cases hpl:(p:Int) < ((l.length:Nat):Int)
  case neg =>
   rw [List.getElem?_eq_none (by omega)] at hlex
   simp +decide only [go_sem,WR,WS,hsz,e0,e4,e5,hpl]
   exact .inr ⟨xs,_,_,by simpa using hlex,hall,by omega,rfl,own.sl⟩
  obtain ⟨y,hy⟩:∃ y,l[p]? =some y:=⟨_,List.getElem?_eq_getElem (by omega)⟩
  rw [hy] at hlex
  simp only at hlex
  have i0:(0:Int)≤(p:Int):=by omega
  obtain ⟨b',o',cs',q1,q2,q3,q4⟩:=(t.ext hxw).one hy
  cases q1
  by_cases hlamp:y=9053
  ·rw [if_pos hlamp] at hlex
   simp +decide only [go_sem,WR,WS,hsz,e0,e4,e5,hpl,i0,Int.toNat_natCast,Nat.mul_one,q3,q4,hlamp]
   exact .inr ⟨xs,_,_,by simpa using hlex,hall,by omega,rfl,own.sl⟩
  rw [if_neg hlamp] at hlex
  simp +decide only [go_sem,WR,WS,hsz,e0,e4,e5,hpl,i0,Int.toNat_natCast,Nat.mul_one,q3,q4,hlamp]
  refine W_call Kok hxw.1 (rone_val l p w (t.ext hxw) (by omega) (by omega) h32) fun r w2 x2 hr=> ?_
  have hx2:=hxw.trans x2
  have hk2:=hx2.1
  rcases hr with ⟨ht,kk,qq,zz,ss,P,rfl,pa,pn,pc,pb,pa2,pn2,pc2,pa3,pn3,pc3,rfl⟩ | ⟨tk,k,P,ht,hk1,hk3,rfl,hA⟩
  ·rw [ht] at hlex
   obtain ⟨w3,e3,x3,hs3,g3⟩:=lay1 w2 (.cells [.int .i64 0,.int .i64 0,.string ByteArray.empty,.int .i32 0,.slice none 0 0,.bool false,.slice none 0 0,.slice none 0 0] 8)
   obtain ⟨w4,e4',x4,hs4,g4,k4⟩:=put1 (hx2.trans x3) hk2 (.cells [.int .i64 kk,.int .i64 qq,.string ss,.int .i32 zz,.slice pa pn pc,.bool pb,.slice pa2 pn2 pc2,.slice pa3 pn3 pc3] 8)
   simp only [List.cons_append,List.nil_append]
   simp +decide only [go_sem,WR,WS,hsz,e0,e4,e5,e3,g3,hk2,e4',g4]
   simpa using hlex
  ·rw [ht] at hlex
   simp only [List.drop_drop] at hlex
   obtain ⟨w3,e3,x3,hs3,g3⟩:=lay1 w2 (.cells [.int .i64 0,.int .i64 0,.string ByteArray.empty,.int .i32 0,.slice none 0 0,.bool false,.slice none 0 0,.slice none 0 0] 8)
   have hA':=hA.1
   simp only at hA'
   obtain ⟨pa,pn,pc,pb,pa2,pn2,pc2,pa3,pn3,pc3,rfl⟩:=hA'
   obtain ⟨w4,e4',x4,hs4,g4,k4⟩:=put1 (hx2.trans x3) hk2 (.cells (tc4 (p,tk)++[.slice pa pn pc,.bool pb,.slice pa2 pn2 pc2,.slice pa3 pn3 pc3]) 8)
   obtain ⟨w5,e5',x5,hs5,g5⟩:=lay1 w4 (.cells (tc4 (p,tk)++[.slice pa pn pc,.bool pb,.slice pa2 pn2 pc2,.slice pa3 pn3 pc3]) 8)
   have ext24:Ext w2 w4:=⟨by have:=x3.1;omega,fun b hb=>(k4 b (by omega)).trans (x3.2 b hb)⟩
   have own5:=((own.ext x2).ext ext24).ext x5
   obtain ⟨w6,e6,own6,hs6,x6,k6⟩:=app_oth (low:=w1.size) (bytes:=120) (k:=1) (new:=tc4 (p,tk)++[.slice pa pn pc,.bool pb,.slice pa2 pn2 pc2,.slice pa3 pn3 pc3]) (Nat.le_refl _) (x4.trans x5) own5 (by omega) (by omega) rfl (by omega) (by omega)
   have hz:¬ ((p+k:Nat):Int)=0:=by omega
   have keep:∀ x,TR l w2 x→TR l w6 x:=fun x H=>⟨H.1,fun hh=>(((H.2 hh).ext ext24).ext x5).oth (by omega) k6 own5 (by omega) (by omega)⟩
   simp only [tc4,List.cons_append,List.nil_append] at e4' g4 e5' g5 e6 ⊢
   simp +decide only [go_sem,WR,WS,hsz,e0,e4,e5,e3,g3,hk2,e4',g4,hz,e5',g5,e6]
   obtain ⟨B,hB⟩:∃ B,B=blanks (l.drop (p+k)):=⟨_,rfl⟩
   have hBl:p+k+B≤l.length:=by rw [hB];exact blanks_len hk3
   refine W_call Kok x6.1 (rblanks_run l (p+k) w6 (t.ext x6) (by omega) hk3) fun r w7 x7 hr=> ?_
   obtain ⟨rfl,rfl⟩:=hr
   rw [← hB]
   simp +decide only [go_sem,WR,WS,hsz]
   refine next (p+k+B,g - B,xs++[((p,tk),[.slice pa pn pc,.bool pb,.slice pa2 pn2 pc2,.slice pa3 pn3 pc3])],.slice (some ⟨w5.size,0,none⟩) (xs.length+1) big) _ _ ⟨hBl,?_,by simp only;omega,by simp +decide only [go_sem,hsz],x6,by simp +decide only [go_sem,hsz,e0],by simp +decide only [go_sem,hsz],by simp +decide only [go_sem,hsz],?_,?_,?_,by simp;omega⟩ (by simp only;omega)
   ·rw [hlex]
    have hlb:=lexF_blanks B (g - B) (p+k) (s:=l.drop (p+k)) hB
    rw [show g - B+B=g by omega,List.drop_drop] at hlb
    rw [hlb]
    simp only [Option.map_map]
    congr 1
    funext z
    simp
   ·intro hh
    exact blanks_end (l:=l) (p:=p+k) (c:=32) (by rw [← hB];exact hh) rfl
   ·rw [xcs_append,List.length_append]
    exact own6
   ·intro x hx
    rcases List.mem_append.1 hx with hx | hx
    ·exact keep x ((hall x hx).ext x2)
    ·rw [List.mem_singleton] at hx
     subst hx
     exact keep _ hA
end Go.Proofs.YtjlaenglmdpboaaGreat.V9
