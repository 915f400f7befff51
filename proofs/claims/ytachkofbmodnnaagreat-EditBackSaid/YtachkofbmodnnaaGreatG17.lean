/- Proved here: parts of the way to BEditBack (BR9 BT0 BV1 BH1); no condition beyond those that each theorem names. -/
import Derived.Test.YtachkofbmodnnaaGreatG16
import Derived.Test.YtachkofbmodnnaaGreatG4
set_option linter.unusedSimpArgs false
set_option linter.unusedVariables false
namespace Go.Im
theorem Tx.isl {h:Heap} {a:Option Addr} {n c:Nat} {l:List Int} (t:Tx h (.slice a n c) l) (hne:l≠[]):Zak h 1 (.slice a n c)=some (rv l):=by
 rcases t with ⟨h0,_⟩ | ⟨b,o,cs,e1,e2,e3,e4,e5⟩
 ·exact absurd h0 hne
 ·cases e1
  simp only [Zak,Heap.look,e3]
  rw [if_pos ⟨trivial,by omega⟩,e5,Nat.mul_one]
end Go.Im
namespace Go.Proofs.YtachkofbmodnnaaGreat.R9
open Go Go.Im Go.Im.Limbs Go.Im.Lexing Go.Im.Dec Go.Proofs Go.RowKit Hd N16 N18 N19 N20 N22 N23 R5 R6 R7 R8
set_option maxRecDepth 100000
def ROne (l:List Int) (at':Nat) (r:Value):Prop:=(tokS (l.drop at')=none∧∃ (k q z:Int) (s:ByteArray) (p:List Value),r= .tuple #[.agg (([.int .i64 k,.int .i64 q,.string s,.int .i32 z]:List Value)++p).toArray,.int .i64 0]∧Arr4 p) ∨
 ∃ tk k p,tokS (l.drop at')=some (some tk,k)∧at' < at'+k∧at'+k≤l.length∧r= .tuple #[.agg (tc4 (at',tk)++p).toArray,.int .i64 ((at'+k:Nat):Int)]∧Arr4 p
theorem ZnM (l:List Int) {i:Nat} (h:i≤l.length):i+((l.drop i).takeWhile isW).length≤l.length:=by
 have:=Zgh (p:=isW) (l.drop i)
 rw [List.length_drop] at this
 omega
set_option maxHeartbeats 4000000 in
theorem Zn1 (l:List Int) (at':Nat) {v:Value} (h:Heap) (t:Tx h v l) (hm:l.length≤512) (hat:at' < l.length) (h32:l[at']? ≠some 32) :
  Runs K 85 #[v,.int .i64 (at':Int)] h fun r w=>ROne l at' r:=by
 obtain ⟨a,c0,rfl⟩:=t.open
 have hne:l≠[]:=by rintro rfl;simp at hat
 refine Runs.of Kok (Does.intro rfl Ye Tryz.func85 rfl ?_)
 obtain ⟨w0,e0',x0,hs0,z0,z1⟩:=lay2 h (.cells [.int .i64 0,.int .i64 0,.string ByteArray.empty,.int .i32 0,.slice none 0 0,.bool false,.slice none 0 0,.slice none 0 0] 8) (.cells [.int .i64 0,.int .i64 0,.string ByteArray.empty,.int .i32 0,.slice none 0 0,.bool false,.slice none 0 0,.slice none 0 0] 8)
 have j1:h.size≤h.size+1:=Ya
 have j0:h.size≤h.size:=Nat.le_refl _
 obtain ⟨w1,e1',x1,hs1,g1,k1⟩:=put1 x0 j1 (.cells [.int .i64 0,.int .i64 (at':Int),.string ByteArray.empty,.int .i32 0,.slice none 0 0,.bool false,.slice none 0 0,.slice none 0 0] 8)
 have gh1:w1.get h.size=_:=(k1 _ Ya).trans z0
 have hws1:h.size+1 < w1.size:=Ya
 obtain ⟨c,hc⟩:∃ c,l[at']? =some c:=⟨_,List.getElem?_eq_getElem hat⟩
 have hc32:¬ c=32:=fun hh=>h32 (by rw [hc,hh])
 have hk1:¬ kindOf c=1:=by
  intro hh
  apply hc32
  unfold kindOf at hh
  split at hh
  ·assumption
  ·repeat' split at hh
   all_goals first | omega | cases hh
 have htok:=ZiX hc
 rw [if_neg hk1] at htok
 have i0:(0:Int)≤(at':Int):=Ya
 have i1:IntKind.i64.wrap ((at':Int)+1)=((at'+1:Nat):Int):=Yd
 have il:(at':Int) < ((l.length:Nat):Int):=Ya
 obtain ⟨b,o,cs,q1,q2,q3,q4⟩:=(t.ext x1).one hc
 cases q1
 simp +decide only [go_sem,WR,WS,e0',z1,j1,e1',il,i0,Int.toNat_natCast,Nat.mul_one,q3,q4]
 refine Zaa Kok x1.1 (ZdX c w1) fun r w2 x2 hr=> ?_
 subst hr
 have x02:=x1.trans x2
 simp +decide only [go_sem,WR,WS,i1]
 refine Zaa Kok x02.1 (ZcG l at' w2 (t.ext x02) Ya Ya) fun r w3 x3 hr=> ?_
 subst hr
 have x03:=x02.trans x3
 have x13:=x2.trans x3
 have g3:w3.get (h.size+1)=_:=(x13.2 _ hws1).trans g1
 have gh3:w3.get h.size=_:=(x13.2 _ Ya).trans gh1
 have hws3:h.size+1 < w3.size:=by have:=x13.1;omega
 obtain ⟨b3,o3,cs3,q1,q2,q3,q4⟩:=(t.ext x03).one hc
 cases q1
 have fin:∀ (w:Heap) (C:List Value),Ext h w→h.size+1 < w.size→∃ w8,w.set h.size (.cells C 8)=w8∧w8.get h.size= .cells C 8:=fun w C xw hw=>by
  obtain ⟨w8,e8,x8,hs8,g8,k8⟩:=put1 xw j0 (.cells C 8)
  exact ⟨w8,e8,g8⟩
 cases hbg:begins (l.drop at') with
 | true =>
   rw [hbg,if_pos rfl] at htok
   obtain ⟨w5,e5,x5,hs5,g5,k5⟩:=put1 x03 j1 (.cells [.int .i64 1,.int .i64 (at':Int),.string ByteArray.empty,.int .i32 0,.slice none 0 0,.bool false,.slice none 0 0,.slice none 0 0] 8)
   have gh5:w5.get h.size=_:=(k5 _ Ya).trans gh3
   simp +decide only [go_sem,WR,WS,g3,j1,e5]
   refine Zaa Kok x5.1 (Zh1 l at' w5 (t.ext x5) hm hat hbg) fun r w6 x6 hr=> ?_
   have g6:w6.get (h.size+1)=_:=(x6.2 _ Ya).trans g5
   have gh6:w6.get h.size=_:=(x6.2 _ Ya).trans gh5
   have x06:=x5.trans x6
   rcases hr with ⟨hn,p,rfl,pa,pn,pc,pb,pa2,pn2,pc2,pa3,pn3,pc3,rfl⟩ | ⟨n,m,p,hn,hm1,hm2,rfl,pa,pn,pc,pb,pa2,pn2,pc2,pa3,pn3,pc3,rfl⟩
   ·obtain ⟨w7,e7,x7,hs7,g7,k7⟩:=put1 x06 j1 (.cells [.int .i64 1,.int .i64 (at':Int),.string ByteArray.empty,.int .i32 0,.slice pa pn pc,.bool pb,.slice pa2 pn2 pc2,.slice pa3 pn3 pc3] 8)
    have gh7:w7.get h.size=_:=(k7 _ Ya).trans gh6
    obtain ⟨w8,e8,g8⟩:=fin w7 [.int .i64 1,.int .i64 (at':Int),.string ByteArray.empty,.int .i32 0,.slice pa pn pc,.bool pb,.slice pa2 pn2 pc2,.slice pa3 pn3 pc3] x7 (by have:=x6.1;omega)
    rw [hn] at htok
    simp +decide only [go_sem,WR,WS,g6,j1,e7,g7,gh7,j0,e8,g8]
    exact .inl ⟨htok,_,_,_,_,_,rfl,⟨_,_,_,_,_,_,_,_,_,_,rfl⟩⟩
   ·obtain ⟨w7,e7,x7,hs7,g7,k7⟩:=put1 x06 j1 (.cells [.int .i64 1,.int .i64 (at':Int),.string ByteArray.empty,.int .i32 0,.slice pa pn pc,.bool pb,.slice pa2 pn2 pc2,.slice pa3 pn3 pc3] 8)
    have gh7:w7.get h.size=_:=(k7 _ Ya).trans gh6
    obtain ⟨w8,e8,g8⟩:=fin w7 [.int .i64 1,.int .i64 (at':Int),.string ByteArray.empty,.int .i32 0,.slice pa pn pc,.bool pb,.slice pa2 pn2 pc2,.slice pa3 pn3 pc3] x7 (by have:=x6.1;omega)
    rw [hn] at htok
    simp +decide only [go_sem,WR,WS,g6,j1,e7,g7,gh7,j0,e8,g8]
    exact .inr ⟨_,_,_,htok,hm1,hm2,rfl,⟨_,_,_,_,_,_,_,_,_,_,rfl⟩⟩
 | false =>
 rw [hbg,if_neg Yp] at htok
 by_cases h39:c=39
 ·subst h39
  have hk39:¬ kindOf 39=2:=YI
  rw [if_neg hk39,if_pos rfl] at htok
  obtain ⟨w5,e5,x5,hs5,g5,k5⟩:=put1 x03 j1 (.cells [.int .i64 1,.int .i64 (at':Int),.string ByteArray.empty,.int .i32 0,.slice none 0 0,.bool false,.slice none 0 0,.slice none 0 0] 8)
  have gh5:w5.get h.size=_:=(k5 _ Ya).trans gh3
  simp +decide only [go_sem,WR,WS,il,i0,Int.toNat_natCast,Nat.mul_one,q3,q4,g3,j1,e5]
  refine Zaa Kok x5.1 (ZfP l at' w5 (t.ext x5) hm hat) fun r w6 x6 hr=> ?_
  have g6:w6.get (h.size+1)=_:=(x6.2 _ Ya).trans g5
  have gh6:w6.get h.size=_:=(x6.2 _ Ya).trans gh5
  have x06:=x5.trans x6
  rcases hr with ⟨hn,p,rfl,pa,pn,pc,pb,pa2,pn2,pc2,pa3,pn3,pc3,rfl⟩ | ⟨k,p,hn,rfl,pa,pn,pc,pb,pa2,pn2,pc2,pa3,pn3,pc3,rfl⟩
  ·obtain ⟨w7,e7,x7,hs7,g7,k7⟩:=put1 x06 j1 (.cells [.int .i64 1,.int .i64 (at':Int),.string ByteArray.empty,.int .i32 0,.slice pa pn pc,.bool pb,.slice pa2 pn2 pc2,.slice pa3 pn3 pc3] 8)
   have gh7:w7.get h.size=_:=(k7 _ Ya).trans gh6
   obtain ⟨w8,e8,g8⟩:=fin w7 [.int .i64 1,.int .i64 (at':Int),.string ByteArray.empty,.int .i32 0,.slice pa pn pc,.bool pb,.slice pa2 pn2 pc2,.slice pa3 pn3 pc3] x7 (by have:=x6.1;omega)
   rw [hn] at htok
   simp +decide only [go_sem,WR,WS,g6,j1,e7,g7,gh7,j0,e8,g8]
   exact .inl ⟨htok,_,_,_,_,_,rfl,⟨_,_,_,_,_,_,_,_,_,_,rfl⟩⟩
  ·obtain ⟨w7,e7,x7,hs7,g7,k7⟩:=put1 x06 j1 (.cells [.int .i64 1,.int .i64 (at':Int),.string ByteArray.empty,.int .i32 0,.slice pa pn pc,.bool pb,.slice pa2 pn2 pc2,.slice pa3 pn3 pc3] 8)
   have gh7:w7.get h.size=_:=(k7 _ Ya).trans gh6
   obtain ⟨w8,e8,g8⟩:=fin w7 [.int .i64 1,.int .i64 (at':Int),.string ByteArray.empty,.int .i32 0,.slice pa pn pc,.bool pb,.slice pa2 pn2 pc2,.slice pa3 pn3 pc3] x7 (by have:=x6.1;omega)
   rw [hn] at htok
   have hkl:=ZhR hn
   rw [List.length_drop] at hkl
   simp +decide only [go_sem,WR,WS,g6,j1,e7,g7,gh7,j0,e8,g8]
   exact .inr ⟨_,_,_,htok,by omega,by omega,by rw [Nat.add_assoc];rfl,⟨_,_,_,_,_,_,_,_,_,_,rfl⟩⟩
 apply Za1 (α:=Unit) (fun _ e w=>e.size=117∧Ext h w∧h.size+1 < w.size∧e.get 0= .slice (some ⟨b,o,none⟩) l.length big∧e.get 1= .int .i64 (at':Int)∧e.get 4= .pointer (some ⟨h.size,0,none⟩)∧e.get 6= .pointer (some ⟨h.size+1,0,none⟩)∧e.get 7= .int .i64 ((kindOf c:Nat):Int) ∧
  e.get 8= .int .i64 ((at'+1:Nat):Int)∧e.get 9= .bool (Zce l at' c)∧w.get h.size= .cells [.int .i64 0,.int .i64 0,.string ByteArray.empty,.int .i32 0,.slice none 0 0,.bool false,.slice none 0 0,.slice none 0 0] 8 ∧
  w.get (h.size+1)= .cells [.int .i64 0,.int .i64 (at':Int),.string ByteArray.empty,.int .i32 0,.slice none 0 0,.bool false,.slice none 0 0,.slice none 0 0] 8)
 ·intro cont
  simp +decide only [go_sem,WS,il,i0,Int.toNat_natCast,Nat.mul_one,q3,q4,h39]
  (rw [WR];simp +decide only [go_sem,WS,il,i0,Int.toNat_natCast,Nat.mul_one,q3,q4,h39])
  by_cases hq:c=9109
  case neg =>
   have hqq:Zce l at' c=false:=by simp [Zce,hq]
   (rw [WR];simp +decide only [go_sem,WS,il,i0,Int.toNat_natCast,Nat.mul_one,q3,q4,hq])
   exact cont () _ _ ⟨Yc,x03,hws3,Yc,Yc,Yc,YW,Yc,Yc,by simp +decide only [go_sem,hqq],gh3,g3⟩
  by_cases hl2:((at'+1:Nat):Int) < ((l.length:Nat):Int)
  case neg =>
   have hqq:Zce l at' c=false:=by simp [Zce,List.getElem?_eq_none (show l.length≤at'+1 by omega)]
   (rw [WR];simp +decide only [go_sem,WS,il,i0,Int.toNat_natCast,Nat.mul_one,q3,q4,hq,hl2])
   rw [hq] at hqq
   exact cont () _ _ ⟨Yc,x03,hws3,Yc,Yc,Yc,YW,by simp +decide only [go_sem,hq],Yc,by simp +decide only [go_sem,hq,hqq],gh3,g3⟩
  obtain ⟨d,hd⟩:∃ d,l[at'+1]? =some d:=⟨_,List.getElem?_eq_getElem Ya⟩
  obtain ⟨b4,o4,cs4,p1,p2,p3,p4⟩:=(t.ext x03).one hd
  cases p1
  rw [q3] at p3
  cases p3
  have i2:(0:Int)≤((at'+1:Nat):Int):=Ya
  (rw [WR];simp +decide only [go_sem,WS,il,i0,Int.toNat_natCast,Nat.mul_one,q3,q4,hq,hl2,i2,p4])
  refine Zaa Kok x03.1 (ZdX d w3) fun r w4 x4 hr=> ?_
  subst hr
  have hqq:Zce l at' c=decide (((kindOf d:Nat):Int)=2):=by
   simp only [Zce,hq,hd,decide_true,Bool.true_and]
   exact decide_eq_decide.2 Ya
  simp +decide only [go_sem,WS]
  rw [hq] at hqq
  exact cont () _ _ ⟨Yc,x03.trans x4,by have:=x4.1;omega,Yc,Yc,Yc,YW,by simp +decide only [go_sem,hq],Yc,by simp +decide only [go_sem,hq,hqq],(x4.2 _ Ya).trans gh3,(x4.2 _ hws3).trans g3⟩
 rintro _ e w ⟨hsz,hxw,hws,e0,e1,e4,e6,e7,e8,e9,gh,gq⟩
 have tw:=t.ext hxw
 obtain ⟨b5,o5,cs5,q1,q2,q3,q4⟩:=tw.one hc
 cases q1
 have put:∀ {w:Heap} (C:List Value),Ext h w→h.size+1 < w.size→w.get h.size= .cells [.int .i64 0,.int .i64 0,.string ByteArray.empty,.int .i32 0,.slice none 0 0,.bool false,.slice none 0 0,.slice none 0 0] 8→∃ w7,w.set (h.size+1) (.cells C 8)=w7∧Ext h w7∧h.size+1 < w7.size∧w7.get (h.size+1)= .cells C 8 ∧
   w7.get h.size= .cells [.int .i64 0,.int .i64 0,.string ByteArray.empty,.int .i32 0,.slice none 0 0,.bool false,.slice none 0 0,.slice none 0 0] 8:=fun {w} C xw hw gw=>by
  obtain ⟨w7,e7,x7,hs7,g7,k7⟩:=put1 xw j1 (.cells C 8)
  exact ⟨w7,e7,x7,by omega,g7,(k7 _ Ya).trans gw⟩
 apply Za1 (α:=Nat × Nat) (fun k e w=>e.size=117∧Ext h w∧h.size+1 < w.size∧e.get 0= .slice (some ⟨b,o,none⟩) l.length big∧e.get 1= .int .i64 (k.1:Int)∧e.get 4= .pointer (some ⟨h.size,0,none⟩)∧e.get 6= .pointer (some ⟨h.size+1,0,none⟩) ∧
  w.get h.size= .cells [.int .i64 0,.int .i64 0,.string ByteArray.empty,.int .i32 0,.slice none 0 0,.bool false,.slice none 0 0,.slice none 0 0] 8 ∧
  w.get (h.size+1)= .cells [.int .i64 (k.2:Int),.int .i64 (at':Int),.string ByteArray.empty,.int .i32 0,.slice none 0 0,.bool false,.slice none 0 0,.slice none 0 0] 8∧k.1≤l.length∧at'≤k.1 ∧
  tokS (l.drop at')=(Zb2 k.2 (l.drop k.1)).map fun x=>(some x.1,k.1 - at'+x.2))
 ·intro cont
  by_cases hk2:kindOf c=2
  ·have hk2':((kindOf c:Nat):Int)=2:=by omega
   have hqq:Zce l at' c=false:=by
    have:¬ c=9109:=by
     rintro rfl
     revert hk2
     decide
    simp [Zce,this]
   rw [if_pos hk2] at htok
   rw [hqq] at e9
   obtain ⟨w7,f1,f2,f3,f4,f5⟩:=put [.int .i64 2,.int .i64 (at':Int),.string ByteArray.empty,.int .i32 0,.slice none 0 0,.bool false,.slice none 0 0,.slice none 0 0] hxw hws gh
   (rw [WR];simp +decide only [go_sem,WS,hsz,e0,e1,e4,e6,e7,e8,e9,hk2'])
   (rw [WR];simp +decide only [go_sem,WS,hsz,e0,e1,e4,e6,e7,e8,e9,gq,j1,f1])
   (rw [WR];simp +decide only [go_sem,WS,hsz,e9])
   refine cont (at',2) _ _ ⟨Yb,f2,f3,Yf,Yk,Yg,Ym,f5,f4,by simp only;omega,Nat.le_refl _,?_⟩
   rw [htok]
   simp
  rw [if_neg hk2,if_neg h39] at htok
  have hk2':¬ ((kindOf c:Nat):Int)=2:=Ya
  cases hqq:Zce l at' c with
  | true =>
    rw [hqq,if_pos rfl] at htok
    rw [hqq] at e9
    have hlt:at'+1≤l.length:=Ya
    obtain ⟨w7,f1,f2,f3,f4,f5⟩:=put [.int .i64 2,.int .i64 (at':Int),.string ByteArray.empty,.int .i32 0,.slice none 0 0,.bool false,.slice none 0 0,.slice none 0 0] hxw hws gh
    obtain ⟨w8,d1,d2,d3,d4,d5⟩:=put [.int .i64 3,.int .i64 (at':Int),.string ByteArray.empty,.int .i32 0,.slice none 0 0,.bool false,.slice none 0 0,.slice none 0 0] f2 f3 f5
    (rw [WR];simp +decide only [go_sem,WS,hsz,e0,e1,e4,e6,e7,e8,e9,hk2'])
    (rw [WR];simp +decide only [go_sem,WS,hsz,e0,e1,e4,e6,e7,e8,e9,gq,j1,f1])
    (rw [WR];simp +decide only [go_sem,WS,hsz,e9])
    (rw [WR];simp +decide only [go_sem,WS,hsz,e0,e1,e4,e6,e7,e8,e9,f4,j1,d1])
    (rw [WR];simp +decide only [go_sem,WS,hsz,e8])
    refine cont (at'+1,3) _ _ ⟨Yb,d2,d3,Yf,Yb,Yg,Ym,d5,d4,hlt,by simp,?_⟩
    rw [htok]
    simp
  | false =>
    rw [hqq,if_neg Yp] at htok
    rw [hqq] at e9
    obtain ⟨w7,f1,f2,f3,f4,f5⟩:=put [.int .i64 0,.int .i64 (at':Int),.string ByteArray.empty,.int .i32 c,.slice none 0 0,.bool false,.slice none 0 0,.slice none 0 0] hxw hws gh
    have done:∀ kd:Nat,∃ w8 w9,w7.set (h.size+1) (.cells [.int .i64 (kd:Int),.int .i64 (at':Int),.string ByteArray.empty,.int .i32 c,.slice none 0 0,.bool false,.slice none 0 0,.slice none 0 0] 8)=w8 ∧
      w8.get (h.size+1)= .cells [.int .i64 (kd:Int),.int .i64 (at':Int),.string ByteArray.empty,.int .i32 c,.slice none 0 0,.bool false,.slice none 0 0,.slice none 0 0] 8 ∧
      w8.get h.size= .cells [.int .i64 0,.int .i64 0,.string ByteArray.empty,.int .i32 0,.slice none 0 0,.bool false,.slice none 0 0,.slice none 0 0] 8 ∧
      w8.set h.size (.cells [.int .i64 (kd:Int),.int .i64 (at':Int),.string ByteArray.empty,.int .i32 c,.slice none 0 0,.bool false,.slice none 0 0,.slice none 0 0] 8)=w9∧w9.get h.size= .cells [.int .i64 (kd:Int),.int .i64 (at':Int),.string ByteArray.empty,.int .i32 c,.slice none 0 0,.bool false,.slice none 0 0,.slice none 0 0] 8:=fun kd=>by
     obtain ⟨w8,d1,d2,d3,d4,d5⟩:=put [.int .i64 (kd:Int),.int .i64 (at':Int),.string ByteArray.empty,.int .i32 c,.slice none 0 0,.bool false,.slice none 0 0,.slice none 0 0] f2 f3 f5
     obtain ⟨w9,b1,b2⟩:=fin w8 [.int .i64 (kd:Int),.int .i64 (at':Int),.string ByteArray.empty,.int .i32 c,.slice none 0 0,.bool false,.slice none 0 0,.slice none 0 0] d2 d3
     exact ⟨w8,w9,d1,d4,d5,b1,b2⟩
    by_cases h45:kindOf c=4∨kindOf c=5
    ·rw [if_pos h45] at htok
     obtain ⟨w8,w9,d1,d2,d3,d4,d5⟩:=done 4
     rcases h45 with h4 | h5
     ·have h4':((kindOf c:Nat):Int)=4:=by omega
      simp only [Int.cast_ofNat_Int] at d1 d2 d3 d4 d5
      simp +decide only [go_sem,WR,WS,hsz,e0,e1,e4,e6,e7,e8,e9,il,i0,Int.toNat_natCast,Nat.mul_one,q3,q4,hk2',gq,j1,f1,f4,h4',d1,d2,d3,j0,d4,d5]
      exact .inr ⟨_,_,_,htok,by omega,by omega,rfl,⟨_,_,_,_,_,_,_,_,_,_,rfl⟩⟩
     ·have h4':¬ ((kindOf c:Nat):Int)=4:=by omega
      have h5':((kindOf c:Nat):Int)=5:=Ya
      simp only [Int.cast_ofNat_Int] at d1 d2 d3 d4 d5
      simp +decide only [go_sem,WR,WS,hsz,e0,e1,e4,e6,e7,e8,e9,il,i0,Int.toNat_natCast,Nat.mul_one,q3,q4,hk2',gq,j1,f1,f4,h4',h5',d1,d2,d3,j0,d4,d5]
      exact .inr ⟨_,_,_,htok,by omega,by omega,rfl,⟨_,_,_,_,_,_,_,_,_,_,rfl⟩⟩
    rw [if_neg h45] at htok
    have h4':¬ ((kindOf c:Nat):Int)=4:=Ya
    have h5':¬ ((kindOf c:Nat):Int)=5:=Ya
    by_cases h6:kindOf c=6
    ·rw [if_pos h6] at htok
     obtain ⟨w8,w9,d1,d2,d3,d4,d5⟩:=done 5
     have h6':((kindOf c:Nat):Int)=6:=Ya
     simp only [Int.cast_ofNat_Int] at d1 d2 d3 d4 d5
     have i6:IntKind.i64.wrap 5=5:=rfl
     simp +decide only [go_sem,WR,WS,hsz,e0,e1,e4,e6,e7,e8,e9,il,i0,Int.toNat_natCast,Nat.mul_one,q3,q4,hk2',gq,j1,f1,f4,h4',h5',h6',i6,d1,d2,d3,j0,d4,d5]
     exact .inr ⟨_,_,_,htok,by omega,by omega,rfl,⟨_,_,_,_,_,_,_,_,_,_,rfl⟩⟩
    rw [if_neg h6] at htok
    have h6':¬ ((kindOf c:Nat):Int)=6:=Ya
    by_cases h7:kindOf c=7
    ·rw [if_pos h7] at htok
     obtain ⟨w8,w9,d1,d2,d3,d4,d5⟩:=done 6
     have h7':((kindOf c:Nat):Int)=7:=Ya
     simp only [Int.cast_ofNat_Int] at d1 d2 d3 d4 d5
     have i6:IntKind.i64.wrap 6=6:=rfl
     simp +decide only [go_sem,WR,WS,hsz,e0,e1,e4,e6,e7,e8,e9,il,i0,Int.toNat_natCast,Nat.mul_one,q3,q4,hk2',gq,j1,f1,f4,h4',h5',h6',h7',i6,d1,d2,d3,j0,d4,d5]
     exact .inr ⟨_,_,_,htok,by omega,by omega,rfl,⟨_,_,_,_,_,_,_,_,_,_,rfl⟩⟩
    rw [if_neg h7] at htok
    have h7':¬ ((kindOf c:Nat):Int)=7:=Ya
    obtain ⟨w9,b1,b2⟩:=fin w7 [.int .i64 0,.int .i64 (at':Int),.string ByteArray.empty,.int .i32 c,.slice none 0 0,.bool false,.slice none 0 0,.slice none 0 0] f2 f3
    simp +decide only [go_sem,WR,WS,hsz,e0,e1,e4,e6,e7,e8,e9,il,i0,Int.toNat_natCast,Nat.mul_one,q3,q4,hk2',gq,j1,f1,f4,h4',h5',h6',h7',f5,j0,b1,b2]
    exact .inl ⟨htok,_,_,_,_,_,rfl,⟨_,_,_,_,_,_,_,_,_,_,rfl⟩⟩
 rintro ⟨i,kd⟩ e w ⟨hsz,hxw,hws,e0,e1,e4,e6,gh,gq,hil,hati,htok⟩
 simp only at e1 gq hil hati htok
 obtain ⟨D,hD⟩:∃ D,D=(l.drop i).takeWhile isW:=⟨_,rfl⟩
 have hDl:=ZnM l hil
 unfold Zb2 at htok
 rw [← hD] at htok hDl
 simp +decide only [go_sem,WR,WS,hsz,e0,e1]
 refine Zaa Kok hxw.1 (Zi1 l i w (t.ext hxw) hne Ya hil) fun r w4 x4 hr=> ?_
 obtain ⟨tD,aD,rfl⟩:=hr
 rw [← hD] at tD ⊢
 have x04:=hxw.trans x4
 simp +decide only [go_sem,WR,WS,hsz]
 refine Zaa Kok x04.1 (Zl1 D w4 tD Ya) fun r w5 x5 hr=> ?_
 subst hr
 have x05:=x04.trans x5
 have gh5:w5.get h.size=_:=((x4.trans x5).2 _ Ya).trans gh
 have gq5:w5.get (h.size+1)=_:=((x4.trans x5).2 _ hws).trans gq
 have hws5:h.size+1 < w5.size:=by have:=(x4.trans x5).1;omega
 cases hnm:Zat D with
 | false =>
   rw [hnm,if_neg Yp] at htok
   obtain ⟨w9,b1,b2⟩:=fin w5 [.int .i64 (kd:Int),.int .i64 (at':Int),.string ByteArray.empty,.int .i32 0,.slice none 0 0,.bool false,.slice none 0 0,.slice none 0 0] x05 hws5
   simp +decide only [go_sem,WR,WS,hsz,e4,e6,gq5,gh5,j0,b1,b2]
   exact .inl ⟨htok,_,_,_,_,_,rfl,⟨_,_,_,_,_,_,_,_,_,_,rfl⟩⟩
 | true =>
   rw [hnm,if_pos rfl] at htok
   have hD1:=ZeJ hnm
   have hDne:D≠[]:=by
    rintro rfl
    simp at hD1
   have hisl:=(tD.ext x5).isl hDne
   obtain ⟨w7,f1,f2,f3,f4,f5⟩:=put (w:=w5) [.int .i64 (kd:Int),.int .i64 (at':Int),.string (runesBytes D),.int .i32 0,.slice none 0 0,.bool false,.slice none 0 0,.slice none 0 0] x05 hws5 gh5
   obtain ⟨w9,b1,b2⟩:=fin w7 [.int .i64 (kd:Int),.int .i64 (at':Int),.string (runesBytes D),.int .i32 0,.slice none 0 0,.bool false,.slice none 0 0,.slice none 0 0] f2 f3
   have i6:IntKind.i64.wrap ((i:Int)+((D.length:Nat):Int))=((i+D.length:Nat):Int):=Yd
   simp +decide only [go_sem,WR,WS,hsz,e1,e4,e6,hisl,Zb0,gq5,j1,f1,f4,f5,i6,j0,b1,b2]
   simp only [Option.map_some] at htok
   exact .inr ⟨_,_,_,htok,by omega,by omega,by rw [show at'+(i - at'+D.length)=i+D.length by omega];rfl,⟨_,_,_,_,_,_,_,_,_,_,rfl⟩⟩
theorem ZdF:∀ (k f p:Nat) {s:List Int},k=blanks s→lexF (f+k) p s=lexF f (p+k) (s.drop k)
 | 0,f,p,s,_=>by simp
 | k+1,f,p,[],h=>by simp [blanks] at h
 | k+1,f,p,c::s,h=>by
   by_cases hc:c=32
   ·subst hc
    have h':k=blanks s:=by
     simp only [blanks,List.takeWhile_cons,decide_true,if_true,List.length_cons] at h
     unfold blanks
     omega
    have e1:tokS (32::s)=some (none,1):=by rw [ZfD,if_pos Zij]
    have h9:¬ (32:Int)=9053:=Ya
    rw [show f+(k+1)=(f+k)+1 by omega,Zpi,if_neg h9,e1]
    simp only [List.drop_succ_cons,List.drop_zero]
    rw [ZdF k f (p+1) h',show p+1+k=p+(k+1) by omega]
   ·have:blanks (c::s)=0:=by simp [blanks,List.takeWhile_cons,hc]
    omega
theorem Zg8 (h:Heap) {l:List Int} {tv:Value} (t:Tx h tv l) :
  Runs K 64 #[tv] h fun r w=>(lex l=none∧r= .tuple #[.slice none 0 0,.bool false]) ∨
   ∃ (xs:List XT) (a:Option Addr) (c:Nat),lex l=some (xs.map (·.1))∧(∀ x ∈ xs,Arr4 x.2)∧xs.length≤l.length∧r= .tuple #[.slice a xs.length c,.bool true]∧Sl w 8 a xs.length c (xcs xs):=by
 obtain ⟨a,c,rfl⟩:=t.open
 refine Runs.of Kok (Does.intro rfl Ye Tryz.func64 rfl ?_)
 by_cases h512:(512:Int) < ((l.length:Nat):Int)
 ·have:lex l=none:=by
   unfold lex
   rw [if_pos Ya]
  simp +decide only [go_sem,WR,WS,h512]
  simp [this]
 have hl512:¬ 512 < l.length:=Ya
 have b0:blanks l≤l.length:=by
  have:=Zdk (l:=l) (p:=0) (Nat.zero_le _)
  simpa using this
 simp +decide only [go_sem,WR,WS,h512]
 refine Zaa Kok (Nat.le_refl _) (Zdz l 0 h t Ya (Nat.zero_le _)) fun r w1 x1 hr=> ?_
 obtain ⟨rfl,rfl⟩:=hr
 rw [List.drop_zero,Nat.zero_add]
 simp +decide only [go_sem,WR,WS]
 refine Zah (α:=Nat × Nat × List XT × Value) (fun k e w=>k.1≤l.length∧lex l=(lexF k.2.1 k.1 (l.drop k.1)).map (k.2.2.1.map (·.1)++·)∧600≤k.2.1+k.1∧e.size=40∧Ext w1 w∧e.get 0= .slice a l.length c∧e.get 4=k.2.2.2∧e.get 5= .int .i64 (k.1:Int)∧l[k.1]? ≠some 32 ∧
  Own w1.size w 8 k.2.2.2 k.2.2.1.length (xcs k.2.2.1)∧(∀ x ∈ k.2.2.1,Arr4 x.2)∧k.2.2.1.length≤k.1) (fun k=>l.length - k.1) (blanks l,600 - blanks l,[],.slice none 0 0) ?_ ?_
 ·refine ⟨b0,?_,by simp only;omega,Yc,Ext.refl _,Yc,Yc,Yc,?_,Own.nil _ _ _,by simp,by simp⟩
  ·unfold lex
   rw [if_neg hl512]
   have:=ZdF (blanks l) (600 - blanks l) 0 (s:=l) rfl
   rw [Nat.zero_add,show 600 - blanks l+blanks l=600 by omega] at this
   rw [this]
   simp
  ·intro hh
   have:=ZeX (l:=l) (p:=0) (c:=32) (by simpa using hh)
   exact this rfl
 ·rintro ⟨p,f,xs,sv⟩ e w ⟨hp,hlex,hf,hsz,hxw,e0,e4,e5,h32,own,hall,hxp⟩ next
  simp only at hp hlex hf e4 e5 h32 own hall hxp
  obtain ⟨g,rfl⟩:∃ g,f=g+1:=⟨f - 1,by omega⟩
  have hb0:(l.drop p)[0]? =l[p]? :=by rw [List.getElem?_drop,Nat.add_zero]
  rw [Zig,hb0] at hlex
  obtain ⟨oa,oc,rfl⟩:=own.shape
  by_cases hpl:(p:Int) < ((l.length:Nat):Int)
  case neg =>
   rw [List.getElem?_eq_none Ya] at hlex
   simp +decide only [go_sem,WR,WS,hsz,e0,e4,e5,hpl]
   exact .inr ⟨xs,_,_,by simpa using hlex,hall,by omega,rfl,own.sl⟩
  obtain ⟨y,hy⟩:∃ y,l[p]? =some y:=⟨_,List.getElem?_eq_getElem Ya⟩
  rw [hy] at hlex
  simp only at hlex
  have i0:(0:Int)≤(p:Int):=Ya
  obtain ⟨b',o',cs',q1,q2,q3,q4⟩:=(t.ext hxw).one hy
  cases q1
  by_cases hlamp:y=9053
  ·rw [if_pos hlamp] at hlex
   simp +decide only [go_sem,WR,WS,hsz,e0,e4,e5,hpl,i0,Int.toNat_natCast,Nat.mul_one,q3,q4,hlamp]
   exact .inr ⟨xs,_,_,by simpa using hlex,hall,by omega,rfl,own.sl⟩
  rw [if_neg hlamp] at hlex
  simp +decide only [go_sem,WR,WS,hsz,e0,e4,e5,hpl,i0,Int.toNat_natCast,Nat.mul_one,q3,q4,hlamp]
  refine Zaa Kok hxw.1 (Zn1 l p w (t.ext hxw) Ya Ya h32) fun r w2 x2 hr=> ?_
  have hx2:=hxw.trans x2
  have hk2:=hx2.1
  rcases hr with ⟨ht,kk,qq,zz,ss,P,rfl,pa,pn,pc,pb,pa2,pn2,pc2,pa3,pn3,pc3,rfl⟩ | ⟨tk,k,P,ht,hk1,hk3,rfl,hA⟩
  ·rw [ht] at hlex
   obtain ⟨w3,e3,x3,hs3,g3⟩:=lay1 w2 (.cells [.int .i64 0,.int .i64 0,.string ByteArray.empty,.int .i32 0,.slice none 0 0,.bool false,.slice none 0 0,.slice none 0 0] 8)
   obtain ⟨w4,e4',x4,hs4,g4,k4⟩:=put1 (hx2.trans x3) hk2 (.cells [.int .i64 kk,.int .i64 qq,.string ss,.int .i32 zz,.slice pa pn pc,.bool pb,.slice pa2 pn2 pc2,.slice pa3 pn3 pc3] 8)
   simp only [List.cons_append,List.nil_append]
   simp +decide only [go_sem,WR,WS,hsz,e0,e4,e5,e3,g3,hk2,e4',g4]
   simpa using hlex
  ·rw [ht] at hlex
   simp only [List.drop_drop] at hlex
   obtain ⟨w3,e3,x3,hs3,g3⟩:=lay1 w2 (.cells [.int .i64 0,.int .i64 0,.string ByteArray.empty,.int .i32 0,.slice none 0 0,.bool false,.slice none 0 0,.slice none 0 0] 8)
   have hA':=hA
   obtain ⟨pa,pn,pc,pb,pa2,pn2,pc2,pa3,pn3,pc3,rfl⟩:=hA'
   obtain ⟨w4,e4',x4,hs4,g4,k4⟩:=put1 (hx2.trans x3) hk2 (.cells (tc4 (p,tk)++[.slice pa pn pc,.bool pb,.slice pa2 pn2 pc2,.slice pa3 pn3 pc3]) 8)
   obtain ⟨w5,e5',x5,hs5,g5⟩:=lay1 w4 (.cells (tc4 (p,tk)++[.slice pa pn pc,.bool pb,.slice pa2 pn2 pc2,.slice pa3 pn3 pc3]) 8)
   have ext24:Ext w2 w4:=⟨by have:=x3.1;omega,fun b hb=>(k4 b Ya).trans (x3.2 b hb)⟩
   have own5:=((own.ext x2).ext ext24).ext x5
   obtain ⟨w6,e6,own6,hs6,x6⟩:=Zbu (low:=w1.size) (bytes:=120) (k:=1) (new:=tc4 (p,tk)++[.slice pa pn pc,.bool pb,.slice pa2 pn2 pc2,.slice pa3 pn3 pc3]) (Nat.le_refl _) (x4.trans x5) own5 Ya Ya rfl Ya Ya
   have hz:¬ ((p+k:Nat):Int)=0:=Ya
   simp only [tc4,List.cons_append,List.nil_append] at e4' g4 e5' g5 e6 ⊢
   simp +decide only [go_sem,WR,WS,hsz,e0,e4,e5,e3,g3,hk2,e4',g4,hz,e5',g5,e6]
   obtain ⟨B,hB⟩:∃ B,B=blanks (l.drop (p+k)):=⟨_,rfl⟩
   have hBl:p+k+B≤l.length:=by rw [hB];exact Zdk hk3
   refine Zaa Kok x6.1 (Zdz l (p+k) w6 (t.ext x6) Ya hk3) fun r w7 x7 hr=> ?_
   obtain ⟨rfl,rfl⟩:=hr
   rw [← hB]
   simp +decide only [go_sem,WR,WS,hsz]
   refine next (p+k+B,g - B,xs++[((p,tk),[.slice pa pn pc,.bool pb,.slice pa2 pn2 pc2,.slice pa3 pn3 pc3])],.slice (some ⟨w5.size,0,none⟩) (xs.length+1) big) _ _ ⟨hBl,?_,by simp only;omega,Yb,x6,Yf,Yb,Yb,?_,?_,?_,by simp;omega⟩ Yj
   ·rw [hlex]
    have hlb:=ZdF B (g - B) (p+k) (s:=l.drop (p+k)) hB
    rw [show g - B+B=g by omega,List.drop_drop] at hlb
    rw [hlb]
    simp only [Option.map_map]
    congr 1
    funext z
    simp
   ·intro hh
    exact ZeX (l:=l) (p:=p+k) (c:=32) (by rw [← hB];exact hh) rfl
   ·rw [Zgq,List.length_append]
    exact own6
   ·intro x hx
    rcases List.mem_append.1 hx with hx | hx
    ·exact hall x hx
    ·rw [List.mem_singleton] at hx
     subst hx
     exact hA
end Go.Proofs.YtachkofbmodnnaaGreat.R9
namespace Go.Im.Lexing
def isM (t:Tk) (c:Int):Bool:=decide (t.kind=6) && decide (t.sign=c)
end Go.Im.Lexing
namespace Go.Proofs.YtachkofbmodnnaaGreat.T0
open Go Go.Im Go.Im.Limbs Go.Im.Lexing Go.Proofs Go.RowKit Hd N18 N19 N23 N26 R8 R9
set_option maxRecDepth 100000
theorem ZjP {x:XT} (h:Arr4 x.2):(tc4 x.1++x.2).length=8:=by
 obtain ⟨a,n,c,b,a2,n2,c2,a3,n3,c3,h⟩:=h
 rw [h]
 rfl
theorem Zlr:∀ {xs:List XT} {i:Nat} {x:XT},(∀ x ∈ xs,Arr4 x.2)→xs[i]? =some x→((xcs xs).drop (i*8)).take 8=tc4 x.1++x.2
 | [],i,x,_,h=>by simp at h
 | y::xs,0,x,hA,h=>by
   cases h
   have h1:=ZjP (hA y Yp)
   simp only [xcs,List.flatMap_cons,Nat.zero_mul,List.drop_zero]
   rw [← h1,List.take_left']
   rfl
 | y::xs,i+1,x,hA,h=>by
   have h1:=ZjP (hA y Yp)
   have h2:=Zlr (xs:=xs) (i:=i) (fun z hz=>hA z (by simp [hz])) YO
   rw [← h2]
   simp only [xcs,List.flatMap_cons]
   have:(i+1)*8=8+i*8:=by omega
   rw [this,← List.drop_drop,← h1,List.drop_left']
   rfl
theorem Sl.tok8 {h:Heap} {a:Option Addr} {n c i:Nat} {xs:List XT} {x:XT} (s:Sl h 8 a n c (xcs xs)) (hA:∀ x ∈ xs,Arr4 x.2) (hn:xs.length=n) (hx:xs[i]? =some x) :
  ∃ b o cs,a=some ⟨b,o,none⟩∧b < h.size∧(h.get b).read= .cells cs 8∧cs[o+i*8]? =some (.int .i64 (x.1.2.kind:Int))∧cs[o+i*8+1]? =some (.int .i64 (x.1.1:Int))∧cs[o+i*8+2]? =some (.string (runesBytes x.1.2.word)) ∧
    cs[o+i*8+3]? =some (.int .i32 x.1.2.sign)∧(cs.drop (o+i*8)).take 8=tc4 x.1++x.2∧o+i*8+8≤cs.length:=by
 have hi:i < n:=by rw [← hn];exact (List.getElem?_eq_some_iff.1 hx).1
 obtain ⟨b,o,cs,h1,h2,h3,h4,h5⟩:=s.at hi
 have h6:=Zlr hA hx
 have h9:i*8+8≤n*8:=Ya
 rw [h5,List.drop_take,List.take_take,List.drop_drop,Nat.min_eq_left Ya] at h6
 have hj:∀ j,j < 8→cs[o+i*8+j]? =(tc4 x.1++x.2)[j]? :=by
  intro j hj
  rw [← h6,List.getElem?_take,if_pos hj,List.getElem?_drop]
 exact ⟨b,o,cs,h1,h2,h3,(hj 0 Ya).trans rfl,(hj 1 Ya).trans rfl,(hj 2 Ya).trans rfl,(hj 3 Ya).trans rfl,h6,by omega⟩
theorem ZmI (x:Nat × Tk) {rest:List Value} (hA:Arr5 rest) (y:Int) (h:Heap):Runs K 57 #[.agg (tc4 x++rest).toArray,.int .i32 y] h fun r _=>r= .bool (isM x.2 y):=by
 obtain ⟨a,n,c,b,a2,n2,c2,a3,n3,c3,m,rfl⟩:=hA
 refine Runs.of Kok (Does.intro rfl Ye Tryz.func57 rfl ?_)
 obtain ⟨w0,e0,x0,hs0,z0⟩:=lay1 h (.cells [.int .i64 (x.2.kind:Int),.int .i64 (x.1:Int),.string (runesBytes x.2.word),.int .i32 x.2.sign,.slice a n c,.bool b,.slice a2 n2 c2,.slice a3 n3 c3,.bool m] 9)
 simp only [tc4,List.cons_append,List.nil_append]
 by_cases hk:x.2.kind=6
 ·have hk':((x.2.kind:Nat):Int)=6:=by omega
  rw [hk'] at e0 z0
  simp +decide only [go_sem,WR,WS,hk',e0,z0]
  simp [isM,hk]
 ·have hk':¬ ((x.2.kind:Nat):Int)=6:=by omega
  simp +decide only [go_sem,WR,WS,e0,z0,hk']
  simp [isM,hk]
theorem Zi4 (x:Nat × Tk) {rest:List Value} (hA:Arr4 rest) (y:Int) (h:Heap):Runs K 66 #[.agg (tc4 x++rest).toArray,.int .i32 y] h fun r _=>r= .bool (isM x.2 y):=by
 obtain ⟨a,n,c,b,a2,n2,c2,a3,n3,c3,rfl⟩:=hA
 refine Runs.of Kok (Does.intro rfl Ye Tryz.func66 rfl ?_)
 obtain ⟨w0,e0,x0,hs0,z0⟩:=lay1 h (.cells [.int .i64 (x.2.kind:Int),.int .i64 (x.1:Int),.string (runesBytes x.2.word),.int .i32 x.2.sign,.slice a n c,.bool b,.slice a2 n2 c2,.slice a3 n3 c3] 8)
 simp only [tc4,List.cons_append,List.nil_append]
 by_cases hk:x.2.kind=6
 ·have hk':((x.2.kind:Nat):Int)=6:=by omega
  rw [hk'] at e0 z0
  simp +decide only [go_sem,WR,WS,hk',e0,z0]
  simp [isM,hk]
 ·have hk':¬ ((x.2.kind:Nat):Int)=6:=by omega
  simp +decide only [go_sem,WR,WS,e0,z0,hk']
  simp [isM,hk]
end Go.Proofs.YtachkofbmodnnaaGreat.T0
namespace Go.Im.Heads
open Go Go.Im Go.Im.Lexing
abbrev E:ByteArray:=ByteArray.empty
theorem ZeQ (i:Int):0 < (Utf8.encode i).size:=by
 unfold Utf8.encode
 simp only
 repeat' split
 all_goals simp [ByteArray.size]
theorem ZoL (ns:List Int):∀ s:ByteArray,s.size≤(ns.foldl (fun r n=>r++Utf8.encode n) s).size:=by
 induction ns with
 | nil=>intro s;simp
 | cons n ns ih =>
   intro s
   have h1:=ih (s++Utf8.encode n)
   simp only [List.foldl_cons]
   rw [ByteArray.size_append] at h1
   omega
theorem ZfO {ns:List Int} (h:ns≠[]):0 < (runesBytes ns).size:=by
 cases ns with
 | nil=>exact absurd rfl h
 | cons n ns =>
   have h1:=ZoL ns (ByteArray.empty++Utf8.encode n)
   have h2:=ZeQ n
   simp only [runesBytes,List.foldl_cons]
   rw [ByteArray.size_append] at h1
   omega
theorem ZoR (ns:List Int):∀ s:ByteArray,ns.foldl (fun r n=>r++Utf8.encode n) s=s++runesBytes ns:=by
 induction ns with
 | nil=>intro s;simp [runesBytes]
 | cons n ns ih =>
   intro s
   have e:runesBytes (n::ns)=ns.foldl (fun r n=>r++Utf8.encode n) (ByteArray.empty++Utf8.encode n):=rfl
   rw [List.foldl_cons,ih,e,ih,ByteArray.append_assoc,ByteArray.empty_append]
theorem ZbQ (n:Int) (ns:List Int):runesBytes (n::ns)=Utf8.encode n++runesBytes ns:=by
 have e:runesBytes (n::ns)=ns.foldl (fun r n=>r++Utf8.encode n) (ByteArray.empty++Utf8.encode n):=rfl
 rw [e,ZoR]
 simp
theorem ZhW:runesBytes []=E:=rfl
theorem ZhX (a b:List Int):runesBytes (a++b)=runesBytes a++runesBytes b:=by
 induction a with
 | nil=>simp [ZhW,E]
 | cons n a ih=>rw [List.cons_append,ZbQ,ZbQ,ih,ByteArray.append_assoc]
theorem Zm4 {a b:ByteArray} {k:Nat} (h:k < b.size):(a++b).get! (a.size+k)=b.get! k:=by
 have h1:a.size+k < (a++b).size:=Yx
 have e1:(a++b).get! (a.size+k)=(a++b)[a.size+k]'h1:=by
  show (a++b).data[a.size+k]! =_
  rw [getElem!_pos]
  rfl
 have e2:b.get! k=b[k]'h:=by
  show b.data[k]! =_
  rw [getElem!_pos]
  rfl
 rw [e1,e2,ByteArray.getElem_append_right Ya]
 congr 1
 omega
theorem Zbf {a b:ByteArray} {k:Nat} (h:k < a.size):(a++b).get! k=a.get! k:=by
 have h1:k < (a++b).size:=Yx
 have e1:(a++b).get! k=(a++b)[k]'h1:=by
  show (a++b).data[k]! =_
  rw [getElem!_pos]
  rfl
 have e2:a.get! k=a[k]'h:=by
  show a.data[k]! =_
  rw [getElem!_pos]
  rfl
 rw [e1,e2,ByteArray.getElem_append_left h]
theorem u8 {n:Nat} (h:n < 256):(UInt8.ofNat n).toNat=n:=by
 simp
 omega
theorem decode_encode (c:Int) (hv:Utf8.valid c=true) (b:ByteArray):Utf8.decode (Utf8.encode c++b) 0=(c.toNat,(Utf8.encode c).size):=by
 have hr:(0≤c∧c < 55296)∨(57344≤c∧c≤1114111):=by
  simp only [Utf8.valid,Bool.or_eq_true,Bool.and_eq_true,decide_eq_true_eq] at hv
  omega
 obtain ⟨m,rfl⟩:∃ m:Nat,c=(m:Int):=⟨c.toNat,by omega⟩
 have he:Utf8.encode (m:Int)=if m < 0x80 then ⟨#[UInt8.ofNat m]⟩ else if m < 0x800 then ⟨#[UInt8.ofNat (0xC0+m / 64),UInt8.ofNat (0x80+m%64)]⟩
   else if m < 0x10000 then ⟨#[UInt8.ofNat (0xE0+m / 4096),UInt8.ofNat (0x80+m / 64%64),UInt8.ofNat (0x80+m%64)]⟩
   else ⟨#[UInt8.ofNat (0xF0+m / 262144),UInt8.ofNat (0x80+m / 4096%64),UInt8.ofNat (0x80+m / 64%64),UInt8.ofNat (0x80+m%64)]⟩:=by
  simp only [Utf8.encode,hv,if_true,Int.toNat_natCast]
 rw [Int.toNat_natCast,he]
 unfold Utf8.decode
 by_cases h1:m < 0x80
 ·simp only [if_pos h1]
  have g0:((⟨#[UInt8.ofNat m]⟩:ByteArray)++b).get! (0+0)=UInt8.ofNat m:=Zbf (a:=⟨#[UInt8.ofNat m]⟩) (k:=0) Nat.one_pos
  simp only [g0,u8 (show m < 256 by omega),if_pos h1]
  rfl
 ·simp only [if_neg h1]
  by_cases h2:m < 0x800
  ·simp only [if_pos h2]
   generalize hA:(⟨#[UInt8.ofNat (0xC0+m / 64),UInt8.ofNat (0x80+m%64)]⟩:ByteArray)=A
   have sz:A.size=2:=by rw [← hA];rfl
   have g0:(A++b).get! (0+0)=UInt8.ofNat (0xC0+m / 64):=YJ
   have g1:(A++b).get! (0+1)=UInt8.ofNat (0x80+m%64):=YJ
   have hs:0+1 < (A++b).size:=Yx
   simp only [g0,g1,u8 (show 0xC0+m / 64 < 256 by omega),u8 (show 0x80+m%64 < 256 by omega),hs,decide_true,Bool.true_and]
   have q1:¬ 0xC0+m / 64 < 0x80:=Ya
   have q2:(0xC0+m / 64) / 32=6:=Ya
   have q3:(0x80+m%64) / 64=2:=Ya
   have q4:(0xC0+m / 64)%32*64+(0x80+m%64)%64=m:=Ya
   have q5:m ≥ 0x80:=Ya
   simp only [q1,if_false,q2,beq_self_eq_true,q3,Bool.and_self,if_true,q4,q5,sz]
  ·simp only [if_neg h2]
   by_cases h3:m < 0x10000
   ·simp only [if_pos h3]
    generalize hA:(⟨#[UInt8.ofNat (0xE0+m / 4096),UInt8.ofNat (0x80+m / 64%64),UInt8.ofNat (0x80+m%64)]⟩:ByteArray)=A
    have sz:A.size=3:=by rw [← hA];rfl
    have g0:(A++b).get! (0+0)=UInt8.ofNat (0xE0+m / 4096):=YJ
    have g1:(A++b).get! (0+1)=UInt8.ofNat (0x80+m / 64%64):=YJ
    have g2:(A++b).get! (0+2)=UInt8.ofNat (0x80+m%64):=YJ
    have hs:0+1 < (A++b).size:=Yx
    have hs2:0+2 < (A++b).size:=Yx
    simp only [g0,g1,g2,u8 (show 0xE0+m / 4096 < 256 by omega),u8 (show 0x80+m / 64%64 < 256 by omega),u8 (show 0x80+m%64 < 256 by omega),hs,hs2,decide_true,Bool.true_and]
    have q1:¬ 0xE0+m / 4096 < 0x80:=Ya
    have q2:¬ (0xE0+m / 4096) / 32=6:=Ya
    have q2':(0xE0+m / 4096) / 16=14:=Ya
    have q3:(0x80+m / 64%64) / 64=2:=Ya
    have q3':(0x80+m%64) / 64=2:=Ya
    have q4:(0xE0+m / 4096)%16*4096+(0x80+m / 64%64)%64*64+(0x80+m%64)%64=m:=Ya
    have q5:m ≥ 0x800:=Ya
    simp only [q1,if_false,beq_eq_false_iff_ne.2 q2,Bool.false_and,Bool.false_eq_true,q2',beq_self_eq_true,q3,q3',Bool.and_self,if_true,q4,q5,decide_true,hv,sz]
   ·simp only [if_neg h3]
    generalize hA:(⟨#[UInt8.ofNat (0xF0+m / 262144),UInt8.ofNat (0x80+m / 4096%64),UInt8.ofNat (0x80+m / 64%64),UInt8.ofNat (0x80+m%64)]⟩:ByteArray)=A
    have sz:A.size=4:=by rw [← hA];rfl
    have g0:(A++b).get! (0+0)=UInt8.ofNat (0xF0+m / 262144):=YJ
    have g1:(A++b).get! (0+1)=UInt8.ofNat (0x80+m / 4096%64):=YJ
    have g2:(A++b).get! (0+2)=UInt8.ofNat (0x80+m / 64%64):=YJ
    have g3:(A++b).get! (0+3)=UInt8.ofNat (0x80+m%64):=YJ
    have hs:0+1 < (A++b).size:=Yx
    have hs2:0+2 < (A++b).size:=Yx
    have hs3:0+3 < (A++b).size:=Yx
    simp only [g0,g1,g2,g3,u8 (show 0xF0+m / 262144 < 256 by omega),u8 (show 0x80+m / 4096%64 < 256 by omega),u8 (show 0x80+m / 64%64 < 256 by omega),u8 (show 0x80+m%64 < 256 by omega),hs,hs2,hs3,decide_true,Bool.true_and]
    have q1:¬ 0xF0+m / 262144 < 0x80:=Ya
    have q2:¬ (0xF0+m / 262144) / 32=6:=Ya
    have q2':¬ (0xF0+m / 262144) / 16=14:=Ya
    have q2'':(0xF0+m / 262144) / 8=30:=Ya
    have q3:(0x80+m / 4096%64) / 64=2:=Ya
    have q3':(0x80+m / 64%64) / 64=2:=Ya
    have q3'':(0x80+m%64) / 64=2:=Ya
    have q4:(0xF0+m / 262144)%8*262144+(0x80+m / 4096%64)%64*4096+(0x80+m / 64%64)%64*64+(0x80+m%64)%64=m:=Ya
    have q5:m ≥ 0x10000:=Ya
    simp only [q1,if_false,beq_eq_false_iff_ne.2 q2,beq_eq_false_iff_ne.2 q2',Bool.false_and,Bool.false_eq_true,q2'',beq_self_eq_true,q3,q3',q3'',Bool.and_self,if_true,q4,q5,decide_true,hv,sz]
theorem ZiO {s t:ByteArray} {i j:Nat} (h0:s.get! (i+0)=t.get! (j+0)) (hk:∀ k,i+k < s.size↔j+k < t.size) (hg:∀ k,j+k < t.size→s.get! (i+k)=t.get! (j+k)):Utf8.decode s i=Utf8.decode t j:=by
 unfold Utf8.decode
 simp only [h0]
 by_cases c1:j+1 < t.size
 ·have d1:=(hk 1).2 c1
  simp only [hg 1 c1,c1,d1,decide_true,Bool.true_and]
  by_cases c2:j+2 < t.size
  ·have d2:=(hk 2).2 c2
   simp only [hg 2 c2,c2,d2,decide_true,Bool.true_and]
   by_cases c3:j+3 < t.size
   ·have d3:=(hk 3).2 c3
    simp only [hg 3 c3,c3,d3,decide_true,Bool.true_and]
   ·have d3:¬ i+3 < s.size:=fun h=>c3 ((hk 3).1 h)
    simp only [c3,d3,decide_false,Bool.false_and,Bool.and_false,Bool.false_eq_true,if_false]
  ·have d2:¬ i+2 < s.size:=fun h=>c2 ((hk 2).1 h)
   simp only [c2,d2,decide_false,Bool.false_and,Bool.and_false,Bool.false_eq_true,if_false]
 ·have d1:¬ i+1 < s.size:=fun h=>c1 ((hk 1).1 h)
  simp only [c1,d1,decide_false,Bool.false_and,Bool.and_false,Bool.false_eq_true,if_false]
theorem ZiN (a b:ByteArray) (hb:0 < b.size):Utf8.decode (a++b) a.size=Utf8.decode b 0:=by
 refine ZiO (Zm4 Ya) (fun k=> ?_) fun k hk=> ?_
 ·rw [ByteArray.size_append]
  omega
 ·rw [Zm4 Ya,Nat.zero_add]
theorem ZcR:∀ (ns:List Int) (a:ByteArray) (f:Nat) (acc:Array Value),(∀ c ∈ ns,Utf8.valid c=true)→ns.length≤f→Conv.runesFrom (a++runesBytes ns) f a.size acc=acc++(rv ns).toArray
 | [],a,f,acc,_,_=>by
   have e:(a++runesBytes []).size=a.size:=by rw [ZhW,ByteArray.size_append];rfl
   cases f with
   | zero=>simp [Conv.runesFrom,rv,intCells]
   | succ f=>simp [Conv.runesFrom,rv,intCells,e]
 | c::ns,a,f,acc,hv,hf=>by
   cases f with
   | zero=>simp at hf
   | succ f =>
     have hc:=hv c Yp
     have hp:=ZeQ c
     have hd:Utf8.decode (a++runesBytes (c::ns)) a.size=(c.toNat,(Utf8.encode c).size):=by rw [ZiN _ _ (ZfO Yp),ZbQ,decode_encode c hc]
     have h0:a.size < (a++runesBytes (c::ns)).size:=by
      rw [ZbQ,ByteArray.size_append,ByteArray.size_append]
      omega
     have hz:0≤c:=by
      simp only [Utf8.valid,Bool.or_eq_true,Bool.and_eq_true,decide_eq_true_eq] at hc
      omega
     rw [Conv.runesFrom,if_pos h0,hd]
     simp only
     have e:a++runesBytes (c::ns)=(a++Utf8.encode c)++runesBytes ns:=by rw [ZbQ,ByteArray.append_assoc]
     have es:a.size+(Utf8.encode c).size=(a++Utf8.encode c).size:=by rw [ByteArray.size_append]
     rw [e,es,ZcR ns _ f _ (fun d hd=>hv d (by simp [hd])) (by simpa using hf)]
     have ec:Int.ofNat c.toNat=c:=by
      show ((c.toNat:Nat):Int)=c
      omega
     rw [ec]
     simp [rv,intCells]
theorem ZlV (ns:List Int):ns.length≤(runesBytes ns).size:=by
 induction ns with
 | nil=>simp
 | cons n ns ih =>
   have:=ZeQ n
   rw [ZbQ,ByteArray.size_append,List.length_cons]
   omega
theorem ZjV {ns:List Int} (hv:∀ c ∈ ns,Utf8.valid c=true):(Conv.runesFrom (runesBytes ns) (runesBytes ns).size 0 #[]).toList=rv ns:=by
 have:=ZcR ns ByteArray.empty (runesBytes ns).size #[] hv (ZlV ns)
 have e:ByteArray.empty++runesBytes ns=runesBytes ns:=Yp
 rw [e] at this
 have h0:ByteArray.empty.size=0:=rfl
 rw [h0] at this
 rw [this]
 simp
theorem Zlg {l:List UInt8} {ns:List Int} {h:Heap} (e:text l=runesBytes ns) (hv:∀ c ∈ ns,Utf8.valid c=true):icvt (some .i32) l h=some (.slice (some ⟨h.size,0,none⟩) ns.length big,h.push (.cells (rv ns) 1)):=by
 simp only [icvt,e,ZjV hv,Zcl]
def I8 (l:List UInt8):List Int:=l.map fun c=>(c.toNat:Int)
end Go.Im.Heads
namespace Go.Im.Heads
open Go Go.Im Go.Im.Lexing Go.Sort
theorem Zlj (zs:List (List UInt8)):(Lib.compact zs).length≤zs.length:=by
 simp only [Lib.compact,Lib.compactUpTo,List.length_map]
 have:=List.length_filter_le (Lib.keeps zs.toArray) (List.range zs.length)
 simpa using this
theorem Zlk (zs:List (List UInt8)):(Lib.compact zs).length=zs.length↔∀ j,j < zs.length→Lib.keeps zs.toArray j=true:=by
 simp only [Lib.compact,Lib.compactUpTo,List.length_map]
 have:=List.length_filter_eq_length_iff (p:=Lib.keeps zs.toArray) (l:=List.range zs.length)
 simp only [List.length_range,List.mem_range] at this
 exact this
theorem ZiZ (ss:List (List UInt8)):(sorted ss).Pairwise fun x y=>x≤y:=by
 have:=List.pairwise_mergeSort (le:=fun (x y:List UInt8)=>decide (x≤y)) (fun a b c h1 h2=>by
  simp only [decide_eq_true_eq] at *
  exact List.le_trans h1 h2) (fun a b=>by
  simp only [Bool.or_eq_true,decide_eq_true_eq]
  exact List.le_total a b) ss
 simpa [sorted] using this
theorem Zjm {zs:List (List UInt8)} (hs:zs.Pairwise fun x y=>x≤y):(∀ j,j < zs.length→Lib.keeps zs.toArray j=true)↔zs.Nodup:=by
 have get:∀ j,j < zs.length→zs.toArray[j]! =zs[j]! :=fun j hj=>by simp
 constructor
 ·intro h
  rw [List.Nodup,List.pairwise_iff_getElem] at *
  intro i j hi hj hij he
  have hk:=h j hj
  simp only [Lib.keeps,decide_eq_true_eq] at hk
  rcases hk with hk | hk
  ·omega
  ·apply hk
   rw [get j hj,get (j - 1) Ya,getElem!_pos zs j hj,getElem!_pos zs (j - 1) Ya]
   rcases Nat.lt_or_ge i (j - 1) with hlt | hge
   ·exact List.le_antisymm (by rw [← he];exact hs i (j - 1) hi Ya hlt) (hs (j - 1) j Ya hj Ya)
   ·have:i=j - 1:=by omega
    subst this
    exact he.symm
 ·intro h j hj
  simp only [Lib.keeps,decide_eq_true_eq]
  by_cases h0:j=0
  ·exact .inl h0
  ·right
   rw [List.Nodup,List.pairwise_iff_getElem] at h
   rw [get j hj,get (j - 1) Ya,getElem!_pos zs j hj,getElem!_pos zs (j - 1) Ya]
   exact fun e=>h (j - 1) j Ya hj Ya e.symm
theorem Zg6 (ss:List (List UInt8)):(sorted ss).length=ss.length:=by simp [sorted]
theorem ZnB (ss:List (List UInt8)):(Lib.compact (sorted ss)).length=ss.length↔ss.Nodup:=by
 rw [← Zg6 ss,Zlk,Zjm (ZiZ ss)]
 exact (List.mergeSort_perm ss _).nodup_iff
theorem ZpP {k:Nat} {s:List Int} {t:Tk} {m:Nat} (h:Zb2 k s=some (t,m)):t.kind=k∧Zat t.word=true:=by
 unfold Zb2 at h
 split at h
 ·rename_i hn
  cases h
  exact ⟨rfl,hn⟩
 ·cases h
theorem Zr4 {s:List Int} {t:Tk} {k:Nat} (h:tokS s=some (some t,k)) (h2:t.kind=2):Zat t.word=true:=by
 unfold tokS at h
 have two:∀ {k':Nat} {u:Tk} {s':List Int} {o:Option (Tk × Nat)} {g:Tk × Nat→Nat},o=Zb2 k' s'→o.map (fun x=>(some x.1,g x))=some (some t,k)→Zat t.word=true:=by
  intro k' u s' o g ho h
  obtain ⟨x,hw,hx⟩:=Option.map_eq_some_iff.1 h
  cases hx
  rw [ho] at hw
  exact (ZpP hw).2
 have one:∀ {α:Type} {o:Option α} {g:α→Option Tk × Nat},(∀ x,(g x).1=some ⟨1,[],0⟩)→o.map g=some (some t,k)→Zat t.word=true:=by
  intro α o g hg h
  obtain ⟨x,hw,hx⟩:=Option.map_eq_some_iff.1 h
  have:=hg x
  rw [hx] at this
  cases this
  cases h2
 cases hd:s[1]? <;>simp only [hd] at h
 all_goals
  split at h
  ·cases h
  ·split at h
   ·cases h
   ·split at h
    ·exact one (fun _=>rfl) h
    ·split at h
     ·exact two (u:=t) rfl h
     ·split at h
      ·exact one (fun _=>rfl) h
      ·split at h
       ·exact two (u:=t) rfl h
       ·split at h
        ·cases h
         cases h2
        ·split at h
         ·cases h
          cases h2
         ·split at h
          ·cases h
           cases h2
          ·cases h
theorem Zjj:∀ {f p:Nat} {s:List Int} {ts:List (Nat × Tk)},lexF f p s=some ts→∀ t ∈ ts,t.2.kind=2→Zat t.2.word=true
 | 0,p,s,ts,h=>by cases h
 | f+1,p,s,ts,h=>by
   simp only [lexF] at h
   split at h
   ·cases h
    simp
   ·split at h
    ·cases h
     simp
    ·split at h
     ·cases h
     ·exact Zjj h
     ·rename_i t k ht
      obtain ⟨us,hu,rfl⟩:=Option.map_eq_some_iff.1 h
      intro x hx h2
      rcases List.mem_cons.1 hx with rfl | hx
      ·exact Zr4 ht h2
      ·exact Zjj hu x hx h2
theorem Zph {l:List Int} {ts:List (Nat × Tk)} (h:lex l=some ts):∀ t ∈ ts,t.2.kind=2→Zat t.2.word=true:=by
 unfold lex at h
 split at h
 ·cases h
 ·exact Zjj h
theorem ZkU {w:List Int} (h:Zat w=true):0 < (runesBytes w).size∧(runesBytes w).size≤96:=by
 simp only [Zat,Bool.and_eq_true,decide_eq_true_eq] at h
 have h1:=runesBytes_size_le w
 exact ⟨ZfO (by intro e;subst e;simp at h),by omega⟩
structure HdT where
 nm:ByteArray
 re:ByteArray
 le:ByteArray
 ri:ByteArray
 ls:List ByteArray
def hdZ:HdT:=⟨E,E,E,E,[]⟩
def wd (t:Nat × Tk):ByteArray:=runesBytes t.2.word
def isN (t:Nat × Tk):Bool:=decide (t.2.kind=2)
def locT:List (Nat × Tk)→Option (List ByteArray)
 | []=>some []
 | [_]=>none
 | a::b::r=>if isM a.2 59 && isN b then (locT r).map (wd b::·) else none
def resT (ts:List (Nat × Tk)):ByteArray × List (Nat × Tk):=match ts with
 | a::b::r=>if isN a && isM b.2 8592 then (wd a,r) else (E,ts)
 | _=>(E,ts)
def Zgn (re:ByteArray) (ns:List ByteArray) (ls:List ByteArray):Option HdT:=match ns with
 | [f]=>some ⟨f,re,E,E,ls⟩
 | [f,b]=>some ⟨f,re,E,b,ls⟩
 | [a,f,b]=>some ⟨f,re,a,b,ls⟩
 | _=>none
def HdT.names (x:HdT):List ByteArray:=([x.re,x.le,x.ri].filter fun s=> !decide (s=E))++x.ls
def HdT.all (x:HdT):List ByteArray:=x.names++[x.nm]
instance:Inhabited HdT:=⟨hdZ⟩
def ZaV (ts:List (Nat × Tk)):Option HdT :=
 let r:=resT ts
 let ns:=(r.2.takeWhile isN).map wd
 match locT (r.2.drop ns.length) with
 | none=>none
 | some ls=>match Zgn r.1 ns ls with
   | none=>none
   | some x=>if x.all.Nodup then some x else none
end Go.Im.Heads
