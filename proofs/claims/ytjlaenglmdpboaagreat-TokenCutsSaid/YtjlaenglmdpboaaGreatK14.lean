/- Proved here: parts of the way to CTokenCuts (CR6 CR7 CR8 CR9); no condition beyond those that each theorem names. -/
import Derived.Test.YtjlaenglmdpboaaGreatK11
import Derived.Test.YtjlaenglmdpboaaGreatK12
set_option linter.unusedSimpArgs false
set_option linter.unusedVariables false
namespace Go.Proofs.YtjlaenglmdpboaaGreat.R6
open Go Go.Im Go.Im.Limbs Go.Im.Lexing Go.Im.Dec Go.Proofs Go.RowKit Hd N12 N14 N16 N17 R1 R4 R5
set_option maxRecDepth 100000
theorem dbs_app (l m:List Int):dbs (l++m)=dbs l++dbs m:=by simp [dbs]
set_option maxHeartbeats 4000000 in
theorem rread_run (l:List Int) (i:Nat) {v:Value} (h:Heap) (t:Tx h v l) (hm:l.length≤512) (hi':i≤l.length) (hb:begins (l.drop i)=true) :
  Runs K 98 #[v,.int .i64 (i:Int)] h fun r w=>(readS (l.drop i)=none∧r= .tuple #[numA false 0 1,.int .i64 0,.bool false]) ∨
   ∃ k,readS (l.drop i)=some k∧i+k≤l.length∧i < i+k∧r= .tuple #[ratN (readN (l.drop i)),.int .i64 ((i+k:Nat):Int),.bool true]:=by
 obtain ⟨a,c,rfl⟩:=t.open
 refine Runs.of Kok (Does.intro rfl (by decide +kernel) Tryz.func98 rfl ?_)
 have i0:(0:Int)≤(i:Int):=by omega
 obtain ⟨w0,e0',x0,hs0,z0⟩:=lay1 h (.cells [.bool false,.string ByteArray.empty,.string ByteArray.empty] 3)
 have t0:=t.ext x0
 have il:i < l.length:=by
  refine Nat.lt_of_not_le fun hh=> ?_
  rw [List.drop_of_length_le hh] at hb
  cases hb
 have hne:l≠[]:=by rintro rfl;simp at il
 have il':(i:Int) < ((l.length:Nat):Int):=by omega
 obtain ⟨x,hx⟩:∃ x,l[i]? =some x:=⟨_,List.getElem?_eq_getElem il⟩
 obtain ⟨neg,hneg⟩:∃ neg,neg=decide (l[i]? =some 175):=⟨_,rfl⟩
 obtain ⟨A,hA⟩:∃ A,A=i+(if neg then 1 else 0):=⟨_,rfl⟩
 have hAl:A≤l.length:=by rw [hA];split<;>omega
 obtain ⟨D,hD⟩:∃ D,D=digs (l.drop A):=⟨_,rfl⟩
 obtain ⟨B,hB⟩:∃ B,B=A+D.length:=⟨_,rfl⟩
 have hBl:B≤l.length:=by rw [hB,hD];exact digs_len hAl
 obtain ⟨p,hp⟩:∃ p,p=decide (l[B]? =some 46):=⟨_,rfl⟩
 obtain ⟨T,hT⟩:∃ T,T=if p then digs (l.drop (B+1)) else []:=⟨_,rfl⟩
 obtain ⟨C,hC⟩:∃ C,C=B+if p then 1+T.length else 0:=⟨_,rfl⟩
 have hBp:p=true→B+1≤l.length:=fun hh=>by
  rw [hp,decide_eq_true_eq] at hh
  exact (List.getElem?_eq_some_iff.1 hh).1
 have hCl:C≤l.length:=by
  rw [hC]
  cases hpp:p with
  | false=>simpa using hBl
  | true =>
    rw [hpp] at hT
    have:=digs_len (hBp hpp)
    simp only [if_true] at hT ⊢
    rw [← hT] at this
    omega
 rw [readS_eq hneg hA hD hB hp hT hC,readN_eq hneg hA hD hB hp hT hC]
 simp +decide only [go_sem,WR,WS,e0']
 refine W_call Kok (by omega) (rbegins_run l i w0 t0 (by omega) (by omega)) fun r w1 x1 hr=> ?_
 rw [hb] at hr
 subst hr
 have h01:=x0.trans x1
 have t1:=t.ext h01
 have z1:w1.get h.size=_:=(x1.2 _ (by omega)).trans z0
 obtain ⟨b,o,cs,q1,q2,q3,q4⟩:=t1.one hx
 cases q1
 have hng:neg=decide (x=175):=by rw [hneg,hx];simp
 simp +decide only [go_sem,WR,WS,il',i0,Int.toNat_natCast,Nat.mul_one,q3,q4,← hng]
 refine Wc_cut (J:=fun e w=>e.size=151∧e.get 0= .slice (some ⟨b,o,none⟩) l.length big∧e.get 1= .int .i64 (A:Int)∧e.get 4= .pointer (some ⟨h.size,0,none⟩)∧e.get 7= .bool neg∧w=w1) (by simp only [straight,KD];rfl) rfl ?_ ?_ ?_
 ·intro hn
  have i2:IntKind.i64.wrap ((i:Int)+1)=(A:Int):=by rw [wrap_i64 (by omega) (by omega),hA,hn];simp
  simp +decide only [go_sem,WR,WS,i2]
 ·intro hn
  have i2:(i:Int)=(A:Int):=by rw [hA,hn];simp
  simp +decide only [go_sem,WR,WS,i2]
 rintro e w ⟨hsz,e0,e1,e4,e7,rfl⟩
 simp +decide only [go_sem,WR,WS,hsz,e0,e1]
 refine W_call Kok (by have:=h01.1;omega) (rrun_run l A _ t1 (by omega) hAl) fun r w2 x2 hr=> ?_
 subst hr
 rw [← hD]
 have h02:=h01.trans x2
 have t2:=t.ext h02
 have z2:w2.get h.size=_:=(x2.2 _ (by have:=x1.1;omega)).trans z1
 have i2:(0:Int)≤(B:Int):=by omega
 have iB:IntKind.i64.wrap ((A:Int)+((D.length:Nat):Int))=(B:Int):=by rw [wrap_i64 (by omega) (by omega)];omega
 obtain ⟨a',c1,c2,c3⟩:=t2.cut hne (lo:=A) (hi:=B) (by omega) hBl
 have hcut:(l.drop A).take (B - A)=D:=by
  rw [hB,Nat.add_sub_cancel_left,hD]
  exact tw_take _
 have hrb:runesBytes D=text (dbs D):=runes_digits fun c hc=>digs_mem (by rw [← hD];exact hc)
 rw [hcut] at c3
 have hDTd:Digs (dbs D++dbs T):=by
  intro u hu
  rcases List.mem_append.1 hu with hu | hu
  ·exact digs_Digs (l.drop A) u (by rw [← hD];exact hu)
  ·rw [hT] at hu
   split at hu
   ·exact digs_Digs _ u hu
   ·cases hu
 have hDTl:(dbs D++dbs T).length=D.length+T.length:=by rw [List.length_append,dbs_length,dbs_length]
 have hDl:D.length≤512:=by omega
 have hTl:T.length≤512:=by
  rw [hT]
  split
  ·rename_i hpp
   have:=digs_len (hBp hpp)
   omega
  ·simp
 have jj:h.size≤h.size:=Nat.le_refl _
 obtain ⟨N0,hN0⟩:∃ N0,N0=dec (dbs D++dbs T):=⟨_,rfl⟩
 have hN0':=dec_lt hDTd
 rw [hDTl,← hN0] at hN0'
 rw [← hN0]
 apply W_join (α:=Unit) (fun _ e w=>e.size=151∧e.get 0= .slice (some ⟨b,o,none⟩) l.length big∧e.get 1= .int .i64 (C:Int)∧e.get 4= .pointer (some ⟨h.size,0,none⟩)∧e.get 7= .bool neg∧e.get 9= .string (text (dbs D++dbs T))∧e.get 10= .int .i64 ((T.length:Nat):Int) ∧
  Ext h w∧h.size < w.size∧w.get h.size= .cells [.bool false,.string ByteArray.empty,.string ByteArray.empty] 3∧¬ (p=true∧T=[]))
 ·intro cont
  simp +decide only [go_sem,WR,WS,hsz,e0,e1,e4,e7,iB,c1,c3,icvs_rv,hrb,Int.toNat_natCast]
  by_cases hpp:p=true
  case neg =>
   have hpp:p=false:=by simpa using hpp
   have hT0:T=[]:=by rw [hT,hpp];rfl
   have hCB:C=B:=by rw [hC,hpp];rfl
   have ct:dbs D++dbs T=dbs D:=by rw [hT0];simp [dbs]
   by_cases hlt:(B:Int) < ((l.length:Nat):Int)
   ·obtain ⟨y,hy⟩:∃ y,l[B]? =some y:=⟨_,List.getElem?_eq_getElem (by omega)⟩
    have hy46:¬ y=46:=by
     intro hh
     rw [hp,hy,hh] at hpp
     simp at hpp
    obtain ⟨b',o',cs',p1,p2,p3,p4⟩:=t2.one hy
    cases p1
    simp +decide only [go_sem,WS,hsz,e0,e1,e4,e7,hlt,i2,Int.toNat_natCast,Nat.mul_one,p3,p4,hy46]
    exact cont () _ _ ⟨by simp +decide only [go_sem,hsz],by simp +decide only [go_sem,hsz,e0],by rw [hCB];simp +decide only [go_sem,WR,WS,hsz],by simp +decide only [go_sem,hsz,e4],by simp +decide only [go_sem,hsz,e7],by simp +decide only [go_sem,hsz,ct],by rw [hT0];simp +decide only [go_sem,WR,WS,hsz];rfl,h02,by have:=h02.1;have:=x1.1;have:=x2.1;omega,z2,by simp [hpp]⟩
   ·simp +decide only [go_sem,WS,hsz,e0,e1,e4,e7,hlt]
    exact cont () _ _ ⟨by simp +decide only [go_sem,hsz],by simp +decide only [go_sem,hsz,e0],by rw [hCB];simp +decide only [go_sem,WR,WS,hsz],by simp +decide only [go_sem,hsz,e4],by simp +decide only [go_sem,hsz,e7],by simp +decide only [go_sem,hsz,ct],by rw [hT0];simp +decide only [go_sem,WR,WS,hsz];rfl,h02,by have:=h02.1;have:=x1.1;have:=x2.1;omega,z2,by simp [hpp]⟩
  have hy:l[B]? =some 46:=by rw [hp,decide_eq_true_eq] at hpp;exact hpp
  have hB1:=hBp hpp
  have hlt:(B:Int) < ((l.length:Nat):Int):=by omega
  have hT':=hT
  have hC':=hC
  rw [hpp] at hT' hC'
  simp only [if_true] at hT' hC'
  obtain ⟨b',o',cs',p1,p2,p3,p4⟩:=t2.one hy
  cases p1
  have i3:IntKind.i64.wrap ((B:Int)+1)=((B+1:Nat):Int):=by rw [wrap_i64 (by omega) (by omega)];omega
  simp +decide only [go_sem,WS,hsz,e0,e1,e4,e7,hlt,i2,Int.toNat_natCast,Nat.mul_one,p3,p4]
  (rw [WR];simp +decide only [go_sem,WS,hsz,e0,e1,e4,e7,i3])
  refine W_call Kok (by have:=h02.1;omega) (rrun_run l (B+1) _ t2 (by omega) hB1) fun r w3 x3 hr=> ?_
  subst hr
  rw [← hT']
  have h03:=h02.trans x3
  have z3:w3.get h.size=_:=(x3.2 _ (by have:=x1.1;have:=x2.1;omega)).trans z2
  by_cases hT0:T=[]
  ·have l0:((T.length:Nat):Int)=0:=by rw [hT0];rfl
   simp +decide only [go_sem,WR,WS,hsz,e0,e1,e4,e7,l0]
   refine W_call Kok h03.1 (zero_run w3) fun r w4 x4 hr=> ?_
   subst hr
   have z4:w4.get h.size=_:=(x4.2 _ (by have:=x1.1;have:=x2.1;have:=x3.1;omega)).trans z3
   obtain ⟨wd,ed,xd,hsd,gd,kd⟩:=put1 (h03.trans x4) jj (.cells [.bool false,.string (text (ds 0)),.string (text (ds 1))] 3)
   simp +decide only [go_sem,WR,WS,numA,hsz,e0,e1,e4,e7,z4,jj,ed,gd]
   exact .inl (by rw [if_pos ⟨hpp,hT0⟩])
  ·have l0:¬ ((T.length:Nat):Int)=0:=by
    intro hh
    exact hT0 (List.eq_nil_of_length_eq_zero (by omega))
   have i4:IntKind.i64.wrap (((B+1:Nat):Int)+((T.length:Nat):Int))=(C:Int):=by rw [wrap_i64 (by omega) (by omega)];omega
   obtain ⟨a2,d1,d2,d3⟩:=(t.ext h03).cut hne (lo:=B+1) (hi:=C) (by omega) hCl
   have hcut2:(l.drop (B+1)).take (C - (B+1))=T:=by
    rw [show C - (B+1)=T.length by omega,hT']
    exact tw_take _
   rw [hcut2] at d3
   have hrb2:runesBytes T=text (dbs T):=runes_digits fun c hc=>digs_mem (by rw [← hT'];exact hc)
   have hcat:∀ ty,ibinop Tryz.prog .add ty (.string (text (dbs D))) (.string (text (dbs T)))=some (.string (text (dbs D++dbs T))):=fun ty=>cat_ok (by rw [dbs_length,dbs_length];omega)
   simp +decide only [go_sem,WS,hsz,e0,e1,e4,e7]
   (rw [WR];simp +decide only [go_sem,WS,hsz,e0,e1,e4,e7,l0])
   (rw [WR];simp +decide only [go_sem,WS,hsz,e0,e1,e4,e7,i3,i4,d1,d3,icvs_rv,hrb2,hcat,Int.toNat_natCast])
   (rw [WR];simp +decide only [go_sem,WS,hsz,e0,e1,e4,e7,i3,i4])
   exact cont () _ _ ⟨by simp +decide only [go_sem,hsz],by simp +decide only [go_sem,hsz,e0],by simp +decide only [go_sem,hsz],by simp +decide only [go_sem,hsz,e4],by simp +decide only [go_sem,hsz,e7],by simp +decide only [go_sem,hsz],by simp +decide only [go_sem,hsz],h03,by have:=h03.1;have:=x1.1;have:=x2.1;have:=x3.1;omega,z3,by simp [hT0]⟩
 rintro _ e w ⟨hsz,e0,e1,e4,e7,e9,e10,hxw,hws,gw,hpT⟩
 rw [if_neg hpT]
 have t3:=t.ext hxw
 have hfail:∀ {X:Prop},(∀ {e2:Env} {w':Heap},True→X)→True:=fun _=>trivial
 by_cases hz:D.length+T.length=0
 ·have l0:(((dbs D++dbs T).length:Nat):Int)=0:=by rw [hDTl];omega
  simp +decide only [go_sem,WR,WS,hsz,e0,e1,e4,e7,e9,e10,l0]
  refine W_call Kok hxw.1 (zero_run w) fun r w4 x4 hr=> ?_
  subst hr
  have z4:w4.get h.size=_:=(x4.2 _ hws).trans gw
  obtain ⟨wd,ed,xd,hsd,gd,kd⟩:=put1 (hxw.trans x4) jj (.cells [.bool false,.string (text (ds 0)),.string (text (ds 1))] 3)
  simp +decide only [go_sem,WR,WS,numA,hsz,e0,e1,e4,e7,z4,jj,ed,gd]
  refine .inl ?_
  cases expoS (l.drop C) with
  | none=>rfl
  | some k=>simp only [if_pos (Or.inl hz:D.length+T.length=0∨200 < D.length+T.length)]
 have l0:¬ (((dbs D++dbs T).length:Nat):Int)=0:=by rw [hDTl];omega
 by_cases h200:200 < D.length+T.length
 ·have l1:(200:Int) < (((dbs D++dbs T).length:Nat):Int):=by rw [hDTl];omega
  simp +decide only [go_sem,WR,WS,hsz,e0,e1,e4,e7,e9,e10,l0,l1]
  refine W_call Kok hxw.1 (zero_run w) fun r w4 x4 hr=> ?_
  subst hr
  have z4:w4.get h.size=_:=(x4.2 _ hws).trans gw
  obtain ⟨wd,ed,xd,hsd,gd,kd⟩:=put1 (hxw.trans x4) jj (.cells [.bool false,.string (text (ds 0)),.string (text (ds 1))] 3)
  simp +decide only [go_sem,WR,WS,numA,hsz,e0,e1,e4,e7,z4,jj,ed,gd]
  refine .inl ?_
  cases expoS (l.drop C) with
  | none=>rfl
  | some k=>simp only [if_pos (Or.inr h200:D.length+T.length=0∨200 < D.length+T.length)]
 have l1:¬ (200:Int) < (((dbs D++dbs T).length:Nat):Int):=by rw [hDTl];omega
 have hor:¬ (D.length+T.length=0∨200 < D.length+T.length):=by omega
 have iC:(0:Int)≤(C:Int):=by omega
 apply W_join (α:=Nat × Int) (fun k e w=>e.size=151∧e.get 1= .int .i64 ((C+k.1:Nat):Int)∧e.get 4= .pointer (some ⟨h.size,0,none⟩)∧e.get 7= .bool neg∧e.get 9= .string (text (dbs D++dbs T))∧e.get 10= .int .i64 ((T.length:Nat):Int)∧e.get 11= .int .i64 k.2 ∧
  Ext h w∧h.size < w.size∧w.get h.size= .cells [.bool false,.string ByteArray.empty,.string ByteArray.empty] 3∧expoS (l.drop C)=some k.1∧expoN (l.drop C)=k.2∧C+k.1≤l.length∧ -999≤k.2∧k.2≤999)
 ·intro cont
  (rw [WR];simp +decide only [go_sem,WS,hsz,e0,e1,e4,e7,e9,e10,l0,l1])
  (rw [WR];simp +decide only [go_sem,WS,hsz,e0,e1,e4,e7,e9,e10,l0,l1])
  by_cases h69:l[C]? =some 69
  case neg =>
   have hx0:expoS (l.drop C)=some 0:=by unfold expoS;rw [List.getElem?_drop,Nat.add_zero,if_neg h69]
   have hn0:expoN (l.drop C)=0:=by unfold expoN;rw [List.getElem?_drop,Nat.add_zero,if_neg h69]
   by_cases hlt:(C:Int) < ((l.length:Nat):Int)
   ·obtain ⟨y,hy⟩:∃ y,l[C]? =some y:=⟨_,List.getElem?_eq_getElem (by omega)⟩
    have hy69:¬ y=69:=fun hh=>h69 (by rw [hy,hh])
    obtain ⟨b',o',cs',p1,p2,p3,p4⟩:=t3.one hy
    cases p1
    (rw [WR];simp +decide only [go_sem,WS,hsz,e0,e1,e4,e7,e9,e10,hlt,iC,Int.toNat_natCast,Nat.mul_one,p3,p4,hy69])
    exact cont (0,0) _ _ ⟨by simp +decide only [go_sem,hsz],by simp +decide only [go_sem,hsz,e1,Nat.add_zero],by simp +decide only [go_sem,hsz,e4],by simp +decide only [go_sem,hsz,e7],by simp +decide only [go_sem,hsz,e9],by simp +decide only [go_sem,hsz,e10],by simp +decide only [go_sem,hsz],hxw,hws,gw,hx0,hn0,by omega,by simp,by simp⟩
   ·(rw [WR];simp +decide only [go_sem,WS,hsz,e0,e1,e4,e7,e9,e10,hlt])
    exact cont (0,0) _ _ ⟨by simp +decide only [go_sem,hsz],by simp +decide only [go_sem,hsz,e1,Nat.add_zero],by simp +decide only [go_sem,hsz,e4],by simp +decide only [go_sem,hsz,e7],by simp +decide only [go_sem,hsz,e9],by simp +decide only [go_sem,hsz,e10],by simp +decide only [go_sem,hsz],hxw,hws,gw,hx0,hn0,by omega,by simp,by simp⟩
  have hC1:=(List.getElem?_eq_some_iff.1 h69).1
  have hlt:(C:Int) < ((l.length:Nat):Int):=by omega
  obtain ⟨neg2,hneg2⟩:∃ neg2,neg2=decide (l[C+1]? =some 175):=⟨_,rfl⟩
  obtain ⟨A2,hA2⟩:∃ A2,A2=C+1+(if neg2 then 1 else 0):=⟨_,rfl⟩
  have hiA:hi (l.drop (C+1))=(if neg2 then 1 else 0):=by
   rw [hi_drop,hneg2]
   simp
  have hA2l:A2≤l.length:=by
   have:=hi_len (l:=l) (i:=C+1) (by omega)
   rw [hiA] at this
   omega
  obtain ⟨D2,hD2⟩:∃ D2,D2=digs (l.drop A2):=⟨_,rfl⟩
  have hAD2:A2+D2.length≤l.length:=by rw [hD2];exact digs_len hA2l
  have hexp:expoS (l.drop C)=if D2.length=0∨3 < D2.length then none else some (A2 - C+D2.length):=by
   have e1:1+hi ((l.drop C).drop 1)=A2 - C:=by rw [List.drop_drop,hiA];omega
   unfold expoS
   rw [List.getElem?_drop,Nat.add_zero,h69,if_pos rfl,e1,List.drop_drop,show C+(A2 - C)=A2 by omega,← hD2]
  have hexpN:expoN (l.drop C)=if neg2 then - ((dec (dbs D2):Nat):Int) else ((dec (dbs D2):Nat):Int):=by
   have e1:1+hi ((l.drop C).drop 1)=A2 - C:=by rw [List.drop_drop,hiA];omega
   unfold expoN
   rw [List.getElem?_drop,Nat.add_zero,h69,if_pos rfl,e1,List.drop_drop,List.drop_drop,show C+(A2 - C)=A2 by omega,← hD2,hiA]
   cases neg2<;>rfl
  obtain ⟨b',o',cs',p1,p2,p3,p4⟩:=t3.one h69
  cases p1
  have i5:IntKind.i64.wrap ((C:Int)+1)=((C+1:Nat):Int):=by rw [wrap_i64 (by omega) (by omega)];omega
  (rw [WR];simp +decide only [go_sem,WS,hsz,e0,e1,e4,e7,e9,e10,hlt,iC,Int.toNat_natCast,Nat.mul_one,p3,p4])
  (rw [WR];simp +decide only [go_sem,WS,hsz,e0,e1,e4,e7,e9,e10,i5])
  refine W_cut (J:=fun e w'=>e.size=151∧e.get 0= .slice (some ⟨b,o,none⟩) l.length big∧e.get 1= .int .i64 ((C+1:Nat):Int)∧e.get 4= .pointer (some ⟨h.size,0,none⟩)∧e.get 7= .bool neg∧e.get 9= .string (text (dbs D++dbs T)) ∧
   e.get 10= .int .i64 ((T.length:Nat):Int)∧e.get 11= .int .i64 0∧e.get 12= .bool neg2∧w'=w) (by simp only [straight,KD];rfl) ?_ ?_
  ·by_cases hl1:((C+1:Nat):Int) < ((l.length:Nat):Int)
   case neg =>
    have hn2:neg2=false:=by
     rw [hneg2,List.getElem?_eq_none (by omega)]
     rfl
    simp +decide only [go_sem,WR,WS,hsz,e0,e1,e4,e7,e9,e10,hl1,hn2]
   obtain ⟨y,hy⟩:∃ y,l[C+1]? =some y:=⟨_,List.getElem?_eq_getElem (by omega)⟩
   obtain ⟨b3,o3,cs3,r1,r2,r3,r4⟩:=t3.one hy
   cases r1
   rw [p3] at r3
   cases r3
   have i6:(0:Int)≤((C+1:Nat):Int):=by omega
   have hn2:neg2=decide (y=175):=by rw [hneg2,hy];simp
   simp +decide only [go_sem,WR,WS,hsz,e0,e1,e4,e7,e9,e10,hl1,i6,Int.toNat_natCast,Nat.mul_one,p3,r4,hn2]
  rintro e w' ⟨hsz,e0,e1,e4,e7,e9,e10,e11,e12,rfl⟩
  simp +decide only [go_sem,WS]
  (rw [WR];simp +decide only [go_sem,WS,hsz,e12])
  refine Wc_cut (J:=fun e w2=>e.size=151∧e.get 0= .slice (some ⟨b,o,none⟩) l.length big∧e.get 1= .int .i64 (A2:Int)∧e.get 4= .pointer (some ⟨h.size,0,none⟩)∧e.get 7= .bool neg∧e.get 9= .string (text (dbs D++dbs T)) ∧
   e.get 10= .int .i64 ((T.length:Nat):Int)∧e.get 11= .int .i64 0∧e.get 12= .bool neg2∧w2=w') (by simp only [straight,KD];rfl) rfl ?_ ?_ ?_
  ·intro hn
   have i6:IntKind.i64.wrap (((C+1:Nat):Int)+1)=(A2:Int):=by rw [wrap_i64 (by omega) (by omega),hA2,hn];simp
   simp +decide only [go_sem,WR,WS,hsz,e0,e1,e4,e7,e9,e10,e11,e12,i6]
  ·intro hn
   have i6:((C+1:Nat):Int)=(A2:Int):=by rw [hA2,hn];simp
   simp +decide only [go_sem,WR,WS,hsz,e0,e1,e4,e7,e9,e10,e11,e12,i6]
  rintro e w2 ⟨hsz,e0,e1,e4,e7,e9,e10,e11,e12,rfl⟩
  simp +decide only [go_sem,WS]
  (rw [WR];simp +decide only [go_sem,WS,hsz,e0,e1])
  refine W_call Kok hxw.1 (rrun_run l A2 _ t3 (by omega) hA2l) fun r w3 x3 hr=> ?_
  subst hr
  rw [← hD2]
  have hx3:=hxw.trans x3
  have t4:=t.ext hx3
  have z3:w3.get h.size=_:=(x3.2 _ hws).trans gw
  by_cases hbad:D2.length=0∨3 < D2.length
  ·rw [if_pos hbad] at hexp
   have fin:∀ w4:Heap,Ext w3 w4→∃ wd,w4.set h.size (.cells [.bool false,.string (text (ds 0)),.string (text (ds 1))] 3)=wd∧wd.get h.size= .cells [.bool false,.string (text (ds 0)),.string (text (ds 1))] 3∧w4.get h.size= .cells [.bool false,.string ByteArray.empty,.string ByteArray.empty] 3:=by
    intro w4 x4
    obtain ⟨wd,ed,xd,hsd,gd,kd⟩:=put1 (hx3.trans x4) jj (.cells [.bool false,.string (text (ds 0)),.string (text (ds 1))] 3)
    exact ⟨wd,ed,gd,(x4.2 _ (by have:=x3.1;omega)).trans z3⟩
   by_cases hb0:D2.length=0
   ·have m1:((D2.length:Nat):Int)=0:=by omega
    simp +decide only [go_sem,WR,WS,hsz,e0,e1,e4,e7,e9,e10,e11,e12,m1]
    refine W_call Kok hx3.1 (zero_run w3) fun r w4 x4 hr=> ?_
    subst hr
    obtain ⟨wd,ed,gd,z4⟩:=fin w4 x4
    simp +decide only [go_sem,WR,WS,numA,hsz,e0,e1,e4,e7,z4,jj,ed,gd]
    exact .inl (by rw [hexp])
   ·have m1:¬ ((D2.length:Nat):Int)=0:=by omega
    have m2:(3:Int) < ((D2.length:Nat):Int):=by omega
    simp +decide only [go_sem,WR,WS,hsz,e0,e1,e4,e7,e9,e10,e11,e12,m1,m2]
    refine W_call Kok hx3.1 (zero_run w3) fun r w4 x4 hr=> ?_
    subst hr
    obtain ⟨wd,ed,gd,z4⟩:=fin w4 x4
    simp +decide only [go_sem,WR,WS,numA,hsz,e0,e1,e4,e7,z4,jj,ed,gd]
    exact .inl (by rw [hexp])
  rw [if_neg hbad] at hexp
  have m1:¬ ((D2.length:Nat):Int)=0:=by omega
  have m2:¬ (3:Int) < ((D2.length:Nat):Int):=by omega
  simp +decide only [go_sem,WS,hsz,e0,e1,e4,e7,e9,e10,e11,e12]
  (rw [WR];simp +decide only [go_sem,WS,hsz,e0,e1,e4,e7,e9,e10,e11,e12,m1,m2])
  (rw [WR];simp +decide only [go_sem,WS,hsz,e0,e1,e4,e7,e9,e10,e11,e12])
  have hD2d:∀ j,Digs (dbs (D2.take j)):=by
   intro j u hu
   have:=digs_Digs (l.drop A2)
   rw [← hD2] at this
   refine this u ?_
   simp only [dbs,List.mem_map] at hu ⊢
   obtain ⟨y,hy,rfl⟩:=hu
   exact ⟨y,List.mem_of_mem_take hy,rfl⟩
  have hD2b:∀ j,j≤D2.length→dec (dbs (D2.take j)) < 1000:=by
   intro j hj
   have h1:=dec_lt (hD2d j)
   rw [dbs_length,List.length_take] at h1
   have h2:10 ^ min j D2.length≤10 ^ 3:=Nat.pow_le_pow_right (by omega) (by omega)
   omega
  refine W_loop (α:=Nat) (fun j e w4=>j≤D2.length∧e.size=151∧w4=w3∧e.get 0= .slice (some ⟨b,o,none⟩) l.length big∧e.get 1= .int .i64 (A2:Int)∧e.get 4= .pointer (some ⟨h.size,0,none⟩)∧e.get 7= .bool neg∧e.get 9= .string (text (dbs D++dbs T)) ∧
   e.get 10= .int .i64 ((T.length:Nat):Int)∧e.get 11= .int .i64 ((dec (dbs (D2.take j)):Nat):Int)∧e.get 12= .bool neg2∧e.get 13= .int .i64 ((D2.length:Nat):Int)∧e.get 14= .int .i64 (j:Int)) (fun j=>D2.length - j) 0 ?_ ?_
  ·exact ⟨Nat.zero_le _,by simp +decide only [go_sem,hsz],rfl,by simp +decide only [go_sem,hsz,e0],by simp +decide only [go_sem,hsz,e1],by simp +decide only [go_sem,hsz,e4],by simp +decide only [go_sem,hsz,e7],by simp +decide only [go_sem,hsz,e9],by simp +decide only [go_sem,hsz,e10],by simp +decide only [go_sem,hsz,e11];rfl,by simp +decide only [go_sem,hsz,e12],by simp +decide only [go_sem,hsz],by simp +decide only [go_sem,hsz];rfl⟩
  ·rintro j e w4 ⟨hj,hsz,rfl,e0,e1,e4,e7,e9,e10,e11,e12,e13,e14⟩ next
   by_cases hjl:j < D2.length
   ·obtain ⟨y,hy,hdy⟩:=tw_lt (p:=isD) (l:=l.drop A2) (k:=j) (by rw [← digs,← hD2];exact hjl)
    have hyD:D2[j]? =some y:=by
     have h1:(digs (l.drop A2))[j]? =(l.drop A2)[j]? :=by
      show ((l.drop A2).takeWhile isD)[j]? =_
      rw [← tw_take (p:=isD) (l.drop A2),List.getElem?_take,if_pos (by rw [← digs,← hD2];exact hjl)]
     rw [hD2,h1]
     exact hy
    rw [List.getElem?_drop] at hy
    simp only [isD,Bool.and_eq_true,decide_eq_true_eq] at hdy
    obtain ⟨b3,o3,cs3,r1,r2,r3,r4⟩:=t4.one hy
    cases r1
    have hyl:=(List.getElem?_eq_some_iff.1 hy).1
    have hb3:=hD2b j hj
    have hjl':(j:Int) < ((D2.length:Nat):Int):=by omega
    have k1:IntKind.i64.wrap ((A2:Int)+(j:Int))=((A2+j:Nat):Int):=by rw [wrap_i64 (by omega) (by omega)];omega
    have k2:(0:Int)≤((A2+j:Nat):Int):=by omega
    have k3:((A2+j:Nat):Int) < ((l.length:Nat):Int):=by omega
    have k4:IntKind.i32.wrap (y - 48)=y - 48:=wrap_i32 (by omega) (by omega)
    have k5:IntKind.i64.wrap (y - 48)=y - 48:=wrap_i64 (by omega) (by omega)
    have k6:IntKind.i64.wrap (((dec (dbs (D2.take j)):Nat):Int)*10)=((dec (dbs (D2.take j)):Nat):Int)*10:=wrap_i64 (by omega) (by omega)
    have k7:IntKind.i64.wrap (((dec (dbs (D2.take j)):Nat):Int)*10+(y - 48))=((dec (dbs (D2.take (j+1))):Nat):Int):=by
     rw [wrap_i64 (by omega) (by omega)]
     obtain ⟨hjg,hyg⟩:=List.getElem?_eq_some_iff.1 hyD
     rw [List.take_succ_eq_append_getElem hjg,hyg,dbs_app]
     have:dbs [y]=[UInt8.ofNat y.toNat]:=rfl
     have e:y.toNat < 256:=by omega
     rw [this,dec_snoc,UInt8.toNat_ofNat_of_lt' (by simpa using e)]
     omega
    have k8:IntKind.i64.wrap ((j:Int)+1)=((j+1:Nat):Int):=by rw [wrap_i64 (by omega) (by omega)];omega
    simp +decide only [go_sem,WR,WS,hsz,e0,e1,e4,e7,e9,e10,e11,e12,e13,e14,hjl',k1,k2,k3,Int.toNat_natCast,Nat.mul_one,r3,r4,k4,k5,k6,k7,k8]
    exact next (j+1) _ _ ⟨by omega,by simp +decide only [go_sem,hsz],rfl,by simp +decide only [go_sem,hsz,e0],by simp +decide only [go_sem,hsz,e1],by simp +decide only [go_sem,hsz,e4],by simp +decide only [go_sem,hsz,e7],by simp +decide only [go_sem,hsz,e9],by simp +decide only [go_sem,hsz,e10],by simp +decide only [go_sem,hsz],by simp +decide only [go_sem,hsz,e12],by simp +decide only [go_sem,hsz,e13],by simp +decide only [go_sem,hsz]⟩ (by omega)
   ·have hjj:j=D2.length:=by omega
    subst hjj
    have hjl':¬ ((D2.length:Nat):Int) < ((D2.length:Nat):Int):=by omega
    rw [List.take_length] at e11
    have hb3:=hD2b D2.length (Nat.le_refl _)
    rw [List.take_length] at hb3
    have k9:IntKind.i64.wrap ((A2:Int)+((D2.length:Nat):Int))=((C+(A2 - C+D2.length):Nat):Int):=by rw [wrap_i64 (by omega) (by omega)];omega
    simp +decide only [go_sem,WS]
    (rw [WR];simp +decide only [go_sem,WS,hsz,e13,e14,hjl'])
    (rw [WR];simp +decide only [go_sem,WS,hsz,e12])
    cases neg2 with
    | true =>
      have k10:IntKind.i64.wrap (0 - ((dec (dbs D2):Nat):Int))= - ((dec (dbs D2):Nat):Int):=by rw [wrap_i64 (by omega) (by omega)];omega
      simp +decide only [go_sem,WS]
      (rw [WR];simp +decide only [go_sem,WS,hsz,e11,k10])
      (rw [WR];simp +decide only [go_sem,WS,hsz,e1,e13,k9])
      exact cont (A2 - C+D2.length, - ((dec (dbs D2):Nat):Int)) _ _ ⟨by simp +decide only [go_sem,hsz],by simp +decide only [go_sem,hsz],by simp +decide only [go_sem,hsz,e4],by simp +decide only [go_sem,hsz,e7],by simp +decide only [go_sem,hsz,e9],by simp +decide only [go_sem,hsz,e10],by simp +decide only [go_sem,hsz],hx3,by have:=x3.1;omega,z3,hexp,hexpN,by simp only;omega,by simp only;omega,by simp only;omega⟩
    | false =>
      simp +decide only [go_sem,WS]
      (rw [WR];simp +decide only [go_sem,WS,hsz,e1,e13,k9])
      exact cont (A2 - C+D2.length,((dec (dbs D2):Nat):Int)) _ _ ⟨by simp +decide only [go_sem,hsz],by simp +decide only [go_sem,hsz],by simp +decide only [go_sem,hsz,e4],by simp +decide only [go_sem,hsz,e7],by simp +decide only [go_sem,hsz,e9],by simp +decide only [go_sem,hsz,e10],by simp +decide only [go_sem,hsz,e11],hx3,by have:=x3.1;omega,z3,hexp,hexpN,by simp only;omega,by simp only;omega,by simp only;omega⟩
 rintro ⟨k,n⟩ e w ⟨hsz,e1,e4,e7,e9,e10,e11,hxw,hws,gw,hxs,hxn,hCk,hn1,hn2⟩
 simp only at e1 e11 hxs hxn hCk hn1 hn2
 rw [hxs,hxn]
 simp only
 rw [if_neg hor]
 have hsub:IntKind.i64.wrap (n - ((T.length:Nat):Int))=n - ((T.length:Nat):Int):=wrap_i64 (by omega) (by omega)
 have hDT0:dbs D++dbs T≠[]:=by
  intro hh
  rw [hh] at hDTl
  simp at hDTl
  omega
 have hds:(ds N0).length≤200:=by
  refine ds_len (Nat.lt_of_lt_of_le hN0' (Nat.pow_le_pow_right (by omega) (by omega))) (by omega)
 simp +decide only [go_sem,WR,WS,hsz,e1,e4,e7,e9,e10,e11]
 refine W_call Kok hxw.1 (of_run neg hDTd hDT0 (by omega) w) fun r w4 x4 hr=> ?_
 subst hr
 rw [← hN0]
 simp +decide only [go_sem,WR,WS,hsz]
 refine W_call Kok (hxw.trans x4).1 (whole_run _ N0 w4) fun r w5 x5 hr=> ?_
 subst hr
 simp +decide only [go_sem,WR,WS,hsz,e1,e4,e7,e9,e10,e11,hsub]
 refine W_call Kok (hxw.trans (x4.trans x5)).1 (times10_run _ N0 1 (n - ((T.length:Nat):Int)) w5 (by omega) (by omega) (by rw [ds_one];simp) (by omega) (by omega)) fun r w6 x6 hr=> ?_
 have hr':r=ratN (neg,N0,n - ((T.length:Nat):Int)):=by
  unfold ratN
  simp only [scM,scK]
  have hbb:((neg && decide (N0≠0)) && decide (N0≠0))=(neg && decide (N0≠0)):=by cases neg<;>cases decide (N0≠0)<;>rfl
  by_cases hnn:0≤n - ((T.length:Nat):Int)
  ·rw [if_pos hnn] at hr ⊢
   rw [if_pos hnn,hr,hbb,Nat.gcd_one_right,Nat.div_one,Nat.div_one]
  ·rw [if_neg hnn] at hr ⊢
   rw [if_neg hnn,hr,hbb,Nat.one_mul]
 subst hr'
 have x06:=hxw.trans (x4.trans (x5.trans x6))
 have z6:w6.get h.size=_:=((x4.trans (x5.trans x6)).2 _ hws).trans gw
 have hCk':i+(C - i+k)=C+k:=by
  have:i≤C:=by rw [hC,hB,hA];omega
  omega
 have hCi:D.length+T.length≤C - i:=by
  rw [hC,hB,hA]
  cases p with
  | false =>
    have:T=[]:=hT
    simp [this]
    omega
  | true=>simp;omega
 unfold ratN
 generalize (neg && decide (N0≠0))=sg
 generalize scM N0 (n - ((T.length:Nat):Int))=M
 generalize scK N0 (n - ((T.length:Nat):Int))=M2
 obtain ⟨wd,ed,xd,hsd,gd,kd⟩:=put1 x06 jj (.cells [.bool sg,.string (text (ds M)),.string (text (ds M2))] 3)
 simp +decide only [go_sem,WR,WS,numA,hsz,e1,e4,e7,z6,jj,ed,gd]
 exact .inr ⟨_,rfl,by omega,by omega,by rw [hCk']⟩
end Go.Proofs.YtjlaenglmdpboaaGreat.R6
namespace Go.Im.Lexing
def rtab:Nat→List Int
 | 1=>[32]
 | 4=>t4
 | 5=>t5
 | 6=>t6
 | 7=>t7
 | 8=>[34,35,36,37,38,64,94,96,123,125,168,8746,8745,8801,8802,8834,8835,8866,8867,9077,9082,9066,9080,9674]
 | _=>[]
theorem rtab8 (c:Int):(rtab 8).elem c=t8.elem c:=by
 simp only [rtab,t8,List.elem_cons,List.elem_nil,Bool.or_assoc]
 cases c == 9080<;>simp
theorem kind_at {c:Int} (hl:isL c=false) (hd:(isD c || decide (c=175))=false) {k:Nat} (h1:1≤k) (h8:k≤8) (hn:∀ j,1≤j→j < k→(rtab j).elem c=false) (hk:(rtab k).elem c=true):kindOf c=k:=by
 have hx:∀ {d:Bool},(if d=true then (0:Nat) else 0)=0:=fun {d}=>by split<;>rfl
 unfold kindOf
 rw [hl,hd]
 have hc:k=1∨k=2∨k=3∨k=4∨k=5∨k=6∨k=7∨k=8:=by omega
 have n1:=fun h=>hn 1 (by omega) h
 have n4:=fun h=>hn 4 (by omega) h
 have n5:=fun h=>hn 5 (by omega) h
 have n6:=fun h=>hn 6 (by omega) h
 have n7:=fun h=>hn 7 (by omega) h
 have e1:(rtab 1).elem c=decide (c=32):=by
  show (c == 32 || false)=_
  rw [Bool.or_false]
  rfl
 rw [e1] at n1
 rcases hc with rfl | rfl | rfl | rfl | rfl | rfl | rfl | rfl
 ·rw [e1] at hk
  rw [if_pos (by simpa using hk)]
 ·cases hk
 ·cases hk
 ·have hk':t4.elem c=true:=hk
  have h32:¬ c=32:=by simpa using n1 (by omega)
  simp only [h32,hk',if_false,if_true,Bool.false_eq_true]
 ·have hk':t5.elem c=true:=hk
  have m4:t4.elem c=false:=n4 (by omega)
  have h32:¬ c=32:=by simpa using n1 (by omega)
  simp only [h32,hk',m4,if_false,if_true,Bool.false_eq_true]
 ·have hk':t6.elem c=true:=hk
  have m4:t4.elem c=false:=n4 (by omega)
  have m5:t5.elem c=false:=n5 (by omega)
  have h32:¬ c=32:=by simpa using n1 (by omega)
  simp only [h32,hk',m4,m5,if_false,if_true,Bool.false_eq_true]
 ·have hk':t7.elem c=true:=hk
  have m4:t4.elem c=false:=n4 (by omega)
  have m5:t5.elem c=false:=n5 (by omega)
  have m6:t6.elem c=false:=n6 (by omega)
  have h32:¬ c=32:=by simpa using n1 (by omega)
  simp only [h32,hk',m4,m5,m6,if_false,if_true,Bool.false_eq_true]
 ·have hk':t8.elem c=true:=by rw [← rtab8];exact hk
  have m4:t4.elem c=false:=n4 (by omega)
  have m5:t5.elem c=false:=n5 (by omega)
  have m6:t6.elem c=false:=n6 (by omega)
  have m7:t7.elem c=false:=n7 (by omega)
  have h32:¬ c=32:=by simpa using n1 (by omega)
  simp only [h32,hk',m4,m5,m6,m7,if_false,if_true,Bool.false_eq_true]
theorem kind_none {c:Int} (hl:isL c=false) (hd:(isD c || decide (c=175))=false) (hn:∀ j,1≤j→j < 9→(rtab j).elem c=false):kindOf c=0:=by
 unfold kindOf
 rw [hl,hd]
 have e1:(rtab 1).elem c=decide (c=32):=by
  show (c == 32 || false)=_
  rw [Bool.or_false]
  rfl
 have n1:=hn 1 (by omega) (by omega)
 rw [e1] at n1
 have h32:¬ c=32:=by simpa using n1
 have m4:t4.elem c=false:=hn 4 (by omega) (by omega)
 have m5:t5.elem c=false:=hn 5 (by omega) (by omega)
 have m6:t6.elem c=false:=hn 6 (by omega) (by omega)
 have m7:t7.elem c=false:=hn 7 (by omega) (by omega)
 have m8:t8.elem c=false:=by rw [← rtab8];exact hn 8 (by omega) (by omega)
 simp only [h32,m4,m5,m6,m7,m8,if_false,if_true,Bool.false_eq_true]
theorem elem_at {l:List Int} {c:Int} {i:Nat} (h:l[i]? =some c):l.elem c=true:=List.elem_eq_true_of_mem (List.mem_of_getElem? h)
theorem elem_not {l:List Int} {c:Int} (h:∀ i,i < l.length→l[i]? ≠some c):l.elem c=false:=by
 cases he:l.elem c with
 | false=>rfl
 | true =>
   obtain ⟨i,hi,hg⟩:=List.getElem_of_mem (List.mem_of_elem_eq_true he)
   exact absurd (by rw [List.getElem?_eq_getElem hi,hg]) (h i hi)
end Go.Im.Lexing
namespace Go.Proofs.YtjlaenglmdpboaaGreat.R7
open Go Go.Im Go.Im.Limbs Go.Im.Lexing Go.Im.Dec Go.Proofs Go.RowKit Hd N16
set_option maxRecDepth 100000
theorem table_run (k:Nat) (h:Heap) (h1:1≤k) (h8:k≤8):Runs K 96 #[.int .i64 (k:Int)] h fun r w=>∃ a n c,r= .slice a n c∧Sl w 1 a n c (rv (rtab k)):=by
 refine Runs.of Kok (Does.intro rfl (by decide +kernel) Tryz.func96 rfl ?_)
 have hc:k=1∨k=2∨k=3∨k=4∨k=5∨k=6∨k=7∨k=8:=by omega
 rcases hc with rfl | rfl | rfl | rfl | rfl | rfl | rfl | rfl
 ·simp +decide only [go_sem,WR,WS,Int.natCast_one,Int.cast_ofNat_Int]
  exact ⟨_,_,_,rfl,Sl.made (by simp) (push_self _ _) rfl (by simp [big])⟩
 ·simp +decide only [go_sem,WR,WS,Int.natCast_one,Int.cast_ofNat_Int]
  exact ⟨_,_,_,rfl,Sl.nil _ _⟩
 ·simp +decide only [go_sem,WR,WS,Int.natCast_one,Int.cast_ofNat_Int]
  exact ⟨_,_,_,rfl,Sl.nil _ _⟩
 ·simp +decide only [go_sem,WR,WS,Int.natCast_one,Int.cast_ofNat_Int]
  exact ⟨_,_,_,rfl,Sl.made (by simp) (push_self _ _) rfl (by simp [big])⟩
 ·simp +decide only [go_sem,WR,WS,Int.natCast_one,Int.cast_ofNat_Int]
  exact ⟨_,_,_,rfl,Sl.made (by simp) (push_self _ _) rfl (by simp [big])⟩
 ·simp +decide only [go_sem,WR,WS,Int.natCast_one,Int.cast_ofNat_Int]
  exact ⟨_,_,_,rfl,Sl.made (by simp) (push_self _ _) rfl (by simp [big])⟩
 ·simp +decide only [go_sem,WR,WS,Int.natCast_one,Int.cast_ofNat_Int]
  exact ⟨_,_,_,rfl,Sl.made (by simp) (push_self _ _) rfl (by simp [big])⟩
 ·simp +decide only [go_sem,WR,WS,Int.natCast_one,Int.cast_ofNat_Int]
  exact ⟨_,_,_,rfl,Sl.made (by simp) (push_self _ _) rfl (by simp [big])⟩
theorem rkind_run (c:Int) (h:Heap):Runs K 73 #[.int .i32 c] h fun r _=>r= .int .i64 (kindOf c):=by
 refine Runs.of Kok (Does.intro rfl (by decide +kernel) Tryz.func73 rfl ?_)
 simp +decide only [go_sem,WS]
 (rw [WR];simp +decide only [go_sem,WS])
 refine W_cut (J:=fun e w=>e.size=57∧e.get 0= .int .i32 c∧e.get 27= .bool (isL c)∧w=h) (by simp only [straight,KD];rfl) ?_ ?_
 ·by_cases a1:97≤c
  ·by_cases a2:c≤122
   ·have il:isL c=true:=by simp [isL];omega
    simp +decide only [go_sem,WR,WS,a1,a2,il]
   ·have a3:65≤c:=by omega
    have a4:¬ c≤90:=by omega
    have a5:¬ c=95:=by omega
    have il:isL c=decide (c=8710):=by simp [isL,a2,a4,a5]
    by_cases a6:c=8710
    ·simp +decide only [go_sem,WR,WS,a1,a2,a3,a4,a5,a6,il]
     rfl
    ·simp +decide only [go_sem,WR,WS,a1,a2,a3,a4,a5,a6,il]
  ·by_cases a3:65≤c
   ·by_cases a4:c≤90
    ·have il:isL c=true:=by simp [isL];omega
     simp +decide only [go_sem,WR,WS,a1,a3,a4,il]
    ·have a6:¬ c=8710:=by omega
     have il:isL c=decide (c=95):=by simp [isL,a1,a4,a6]
     by_cases a5:c=95
     ·simp +decide only [go_sem,WR,WS,a1,a3,a4,a5,il]
      rfl
     ·simp +decide only [go_sem,WR,WS,a1,a3,a4,a5,a6,il]
   ·have a5:¬ c=95:=by omega
    have a6:¬ c=8710:=by omega
    have il:isL c=false:=by simp [isL,a1,a3,a5,a6]
    simp +decide only [go_sem,WR,WS,a1,a3,a5,a6,il]
 rintro e w ⟨hsz,e0,e27,rfl⟩
 have h32:isL c=true→¬ c=32:=by
  intro hl hh
  subst hh
  cases hl
 cases hl:isL c with
 | true =>
   rw [hl] at e27
   simp +decide only [go_sem,WR,WS,hsz,e0,e27]
   simp only [kindOf,h32 hl,hl,if_true,if_false]
   rfl
 | false =>
 rw [hl] at e27
 simp +decide only [go_sem,WS,hsz,e27]
 refine W_cut (J:=fun e w'=>e.size=57∧e.get 0= .int .i32 c∧e.get 37= .bool (isD c || decide (c=175))∧w'=w) (by simp only [straight,KD];rfl) ?_ ?_
 ·by_cases a1:48≤c
  ·by_cases a2:c≤57
   ·have il:isD c=true:=by simp [isD,a1,a2]
    simp +decide only [go_sem,WR,WS,hsz,e0,a1,a2,il]
   ·have il:isD c=false:=by simp [isD,a2]
    by_cases a3:c=175
    ·simp +decide only [go_sem,WR,WS,hsz,e0,a1,a2,il,a3]
    ·simp +decide only [go_sem,WR,WS,hsz,e0,a1,a2,il,a3]
  ·have il:isD c=false:=by simp [isD,a1]
   have a3:¬ c=175:=by omega
   simp +decide only [go_sem,WR,WS,hsz,e0,a1,il,a3]
 rintro e w' ⟨hsz,e0,e37,rfl⟩
 cases hd:(isD c || decide (c=175)) with
 | true =>
   have h32':¬ c=32:=by
    intro hh
    subst hh
    cases hd
   rw [hd] at e37
   simp +decide only [go_sem,WR,WS,hsz,e0,e37]
   simp only [kindOf,h32',hl,hd,if_true,if_false,Bool.false_eq_true]
   rfl
 | false =>
 rw [hd] at e37
 simp +decide only [go_sem,WR,WS,hsz,e0,e37]
 refine W_loop (α:=Nat) (fun k e w=>1≤k∧k≤9∧e.size=57∧Ext w' w∧e.get 0= .int .i32 c∧e.get 3= .int .i64 (k:Int)∧∀ j,1≤j→j < k→(rtab j).elem c=false) (fun k=>9 - k) 1 ?_ ?_
 ·exact ⟨Nat.le_refl _,by omega,by simp +decide only [go_sem,hsz],Ext.refl _,by simp +decide only [go_sem,hsz,e0],by simp +decide only [go_sem,hsz];rfl,fun j h1 h2=>by omega⟩
 ·rintro k e w ⟨hk1,hk9,hsz,hxw,e0,e3,hnot⟩ next
  by_cases hk:(k:Int)≤8
  ·simp +decide only [go_sem,WR,WS,hsz,e0,e3,hk]
   refine W_call Kok hxw.1 (table_run k w hk1 (by omega)) fun r w1 x1 hr=> ?_
   obtain ⟨a,n,cc,rfl,s⟩:=hr
   have hn:(rtab k).length=n:=by have:=s.length;rw [rv_length] at this;omega
   have hnb:(rtab k).length≤30:=by
    rcases (show k=1∨k=2∨k=3∨k=4∨k=5∨k=6∨k=7∨k=8 by omega) with rfl | rfl | rfl | rfl | rfl | rfl | rfl | rfl<;>decide
   simp +decide only [go_sem,WR,WS,hsz,e0,e3]
   refine W_loop (α:=Nat) (fun j e w=>j≤n∧e.size=57∧w=w1∧e.get 0= .int .i32 c∧e.get 3= .int .i64 (k:Int)∧e.get 4= .slice a n cc∧e.get 5= .int .i64 (j:Int)∧∀ i,i < j→(rtab k)[i]? ≠some c) (fun j=>n - j) 0 ?_ ?_
   ·exact ⟨Nat.zero_le _,by simp +decide only [go_sem,hsz],rfl,by simp +decide only [go_sem,hsz,e0],by simp +decide only [go_sem,hsz,e3],by simp +decide only [go_sem,hsz],by simp +decide only [go_sem,hsz];rfl,fun i hi=>by omega⟩
   ·rintro j e w2 ⟨hj,hsz,rfl,e0,e3,e4,e5,hno⟩ next2
    by_cases hjn:(j:Int) < (n:Int)
    ·obtain ⟨x,hx⟩:∃ x,(rtab k)[j]? =some x:=⟨_,List.getElem?_eq_getElem (by omega)⟩
     obtain ⟨b,o,cs,rfl,hb,hg,hcs⟩:=s.one (rv_get hx)
     have j0:(0:Int)≤(j:Int):=by omega
     by_cases hxc:x=c
     ·simp +decide only [go_sem,WR,WS,hsz,e0,e3,e4,e5,hjn,j0,Int.toNat_natCast,Nat.mul_one,hg,hcs,hxc]
      rw [kind_at hl hd hk1 (by omega) hnot (elem_at (by rw [hx,hxc]))]
     ·have i2:IntKind.i64.wrap ((j:Int)+1)=((j+1:Nat):Int):=by rw [wrap_i64 (by omega) (by omega)];omega
      simp +decide only [go_sem,WR,WS,hsz,e0,e3,e4,e5,hjn,j0,Int.toNat_natCast,Nat.mul_one,hg,hcs,hxc,i2]
      refine next2 (j+1) _ _ ⟨by omega,by simp +decide only [go_sem,hsz],rfl,by simp +decide only [go_sem,hsz,e0],by simp +decide only [go_sem,hsz,e3],by simp +decide only [go_sem,hsz,e4],by simp +decide only [go_sem,hsz],?_⟩ (by omega)
      intro i hi
      by_cases hij:i=j
      ·subst hij
       rw [hx]
       intro hh
       cases hh
       exact hxc rfl
      ·exact hno i (by omega)
    ·have i2:IntKind.i64.wrap ((k:Int)+1)=((k+1:Nat):Int):=by rw [wrap_i64 (by omega) (by omega)];omega
     simp +decide only [go_sem,WR,WS,hsz,e0,e3,e4,e5,hjn,i2]
     refine next (k+1) _ _ ⟨by omega,by omega,by simp +decide only [go_sem,hsz],hxw.trans x1,by simp +decide only [go_sem,hsz,e0],by simp +decide only [go_sem,hsz],?_⟩ (by omega)
     intro i h1 h2
     by_cases hik:i=k
     ·subst hik
      exact elem_not fun q hq=>hno q (by omega)
     ·exact hnot i h1 (by omega)
  ·have:k=9:=by omega
   subst this
   simp +decide only [go_sem,WR,WS,hsz,e0,e3,hk]
   rw [kind_none hl hd hnot]
   rfl
theorem rword_run (c:Int) (h:Heap):Runs K 99 #[.int .i32 c] h fun r _=>r= .bool (isW c):=by
 refine Runs.of Kok (Does.intro rfl (by decide +kernel) Tryz.func99 rfl ?_)
 simp +decide only [go_sem,WR,WS]
 refine W_call Kok (Nat.le_refl _) (rkind_run c h) fun r w x hr=> ?_
 subst hr
 by_cases h2:kindOf c=2
 ·have h2':((kindOf c:Nat):Int)=2:=by omega
  simp +decide only [go_sem,WR,WS,h2']
  simp [isW,h2]
 ·have h2':¬ ((kindOf c:Nat):Int)=2:=by omega
  by_cases a1:48≤c
  ·simp +decide only [go_sem,WR,WS,h2',a1]
   simp [isW,h2,isD,a1]
  ·simp +decide only [go_sem,WR,WS,h2',a1]
   simp [isW,h2,isD,a1]
theorem rname_run (l:List Int) {v:Value} (h:Heap) (t:Tx h v l) (hm:l.length≤1099511627776):Runs K 78 #[v] h fun r _=>r= .bool (nameOK l):=by
 obtain ⟨a,c,rfl⟩:=t.open
 refine Runs.of Kok (Does.intro rfl (by decide +kernel) Tryz.func78 rfl ?_)
 simp +decide only [go_sem,WR,WS]
 refine W_loop (α:=Nat) (fun i e w=>i≤l.length∧e.size=31∧Ext h w∧e.get 0= .slice a l.length c∧e.get 3= .int .i64 (i:Int)∧(l.take i).all isW=true) (fun i=>l.length - i) 0 ?_ ?_
 ·exact ⟨Nat.zero_le _,by simp +decide only [go_sem],Ext.refl _,by simp +decide only [go_sem],by simp +decide only [go_sem];rfl,by simp⟩
 ·rintro i e w ⟨hi,hsz,hxw,e0,e3,hall⟩ next
  by_cases hil:(i:Int) < ((l.length:Nat):Int)
  ·obtain ⟨y,hy⟩:∃ y,l[i]? =some y:=⟨_,List.getElem?_eq_getElem (by omega)⟩
   obtain ⟨b,o,cs,q1,q2,q3,q4⟩:=(t.ext hxw).one hy
   cases q1
   have i0:(0:Int)≤(i:Int):=by omega
   simp +decide only [go_sem,WR,WS,hsz,e0,e3,hil,i0,Int.toNat_natCast,Nat.mul_one,q3,q4]
   refine W_call Kok hxw.1 (rword_run y w) fun r w1 x1 hr=> ?_
   subst hr
   have i2:IntKind.i64.wrap ((i:Int)+1)=((i+1:Nat):Int):=by rw [wrap_i64 (by omega) (by omega)];omega
   cases hyw:isW y with
   | true =>
     simp +decide only [go_sem,WR,WS,hsz,e0,e3,hyw,i2]
     refine next (i+1) _ _ ⟨by omega,by simp +decide only [go_sem,hsz],hxw.trans x1,by simp +decide only [go_sem,hsz,e0],by simp +decide only [go_sem,hsz],?_⟩ (by omega)
     obtain ⟨hg,hyg⟩:=List.getElem?_eq_some_iff.1 hy
     rw [List.take_succ_eq_append_getElem hg,hyg,List.all_append,hall]
     simp [hyw]
   | false =>
     have:nameOK l=false:=by
      have h1:l.all isW=false:=by
       rw [List.all_eq_false]
       exact ⟨y,List.mem_of_getElem? hy,by simp [hyw]⟩
      simp [nameOK,h1]
     simp +decide only [go_sem,WR,WS,hsz,e0,e3,hyw,this]
  ·have hall':l.all isW=true:=by rw [List.take_of_length_le (by omega)] at hall;exact hall
   by_cases h1:(1:Int)≤((l.length:Nat):Int)
   case neg =>
    have h1':¬ 1≤l.length:=by omega
    simp +decide only [go_sem,WR,WS,hsz,e0,e3,hil,h1]
    simp [nameOK,h1']
   by_cases h24:((l.length:Nat):Int)≤24
   case neg =>
    have h1':¬ l.length≤24:=by omega
    simp +decide only [go_sem,WR,WS,hsz,e0,e3,hil,h1,h24]
    simp [nameOK,h1']
   obtain ⟨y,hy⟩:∃ y,l[0]? =some y:=⟨_,List.getElem?_eq_getElem (by omega)⟩
   obtain ⟨b,o,cs,q1,q2,q3,q4⟩:=(t.ext hxw).one hy
   cases q1
   have q4':cs[o]? =some (.int .i32 y):=q4
   have p0:(0:Int) < ((l.length:Nat):Int):=by omega
   simp +decide only [go_sem,WR,WS,hsz,e0,e3,hil,h1,h24,p0,q3,q4']
   refine W_call Kok hxw.1 (rkind_run y w) fun r w1 x1 hr=> ?_
   subst hr
   simp +decide only [go_sem,WR,WS,hsz]
   have n1:1≤l.length:=by omega
   have n2:l.length≤24:=by omega
   have n3:decide (((kindOf y:Nat):Int)=2)=decide (kindOf y=2):=decide_eq_decide.2 (by omega)
   simp only [nameOK,hy,n1,n2,hall',n3,decide_true,Bool.true_and,Bool.and_true]
theorem rblanks_run (l:List Int) (i:Nat) {v:Value} (h:Heap) (t:Tx h v l) (hm:l.length≤1099511627776) (hi:i≤l.length) :
  Runs K 45 #[v,.int .i64 (i:Int)] h fun r w=>r= .int .i64 ((i+blanks (l.drop i):Nat):Int)∧w=h:=by
 obtain ⟨a,c,rfl⟩:=t.open
 refine Runs.of Kok (Does.intro rfl (by decide +kernel) Tryz.func45 rfl ?_)
 obtain ⟨D,hD⟩:∃ D,D=blanks (l.drop i):=⟨_,rfl⟩
 rw [← hD]
 have hDl:i+D≤l.length:=by
  have:=tw_le (p:=fun c=>decide (c=32)) (l.drop i)
  rw [List.length_drop] at this
  rw [hD]
  unfold blanks
  omega
 simp +decide only [go_sem,WR,WS]
 refine W_loop (α:=Nat) (fun k e w=>k≤D∧e.size=19∧w=h∧e.get 0= .slice a l.length c∧e.get 1= .int .i64 ((i+k:Nat):Int)) (fun k=>D - k) 0 ?_ ?_
 ·exact ⟨Nat.zero_le _,by simp +decide only [go_sem],rfl,by simp +decide only [go_sem],by simp +decide only [go_sem,Nat.add_zero]⟩
 ·rintro k e w ⟨hk,hsz,rfl,e0,e1⟩ next
  have i2:IntKind.i64.wrap (((i+k:Nat):Int)+1)=((i+(k+1):Nat):Int):=by rw [wrap_i64 (by omega) (by omega)];omega
  have i0:(0:Int)≤((i+k:Nat):Int):=by omega
  by_cases hkl:k < D
  ·obtain ⟨x,hx,hdx⟩:=tw_lt (p:=fun c=>decide (c=32)) (l:=l.drop i) (k:=k) (by rw [hD] at hkl;exact hkl)
   rw [List.getElem?_drop] at hx
   have hx32:x=32:=by simpa using hdx
   have hil':((i+k:Nat):Int) < ((l.length:Nat):Int):=by omega
   obtain ⟨b,o,cs,q1,q2,q3,q4⟩:=t.one hx
   cases q1
   simp +decide only [go_sem,WR,WS,hsz,e0,e1,hil',i0,Int.toNat_natCast,Nat.mul_one,q3,q4,hx32,i2]
   exact next (k+1) _ _ ⟨by omega,by simp +decide only [go_sem,hsz],rfl,by simp +decide only [go_sem,hsz,e0],by simp +decide only [go_sem,hsz]⟩ (by omega)
  ·have hkD:k=D:=by omega
   subst hkD
   by_cases hil:((i+k:Nat):Int) < ((l.length:Nat):Int)
   case neg =>
    simp +decide only [go_sem,WR,WS,hsz,e0,e1,hil]
   obtain ⟨x,hx⟩:∃ x,l[i+k]? =some x:=⟨_,List.getElem?_eq_getElem (by omega)⟩
   have hdx:¬ x=32:=by
    have:=tw_end (p:=fun c=>decide (c=32)) (l:=l.drop i) (c:=x) (by rw [List.getElem?_drop,← hx,hD];rfl)
    simpa using this
   obtain ⟨b,o,cs,q1,q2,q3,q4⟩:=t.one hx
   cases q1
   simp +decide only [go_sem,WR,WS,hsz,e0,e1,hil,i0,Int.toNat_natCast,Nat.mul_one,q3,q4,hdx]
theorem rword22_run (l:List Int) (i:Nat) {v:Value} (h:Heap) (t:Tx h v l) (hne:l≠[]) (hm:l.length≤1099511627776) (hi:i≤l.length) :
  Runs K 77 #[v,.int .i64 (i:Int)] h fun r w=>Tx w r ((l.drop i).takeWhile isW)∧∃ a,r= .slice a ((l.drop i).takeWhile isW).length big:=by
 obtain ⟨a,c,rfl⟩:=t.open
 refine Runs.of Kok (Does.intro rfl (by decide +kernel) Tryz.func77 rfl ?_)
 obtain ⟨D,hD⟩:∃ D,D=(l.drop i).takeWhile isW:=⟨_,rfl⟩
 rw [← hD]
 have hDl:i+D.length≤l.length:=by
  have:=tw_le (p:=isW) (l.drop i)
  rw [List.length_drop,← hD] at this
  omega
 simp +decide only [go_sem,WR,WS]
 refine W_loop (α:=Nat) (fun k e w=>k≤D.length∧e.size=24∧Ext h w∧e.get 0= .slice a l.length c∧e.get 1= .int .i64 (i:Int)∧e.get 5= .int .i64 ((i+k:Nat):Int)) (fun k=>D.length - k) 0 ?_ ?_
 ·exact ⟨Nat.zero_le _,by simp +decide only [go_sem],Ext.refl h,by simp +decide only [go_sem],by simp +decide only [go_sem],by simp +decide only [go_sem,Nat.add_zero]⟩
 ·rintro k e w ⟨hk,hsz,hxw,e0,e1,e5⟩ next
  have i2:IntKind.i64.wrap (((i+k:Nat):Int)+1)=((i+(k+1):Nat):Int):=by rw [wrap_i64 (by omega) (by omega)];omega
  have i0:(0:Int)≤((i+k:Nat):Int):=by omega
  by_cases hkl:k < D.length
  ·obtain ⟨x,hx,hdx⟩:=tw_lt (p:=isW) (l:=l.drop i) (k:=k) (by rw [← hD];exact hkl)
   rw [List.getElem?_drop] at hx
   have hil':((i+k:Nat):Int) < ((l.length:Nat):Int):=by omega
   obtain ⟨b,o,cs,q1,q2,q3,q4⟩:=(t.ext hxw).one hx
   cases q1
   simp +decide only [go_sem,WR,WS,hsz,e0,e1,e5,hil',i0,Int.toNat_natCast,Nat.mul_one,q3,q4]
   refine W_call Kok hxw.1 (rword_run x w) fun r w2 x2 hr=> ?_
   subst hr
   simp +decide only [go_sem,WR,WS,hsz,e0,e1,e5,hdx,i2]
   exact next (k+1) _ _ ⟨by omega,by simp +decide only [go_sem,hsz],hxw.trans x2,by simp +decide only [go_sem,hsz,e0],by simp +decide only [go_sem,hsz,e1],by simp +decide only [go_sem,hsz]⟩ (by omega)
  ·have hkD:k=D.length:=by omega
   subst hkD
   have hcut:(l.drop i).take (i+D.length - i)=D:=by
    rw [Nat.add_sub_cancel_left]
    have:=tw_take (p:=isW) (l.drop i)
    rw [← hD] at this
    exact this
   by_cases hil:((i+D.length:Nat):Int) < ((l.length:Nat):Int)
   case neg =>
    obtain ⟨a',c1,c2,c3⟩:=(t.ext hxw).cut hne (lo:=i) (hi:=i+D.length) (by omega) hDl
    rw [hcut] at c2
    simp +decide only [go_sem,WR,WS,hsz,e0,e1,e5,hil,c1]
    rw [Nat.add_sub_cancel_left] at c2 ⊢
    exact ⟨c2,_,rfl⟩
   obtain ⟨x,hx⟩:∃ x,l[i+D.length]? =some x:=⟨_,List.getElem?_eq_getElem (by omega)⟩
   have hdx:isW x=false:=by
    refine tw_end (l:=l.drop i) ?_
    rw [List.getElem?_drop,← hD]
    exact hx
   obtain ⟨b,o,cs,q1,q2,q3,q4⟩:=(t.ext hxw).one hx
   cases q1
   simp +decide only [go_sem,WR,WS,hsz,e0,e1,e5,hil,i0,Int.toNat_natCast,Nat.mul_one,q3,q4]
   refine W_call Kok hxw.1 (rword_run x w) fun r w2 x2 hr=> ?_
   subst hr
   obtain ⟨a',c1,c2,c3⟩:=(t.ext (hxw.trans x2)).cut hne (lo:=i) (hi:=i+D.length) (by omega) hDl
   rw [hcut] at c2
   simp +decide only [go_sem,WR,WS,hsz,e0,e1,e5,hdx,c1]
   rw [Nat.add_sub_cancel_left] at c2 ⊢
   exact ⟨c2,_,rfl⟩
end Go.Proofs.YtjlaenglmdpboaaGreat.R7
namespace Go.Im
theorem field_app {h w:Heap} (x:Ext h w) {size bytes:Nat} {v:Value} {n k q e:Nat} {xs new C:List Value} (H:Own h.size w size v n xs) (hq:h.size≤q) (hqw:q < w.size) (hg:w.get q= .cells C e) (he:e≠size) (hs:0 < size) (hk:0 < k) (hn:new.length=k*size)
  (hb:2*(n+k)*bytes≤140737488355328) (hc:n+k≤4611686018427387904) (f:Value→List Value) :
  ∃ w1 w2,iapp h.size w size bytes v k (some new)=some (.slice (some ⟨w.size,0,none⟩) (n+k) big,w1)∧w1.get q= .cells C e∧w1.size=w.size+1∧w1.set q (.cells (f (.slice (some ⟨w.size,0,none⟩) (n+k) big)) e)=w2∧Ext h w2∧w2.size=w.size+1 ∧
    w2.get q= .cells (f (.slice (some ⟨w.size,0,none⟩) (n+k) big)) e∧Own h.size w2 size (.slice (some ⟨w.size,0,none⟩) (n+k) big) (n+k) (xs++new)∧∀ b,b < w.size→b≠q→vblk v≠some b→w2.get b=w.get b:=by
 obtain ⟨w1,h1,h2,h3,h4⟩:=own_app H x.1 hs hk hn hb hc
 have h5:w1.get q= .cells C e:=(h4 q hqw (H.ne hg he)).trans hg
 have x1:Ext h w1:=by
  refine ⟨by have:=x.1;omega,fun b hb=> ?_⟩
  rw [h4 b (by have:=x.1;omega),x.2 b hb]
  rcases H with ⟨rfl,_,_⟩ | ⟨b',rfl,hlo,_,_,_⟩
  ·simp [vblk]
  ·intro hh
   simp only [vblk,Option.some.injEq] at hh
   omega
 obtain ⟨w2,e2,x2,hs2,g2,k2⟩:=put1 x1 hq (.cells (f (.slice (some ⟨w.size,0,none⟩) (n+k) big)) e)
 refine ⟨w1,w2,h1,h5,h3,e2,x2,by omega,g2,?_,fun b hb hbq hv=>(k2 b hbq).trans (h4 b hb hv)⟩
 rcases h2 with ⟨hh,_⟩ | ⟨b,hh,h6,h7,h8,h9⟩
 ·cases hh
 ·cases hh
  exact .inr ⟨w.size,rfl,h6,by omega,by rw [k2 _ (by omega)];exact h8,h9⟩
end Go.Im
namespace Go.Proofs.YtjlaenglmdpboaaGreat.R8
open Go Go.Im Go.Im.Limbs Go.Im.Lexing Go.Im.Dec Go.Proofs Go.RowKit Hd N16 N18 N20 N22 R5 R6 R7
set_option maxRecDepth 100000
def Arr4 (l:List Value):Prop:=∃ a n c b a2 n2 c2 a3 n3 c3,l=[.slice a n c,.bool b,.slice a2 n2 c2,.slice a3 n3 c3]
end Go.Proofs.YtjlaenglmdpboaaGreat.R8
namespace Go.Im
theorem Tx.isl {h:Heap} {a:Option Addr} {n c:Nat} {l:List Int} (t:Tx h (.slice a n c) l) (hne:l≠[]):islice h 1 (.slice a n c)=some (rv l):=by
 rcases t with ⟨h0,_⟩ | ⟨b,o,cs,e1,e2,e3,e4,e5⟩
 ·exact absurd h0 hne
 ·cases e1
  simp only [islice,Heap.look,e3]
  rw [if_pos ⟨trivial,by omega⟩,e5,Nat.mul_one]
end Go.Im
namespace Go.Proofs.YtjlaenglmdpboaaGreat.R9
open Go Go.Im Go.Im.Limbs Go.Im.Lexing Go.Im.Dec Go.Proofs Go.RowKit Hd N16 N18 N19 N20 N22 N23 R5 R6 R7 R8
set_option maxRecDepth 100000
theorem word_len (l:List Int) {i:Nat} (h:i≤l.length):i+((l.drop i).takeWhile isW).length≤l.length:=by
 have:=tw_le (p:=isW) (l.drop i)
 rw [List.length_drop] at this
 omega
theorem lexF_blanks:∀ (k f p:Nat) {s:List Int},k=blanks s→lexF (f+k) p s=lexF f (p+k) (s.drop k)
 | 0,f,p,s,_=>by simp
 | k+1,f,p,[],h=>by simp [blanks] at h
 | k+1,f,p,c::s,h=>by
   by_cases hc:c=32
   ·subst hc
    have h':k=blanks s:=by
     simp only [blanks,List.takeWhile_cons,decide_true,if_true,List.length_cons] at h
     unfold blanks
     omega
    have e1:tokS (32::s)=some (none,1):=by rw [tokS_cons,if_pos kindOf_32]
    have h9:¬ (32:Int)=9053:=by omega
    rw [show f+(k+1)=(f+k)+1 by omega,lexF_s,if_neg h9,e1]
    simp only [List.drop_succ_cons,List.drop_zero]
    rw [lexF_blanks k f (p+1) h',show p+1+k=p+(k+1) by omega]
   ·have:blanks (c::s)=0:=by simp [blanks,List.takeWhile_cons,hc]
    omega
end Go.Proofs.YtjlaenglmdpboaaGreat.R9
