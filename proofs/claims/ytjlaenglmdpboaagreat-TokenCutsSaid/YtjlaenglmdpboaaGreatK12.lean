/- Proved here: parts of the way to CTokenCuts (CV2 CN20 CN21 CN22 CN23 CN24 CN25 CN26 CP1 CV20); no condition beyond those that each theorem names. -/
import Derived.Test.YtjlaenglmdpboaaGreatK11
import Derived.Test.YtjlaenglmdpboaaGreatK10
set_option linter.unusedSimpArgs false
set_option linter.unusedVariables false
namespace Go.Im.Lexing
open Go.Proofs.YtjlaenglmdpboaaGreat.N14
def ratM (x:Bool × Nat × Int):Nat:=scM x.2.1 x.2.2
def ratS (x:Bool × Nat × Int):Bool:=x.1 && decide (x.2.1≠0)
def ratK (x:Bool × Nat × Int):Nat:=scK x.2.1 x.2.2
end Go.Im.Lexing
namespace Go.Proofs.YtjlaenglmdpboaaGreat.V2
open Go Go.Im Go.Im.Limbs Go.Im.Lexing Go.Im.Dec Go.Proofs Go.RowKit Hd N1 N10 N11 N12 N13 N14 N15 N16 N17
set_option maxRecDepth 100000
theorem expo_val (l:List Int) (i:Nat) {v:Value} (h:Heap) (t:Tx h v l) (hne:l≠[]) (hm:l.length≤1099511627776) (hi':i≤l.length) :
  Runs K 118 #[v,.int .i64 (i:Int)] h fun r _=>(expoS (l.drop i)=none∧∃ x y,r= .tuple #[.int .i64 x,.int .i64 y,.bool false]) ∨
   ∃ k,expoS (l.drop i)=some k∧i+k≤l.length∧ -999≤expoN (l.drop i)∧expoN (l.drop i)≤999∧r= .tuple #[.int .i64 (expoN (l.drop i)),.int .i64 ((i+k:Nat):Int),.bool true]:=by
 obtain ⟨a,c,rfl⟩:=t.open
 refine Runs.of Kok (Does.intro rfl (by decide +kernel) Tryz.func118 rfl ?_)
 have i0:(0:Int)≤(i:Int):=by omega
 by_cases hil:((l.length:Nat):Int)≤(i:Int)
 ·have:expoS (l.drop i)=some 0:=by
   rw [List.drop_of_length_le (by omega)]
   rfl
  have hn0:expoN (l.drop i)=0:=by
   rw [List.drop_of_length_le (by omega)]
   rfl
  simp +decide only [go_sem,WR,WS,hil]
  exact .inr ⟨0,this,by omega,by rw [hn0];omega,by rw [hn0];omega,by rw [hn0];rfl⟩
 have hil':(i:Int) < ((l.length:Nat):Int):=by omega
 obtain ⟨x,hx⟩:∃ x,l[i]? =some x:=⟨_,List.getElem?_eq_getElem (by omega)⟩
 obtain ⟨b,o,cs,q1,q2,q3,q4⟩:=t.one hx
 cases q1
 have b0:(l.drop i)[0]? =some x:=by rw [List.getElem?_drop];exact hx
 by_cases h69:x=69
 case neg =>
  have:expoS (l.drop i)=some 0:=by
   unfold expoS
   rw [b0,if_neg (by simpa using h69)]
  have hn0:expoN (l.drop i)=0:=by
   unfold expoN
   rw [b0,if_neg (by simpa using h69)]
  simp +decide only [go_sem,WR,WS,hil,hil',i0,Int.toNat_natCast,Nat.mul_one,q3,q4,h69]
  exact .inr ⟨0,this,by omega,by rw [hn0];omega,by rw [hn0];omega,by rw [hn0];rfl⟩
 subst h69
 have i1:IntKind.i64.wrap ((i:Int)+1)=((i+1:Nat):Int):=by rw [wrap_i64 (by omega) (by omega)];omega
 obtain ⟨neg,hneg⟩:∃ neg,neg=decide (l[i+1]? =some 175):=⟨_,rfl⟩
 obtain ⟨A,hA⟩:∃ A,A=i+1+(if neg then 1 else 0):=⟨_,rfl⟩
 have hiA:hi (l.drop (i+1))=(if neg then 1 else 0):=by
  rw [hi_drop,hneg]
  simp
 have hAl:A≤l.length:=by
  have:=hi_len (l:=l) (i:=i+1) (by omega)
  rw [hiA] at this
  omega
 obtain ⟨D,hD⟩:∃ D,D=digs (l.drop A):=⟨_,rfl⟩
 have hAD:A+D.length≤l.length:=by rw [hD];exact digs_len hAl
 have hexp:expoS (l.drop i)=if D.length=0∨3 < D.length then none else some (A - i+D.length):=by
  have e1:1+hi ((l.drop i).drop 1)=A - i:=by rw [List.drop_drop,hiA];omega
  unfold expoS
  rw [b0,if_pos rfl,e1,List.drop_drop,show i+(A - i)=A by omega,← hD]
 have hexpN:expoN (l.drop i)=if neg then - ((dec (dbs D):Nat):Int) else ((dec (dbs D):Nat):Int):=by
  have e1:1+hi ((l.drop i).drop 1)=A - i:=by rw [List.drop_drop,hiA];omega
  unfold expoN
  rw [b0,if_pos rfl,e1,List.drop_drop,List.drop_drop,show i+(A - i)=A by omega,← hD,hiA]
  cases neg<;>rfl
 rw [hexp,hexpN]
 simp +decide only [go_sem,WS]
 (rw [WR];simp +decide only [go_sem,WS])
 (rw [WR];simp +decide only [go_sem,WS,hil,hil',i0,Int.toNat_natCast,Nat.mul_one,q3,q4])
 (rw [WR];simp +decide only [go_sem,WS,i1])
 refine W_cut (J:=fun e w=>e.size=73∧e.get 0= .slice (some ⟨b,o,none⟩) l.length big∧e.get 1= .int .i64 ((i+1:Nat):Int)∧e.get 7= .bool neg∧w=h) (by simp only [straight,KD];rfl) ?_ ?_
 ·by_cases hl1:((i+1:Nat):Int) < ((l.length:Nat):Int)
  case neg =>
   have:neg=false:=by
    rw [hneg,List.getElem?_eq_none (by omega)]
    rfl
   simp +decide only [go_sem,WR,WS,hl1,this]
  obtain ⟨y,hy⟩:∃ y,l[i+1]? =some y:=⟨_,List.getElem?_eq_getElem (by omega)⟩
  obtain ⟨b',o',cs',p1,p2,p3,p4⟩:=t.one hy
  cases p1
  rw [q3] at p3
  cases p3
  have i2:(0:Int)≤((i+1:Nat):Int):=by omega
  have:neg=decide (y=175):=by rw [hneg,hy];simp
  simp +decide only [go_sem,WR,WS,hl1,i2,Int.toNat_natCast,Nat.mul_one,q3,p4,this]
 rintro e w ⟨hsz,e0,e1,e7,rfl⟩
 simp +decide only [go_sem,WS]
 (rw [WR];simp +decide only [go_sem,WS,hsz,e0,e1,e7])
 refine Wc_cut (J:=fun e w'=>e.size=73∧e.get 0= .slice (some ⟨b,o,none⟩) l.length big∧e.get 1= .int .i64 (A:Int)∧e.get 7= .bool neg∧w'=w) (by simp only [straight,KD];rfl) rfl ?_ ?_ ?_
 ·intro hn
  have i2:IntKind.i64.wrap (((i+1:Nat):Int)+1)=(A:Int):=by rw [wrap_i64 (by omega) (by omega),hA,hn];simp
  simp +decide only [go_sem,WR,WS,hsz,e0,e1,e7,i2]
 ·intro hn
  have i2:((i+1:Nat):Int)=(A:Int):=by rw [hA,hn];simp
  simp +decide only [go_sem,WR,WS,hsz,e0,e1,e7,i2]
 rintro e w' ⟨hsz,e0,e1,e7,rfl⟩
 simp +decide only [go_sem,WR,WS,hsz,e0,e1]
 refine W_call Kok (Nat.le_refl _) (digits_run l A _ t hne hm hAl) fun r w x1 hr=> ?_
 subst hr
 rw [← hD]
 by_cases hD0:D.length=0
 ·have hDn:D=[]:=List.eq_nil_of_length_eq_zero hD0
  subst hDn
  have c0:text (dbs [])=⟨#[]⟩:=rfl
  simp +decide only [go_sem,WR,WS,hsz,e0,e1,e7,c0]
  simp
 have c0:¬ text (dbs D)=⟨#[]⟩:=by
  intro hh
  have:=congrArg ByteArray.size hh
  rw [text_size,dbs_length] at this
  exact hD0 this
 by_cases hD3:(3:Int) < ((D.length:Nat):Int)
 ·simp +decide only [go_sem,WR,WS,hsz,e0,e1,e7,c0,dbs_length,hD3]
  exact .inl ⟨by rw [if_pos (.inr (by omega))],_,_,rfl⟩
 rw [if_neg (by omega)]
 obtain ⟨w2,e2',x2,hs2,z2⟩:=lay1 w (.cells (byteCells (dbs D)) 1)
 simp +decide only [go_sem,WR,WS,hsz,e0,e1,e7,c0,dbs_length,hD3,e2']
 refine W_loop (α:=Nat × Nat) (fun k e w'=>k.1≤D.length∧e.size=73∧w'=w2∧e.get 7= .bool neg∧e.get 9= .int .i64 ((A+D.length:Nat):Int)∧e.get 10= .int .i64 (k.2:Int)∧k.2 < 10 ^ k.1∧k.2=dec ((dbs D).take k.1)∧e.get 55= .slice (some ⟨w.size,0,none⟩) D.length big∧e.get 56= .int .i64 ((D.length:Nat):Int)∧e.get 57= .int .i64 (k.1:Int)) (fun k=>D.length - k.1) (0,0) ?_ ?_
 ·exact ⟨Nat.zero_le _,by simp +decide only [go_sem,hsz],rfl,by simp +decide only [go_sem,hsz,e7],by simp +decide only [go_sem,hsz],by simp +decide only [go_sem,hsz];rfl,by simp,by simp [dec_nil],by simp +decide only [go_sem,hsz],by simp +decide only [go_sem,hsz],by simp +decide only [go_sem,hsz];rfl⟩
 ·rintro ⟨k,n⟩ e w' ⟨hk,hsz,rfl,e7,e9,e10,hn,hnv,e55,e56,e57⟩ next
  simp only at hk e10 hn e57 hnv
  have hpk:10 ^ k≤10 ^ 3:=Nat.pow_le_pow_right (by omega) (by omega)
  by_cases hkn:(k:Int) < ((D.length:Nat):Int)
  ·obtain ⟨u,hu⟩:∃ u,(dbs D)[k]? =some u:=⟨_,List.getElem?_eq_getElem (by rw [dbs_length];omega)⟩
   have hud:48≤u.toNat∧u.toNat≤57:=by
    have:=digs_Digs (l.drop A)
    rw [← hD] at this
    exact this u (List.mem_of_getElem? hu)
   have hbc:(byteCells (dbs D))[k]? =some (.int .u8 u.toNat):=by simp [byteCells,hu]
   have l3:(0:Int)≤(k:Int):=by omega
   have m1:IntKind.i64.wrap (10*(n:Int))=((10*n:Nat):Int):=by rw [wrap_i64 (by omega) (by omega)];omega
   have m3:IntKind.u8.wrap (((u.toNat:Nat):Int) - 48)=((u.toNat - 48:Nat):Int):=by rw [wrap_u8 (by omega) (by omega)];omega
   have m5:IntKind.i64.wrap (((u.toNat - 48:Nat):Int))=((u.toNat - 48:Nat):Int):=by rw [wrap_i64 (by omega) (by omega)]
   have m4:IntKind.i64.wrap (((10*n:Nat):Int)+((u.toNat - 48:Nat):Int))=((10*n+(u.toNat - 48):Nat):Int):=by rw [wrap_i64 (by omega) (by omega)];omega
   have i5:IntKind.i64.wrap ((k:Int)+1)=((k+1:Nat):Int):=by rw [wrap_i64 (by omega) (by omega)];omega
   simp +decide only [go_sem,WR,WS,hsz,e7,e9,e10,e55,e56,e57,hkn,l3,Int.toNat_natCast,z2,hbc,m1,m3,m5,m4,i5]
   refine next (k+1,10*n+(u.toNat - 48)) _ _ ⟨by simp only;omega,by simp +decide only [go_sem,hsz],rfl,by simp +decide only [go_sem,hsz,e7],by simp +decide only [go_sem,hsz,e9],by simp +decide only [go_sem,hsz],?_,?_,by simp +decide only [go_sem,hsz,e55],by simp +decide only [go_sem,hsz,e56],by simp +decide only [go_sem,hsz]⟩ (by simp only;omega)
   ·simp only
    rw [Nat.pow_succ]
    omega
   ·simp only
    rw [List.take_add_one,hu]
    show _=dec (_++[u])
    rw [dec_snoc,← hnv]
    omega
  ·have hn3:n < 1000:=by omega
   have hnd:n=dec (dbs D):=by rw [hnv,List.take_of_length_le (by rw [dbs_length];omega)]
   simp +decide only [go_sem,WR,WS,hsz,e7,e9,e10,e55,e56,e57,hkn]
   refine Wc_cut (J:=fun e w'=>∃ z:Int, -999≤z∧z≤999∧z=(if neg then - ((dec (dbs D):Nat):Int) else ((dec (dbs D):Nat):Int))∧e.size=73∧e.get 9= .int .i64 ((A+D.length:Nat):Int)∧e.get 10= .int .i64 z) (by simp only [straight,KD];rfl) rfl ?_ ?_ ?_
   ·intro hng
    have m6:IntKind.i64.wrap (- (n:Int))= - (n:Int):=wrap_i64 (by omega) (by omega)
    have m7:IntKind.i64.wrap (0 - (n:Int))= - (n:Int):=by rw [wrap_i64 (by omega) (by omega)];omega
    simp +decide only [go_sem,WR,WS,hsz,e7,e9,e10,m6,m7]
    exact ⟨_,by omega,by omega,by rw [hng,hnd];rfl,rfl⟩
   ·intro hng
    simp +decide only [go_sem,WR,WS,hsz,e7,e9,e10]
    exact ⟨_,by omega,by omega,by rw [hng,hnd];rfl,rfl⟩
   rintro e w ⟨z,z1,z2,z3,hsz,e9,e10⟩
   simp +decide only [go_sem,WR,WS,hsz,e9,e10]
   exact .inr ⟨_,rfl,by omega,by rw [← z3];exact z1,by rw [← z3];exact z2,by rw [← z3,show i+(A - i+D.length)=A+D.length by omega]⟩
set_option maxHeartbeats 4000000 in
theorem read_val (l:List Int) (i:Nat) {v:Value} (h:Heap) (t:Tx h v l) (hne:l≠[]) (hm:l.length≤512) (hi':i≤l.length) (hb:begins (l.drop i)=true) :
  Runs K 89 #[v,.int .i64 (i:Int)] h fun r w=>(readS (l.drop i)=none∧∃ q y m s d,r= .tuple #[q,.int .i64 y,.bool false]∧RatV w q m s d) ∨
   ∃ k q,readS (l.drop i)=some k∧i+k≤l.length∧i < i+k∧r= .tuple #[q,.int .i64 ((i+k:Nat):Int),.bool true]∧RatV w q (ratM (readN (l.drop i))) (ratS (readN (l.drop i))) (ratK (readN (l.drop i))):=by
 obtain ⟨a,c,rfl⟩:=t.open
 refine Runs.of Kok (Does.intro rfl (by decide +kernel) Tryz.func89 rfl ?_)
 have i0:(0:Int)≤(i:Int):=by omega
 obtain ⟨w0,e0',x0,hs0,z0⟩:=lay1 h (.cells [.slice none 0 0,.bool false,.slice none 0 0] 3)
 have t0:=t.ext x0
 have il:i < l.length:=by
  refine Nat.lt_of_not_le fun hh=> ?_
  rw [List.drop_of_length_le hh] at hb
  cases hb
 have il':(i:Int) < ((l.length:Nat):Int):=by omega
 obtain ⟨x,hx⟩:∃ x,l[i]? =some x:=⟨_,List.getElem?_eq_getElem il⟩
 obtain ⟨neg,hneg⟩:∃ neg,neg=decide (l[i]? =some 175):=⟨_,rfl⟩
 obtain ⟨A,hA⟩:∃ A,A=i+(if neg then 1 else 0):=⟨_,rfl⟩
 have hAl:A≤l.length:=by rw [hA];split<;>omega
 obtain ⟨D,hD⟩:∃ D,D=digs (l.drop A):=⟨_,rfl⟩
 obtain ⟨B,hB⟩:∃ B,B=A+D.length:=⟨_,rfl⟩
 have hBl:B≤l.length:=by rw [hB,hD];exact digs_len hAl
 obtain ⟨p,hp⟩:∃ p,p=decide (l[B]? =some 46):=⟨_,rfl⟩
 obtain ⟨T,hT⟩:∃ T,T=if p then digs (l.drop (B+1)) else []:=⟨_,rfl⟩
 obtain ⟨C,hC⟩:∃ C,C=B+if p then 1+T.length else 0:=⟨_,rfl⟩
 have hBp:p=true→B+1≤l.length:=fun hh=>by
  rw [hp,decide_eq_true_eq] at hh
  exact (List.getElem?_eq_some_iff.1 hh).1
 have hCl:C≤l.length:=by
  rw [hC]
  cases hpp:p with
  | false=>simpa using hBl
  | true =>
    rw [hpp] at hT
    have:=digs_len (hBp hpp)
    simp only [if_true] at hT ⊢
    rw [← hT] at this
    omega
 rw [readS_eq hneg hA hD hB hp hT hC,readN_eq hneg hA hD hB hp hT hC]
 simp +decide only [go_sem,WR,WS,e0']
 refine W_call Kok (by omega) (begins_run l i w0 t0 (by omega) (by omega)) fun r w1 x1 hr=> ?_
 rw [hb] at hr
 subst hr
 have h01:=x0.trans x1
 have t1:=t.ext h01
 have z1:w1.get h.size=_:=(x1.2 _ (by omega)).trans z0
 obtain ⟨b,o,cs,q1,q2,q3,q4⟩:=t1.one hx
 cases q1
 have hng:neg=decide (x=175):=by rw [hneg,hx];simp
 simp +decide only [go_sem,WR,WS,il',i0,Int.toNat_natCast,Nat.mul_one,q3,q4,← hng]
 refine Wc_cut (J:=fun e w=>e.size=93∧e.get 0= .slice (some ⟨b,o,none⟩) l.length big∧e.get 1= .int .i64 (A:Int)∧e.get 4= .pointer (some ⟨h.size,0,none⟩)∧e.get 7= .bool neg∧w=w1) (by simp only [straight,KD];rfl) rfl ?_ ?_ ?_
 ·intro hn
  have i2:IntKind.i64.wrap ((i:Int)+1)=(A:Int):=by rw [wrap_i64 (by omega) (by omega),hA,hn];simp
  simp +decide only [go_sem,WR,WS,i2]
 ·intro hn
  have i2:(i:Int)=(A:Int):=by rw [hA,hn];simp
  simp +decide only [go_sem,WR,WS,i2]
 rintro e w ⟨hsz,e0,e1,e4,e7,rfl⟩
 simp +decide only [go_sem,WR,WS,hsz,e0,e1]
 refine W_call Kok (by have:=h01.1;omega) (digits_run l A _ t1 hne (by omega) hAl) fun r w2 x2 hr=> ?_
 subst hr
 rw [← hD,← hB]
 have h02:=h01.trans x2
 have t2:=t.ext h02
 have z2:w2.get h.size=_:=(x2.2 _ (by have:=x1.1;omega)).trans z1
 have i2:(0:Int)≤(B:Int):=by omega
 have hpd:∀ (J:Prop),(p=false→(B:Int) < ((l.length:Nat):Int)→∃ y,l[B]? =some y∧¬ y=46):=by
  intro _ hpf hlt
  obtain ⟨y,hy⟩:∃ y,l[B]? =some y:=⟨_,List.getElem?_eq_getElem (by omega)⟩
  refine ⟨y,hy,?_⟩
  intro hh
  rw [hp,hy,hh] at hpf
  simp at hpf
 apply W_join (α:=Unit) (fun _ e w=>e.size=93∧e.get 0= .slice (some ⟨b,o,none⟩) l.length big∧e.get 1= .int .i64 (C:Int)∧e.get 4= .pointer (some ⟨h.size,0,none⟩)∧e.get 7= .bool neg∧e.get 8= .string (text (dbs D))∧e.get 9= .string (text (dbs T))∧Ext h w∧h.size < w.size∧w.get h.size= .cells [.slice none 0 0,.bool false,.slice none 0 0] 3∧¬ (p=true∧T=[]))
 ·intro cont
  by_cases hpp:p=true
  case neg =>
   have hpp:p=false:=by simpa using hpp
   have hT0:T=[]:=by rw [hT,hpp];rfl
   have hCB:C=B:=by rw [hC,hpp];rfl
   have ct:text (dbs T)=⟨#[]⟩:=by rw [hT0];rfl
   by_cases hlt:(B:Int) < ((l.length:Nat):Int)
   ·obtain ⟨y,hy,hy46⟩:=hpd True hpp hlt
    obtain ⟨b',o',cs',p1,p2,p3,p4⟩:=t2.one hy
    cases p1
    simp +decide only [go_sem,WS,hsz,e0,e1,e4,e7]
    (rw [WR];simp +decide only [go_sem,WS,hsz,e0,e1,e4,e7])
    (rw [WR];simp +decide only [go_sem,WS,hsz,e0,e1,e4,e7,hlt,i2,Int.toNat_natCast,Nat.mul_one,p3,p4,hy46])
    exact cont () _ _ ⟨by simp +decide only [go_sem,hsz],by simp +decide only [go_sem,hsz,e0],by rw [hCB];simp +decide only [go_sem,WR,WS,hsz],by simp +decide only [go_sem,hsz,e4],by simp +decide only [go_sem,hsz,e7],by simp +decide only [go_sem,hsz],by simp +decide only [go_sem,hsz,ct],h02,by have:=h02.1;have:=x1.1;have:=x2.1;omega,z2,by simp [hpp]⟩
   ·simp +decide only [go_sem,WS,hsz,e0,e1,e4,e7]
    (rw [WR];simp +decide only [go_sem,WS,hsz,e0,e1,e4,e7])
    (rw [WR];simp +decide only [go_sem,WS,hsz,e0,e1,e4,e7,hlt])
    exact cont () _ _ ⟨by simp +decide only [go_sem,hsz],by simp +decide only [go_sem,hsz,e0],by rw [hCB];simp +decide only [go_sem,WR,WS,hsz],by simp +decide only [go_sem,hsz,e4],by simp +decide only [go_sem,hsz,e7],by simp +decide only [go_sem,hsz],by simp +decide only [go_sem,hsz,ct],h02,by have:=h02.1;have:=x1.1;have:=x2.1;omega,z2,by simp [hpp]⟩
  have hy:l[B]? =some 46:=by rw [hp,decide_eq_true_eq] at hpp;exact hpp
  have hB1:=hBp hpp
  have hlt:(B:Int) < ((l.length:Nat):Int):=by omega
  rw [hpp] at hT hC
  simp only [if_true] at hT hC
  obtain ⟨b',o',cs',p1,p2,p3,p4⟩:=t2.one hy
  cases p1
  have i3:IntKind.i64.wrap ((B:Int)+1)=((B+1:Nat):Int):=by rw [wrap_i64 (by omega) (by omega)];omega
  simp +decide only [go_sem,WS,hsz,e0,e1,e4,e7]
  (rw [WR];simp +decide only [go_sem,WS,hsz,e0,e1,e4,e7])
  (rw [WR];simp +decide only [go_sem,WS,hsz,e0,e1,e4,e7,hlt,i2,Int.toNat_natCast,Nat.mul_one,p3,p4])
  (rw [WR];simp +decide only [go_sem,WS,hsz,e0,e1,e4,e7,i3])
  refine W_call Kok (by have:=h02.1;omega) (digits_run l (B+1) _ t2 hne (by omega) hB1) fun r w3 x3 hr=> ?_
  subst hr
  have h03:=h02.trans x3
  have z3:w3.get h.size=_:=(x3.2 _ (by have:=x1.1;have:=x2.1;omega)).trans z2
  rw [← hT,show B+1+T.length=C by omega]
  by_cases hT0:T=[]
  ·have c0:text (dbs T)=⟨#[]⟩:=by rw [hT0];rfl
   have jj:h.size≤h.size:=Nat.le_refl _
   obtain ⟨wd,ed,xd,hsd,gd,kd⟩:=put1 h03 jj (.cells [.slice none 0 0,.bool false,.slice none 0 0] 3)
   simp +decide only [go_sem,WR,WS,hsz,e0,e1,e4,e7,c0,z3,ed,gd]
   refine .inl ⟨by rw [if_pos ⟨hpp,hT0⟩],_,_,0,false,0,rfl,⟨_,_,rfl,NatV.zero _,NatV.zero _⟩⟩
  ·have c0:¬ text (dbs T)=⟨#[]⟩:=by
    intro hh
    have:=congrArg ByteArray.size hh
    rw [text_size,dbs_length] at this
    exact hT0 (List.eq_nil_of_length_eq_zero this)
   simp +decide only [go_sem,WS,hsz,e0,e1,e4,e7]
   (rw [WR];simp +decide only [go_sem,WS,hsz,e0,e1,e4,e7,c0])
   exact cont () _ _ ⟨by simp +decide only [go_sem,hsz],by simp +decide only [go_sem,hsz,e0],by simp +decide only [go_sem,hsz],by simp +decide only [go_sem,hsz,e4],by simp +decide only [go_sem,hsz,e7],by simp +decide only [go_sem,hsz],by simp +decide only [go_sem,hsz],h03,by have:=h03.1;have:=x1.1;have:=x2.1;have:=x3.1;omega,z3,by simp [hT0]⟩
 rintro _ e w ⟨hsz,e0,e1,e4,e7,e8,e9,hxw,hws,gw,hpT⟩
 rw [if_neg hpT]
 have t3:=t.ext hxw
 simp +decide only [go_sem,WR,WS,hsz,e0,e1]
 refine W_call Kok hxw.1 (expo_val l C _ t3 hne (by omega) hCl) fun r w4 x4 hr=> ?_
 have h04:=hxw.trans x4
 have gw4:w4.get h.size=_:=(x4.2 _ hws).trans gw
 have hDT:Digs (dbs D++dbs T):=by
  intro u hu
  rcases List.mem_append.1 hu with hu | hu
  ·exact digs_Digs (l.drop A) u (by rw [← hD];exact hu)
  ·rw [hT] at hu
   split at hu
   ·exact digs_Digs _ u hu
   ·cases hu
 have hDTl:(dbs D++dbs T).length=D.length+T.length:=by rw [List.length_append,dbs_length,dbs_length]
 have hDl:D.length≤512:=by omega
 have hTl:T.length≤512:=by
  rw [hT]
  split
  ·rename_i hpp
   have:=digs_len (hBp hpp)
   omega
  ·simp
 have hcat:=ibinop_cat (P:=Tryz.prog) (t:=9) (s:=text (dbs D)) (u:=text (dbs T)) (by rw [text_size,text_size,dbs_length,dbs_length];omega)
 rw [text_append] at hcat
 have hadd:IntKind.i64.wrap (((D.length:Nat):Int)+((T.length:Nat):Int))=((D.length+T.length:Nat):Int):=by rw [wrap_i64 (by omega) (by omega)];omega
 have jj:h.size≤h.size:=Nat.le_refl _
 rcases hr with ⟨hexp,y1,y2,rfl⟩ | ⟨k,hexp,hk,hn1,hn2,rfl⟩
 ·simp +decide only [go_sem,WR,WS,hsz,e0,e1,e4,e7,e8,e9,hcat]
  refine W_call Kok h04.1 (parse_any _ w4 hDT (by omega)) fun r w5 x5 hr=> ?_
  obtain ⟨an,nn,cn,rfl,hnat⟩:=hr
  have h05:=h04.trans x5
  have gw5:w5.get h.size=_:=(x5.2 _ (by have:=x4.1;omega)).trans gw4
  obtain ⟨w6,e6',x6,hs6,z6⟩:=lay1 w5 (.cells [.slice none 0 0] 1)
  obtain ⟨w7,e7',x7,hs7,z7,k7⟩:=put1 x6 (Nat.le_refl _) (.cells [.slice an nn cn] 1)
  have h07:=h05.trans x7
  have gw7:w7.get h.size=_:=(x7.2 _ (by have:=x4.1;have:=x5.1;omega)).trans gw5
  obtain ⟨wd,ed,xd,hsd,gd,kd⟩:=put1 h07 jj (.cells [.slice none 0 0,.bool false,.slice none 0 0] 3)
  simp +decide only [go_sem,WR,WS,hsz,e0,e1,e4,e7,e8,e9,e6',z6,h05.1,e7',gw7,ed,gd]
  refine .inl ⟨by rw [hexp],_,_,0,false,0,rfl,⟨_,_,rfl,NatV.zero _,NatV.zero _⟩⟩
 rw [hexp]
 obtain ⟨n,hnn⟩:∃ n,n=expoN (l.drop C):=⟨_,rfl⟩
 rw [← hnn] at hn1 hn2 ⊢
 simp only
 simp +decide only [go_sem,WR,WS,hsz,e0,e1,e4,e7,e8,e9,hcat]
 refine W_call Kok h04.1 (parse_any _ w4 hDT (by omega)) fun r w5 x5 hr=> ?_
 obtain ⟨an,nn,cn,rfl,hnat⟩:=hr
 have h05:=h04.trans x5
 have gw5:w5.get h.size=_:=(x5.2 _ (by have:=x4.1;omega)).trans gw4
 obtain ⟨w6,e6',x6,hs6,z6⟩:=lay1 w5 (.cells [.slice none 0 0] 1)
 obtain ⟨w7,e7',x7,hs7,z7,k7⟩:=put1 x6 (Nat.le_refl _) (.cells [.slice an nn cn] 1)
 have h07:=h05.trans x7
 have hs57:w5.size < w7.size:=by omega
 have gw7:w7.get h.size=_:=(x7.2 _ (by have:=x4.1;have:=x5.1;omega)).trans gw5
 obtain ⟨wd,ed,xd,hsd,gd,kd⟩:=put1 h07 jj (.cells [.slice none 0 0,.bool false,.slice none 0 0] 3)
 by_cases hz:D.length+T.length=0
 ·have hz1:dbs D++dbs T=[]:=List.eq_nil_of_length_eq_zero (by omega)
  simp +decide only [go_sem,WR,WS,hsz,e0,e1,e4,e7,e8,e9,e6',z6,h05.1,e7',gw7,ed,gd,hz1]
  refine .inl ⟨by rw [if_pos (.inl hz)],_,_,0,false,0,rfl,⟨_,_,rfl,NatV.zero _,NatV.zero _⟩⟩
 have hz1:dbs D++dbs T≠[]:=by
  intro hh
  rw [hh] at hDTl
  exact hz (by simpa using hDTl.symm)
 by_cases h200:(200:Int) < ((D.length+T.length:Nat):Int)
 ·simp +decide only [go_sem,WR,WS,hsz,e0,e1,e4,e7,e8,e9,e6',z6,h05.1,e7',gw7,ed,gd,hz1,ne_eq,not_false_eq_true,dbs_length,hadd,h200]
  refine .inl ⟨by rw [if_pos (.inr (by omega))],_,_,0,false,0,rfl,⟨_,_,rfl,NatV.zero _,NatV.zero _⟩⟩
 rw [if_neg (by omega)]
 simp +decide only [go_sem,WR,WS,hsz,e0,e1,e4,e7,e8,e9,e6',z6,h05.1,e7',z7,hz1,ne_eq,not_false_eq_true,dbs_length,hadd,h200]
 refine W_call Kok h07.1 (wof_run w7 neg (hnat.ext x7)) fun r w8 x8 hr=> ?_
 simp +decide only [go_sem,WR,WS,hsz]
 refine W_call Kok (by have:=h07.1;have:=x8.1;omega) (whole_run w8 hr) fun r w9 x9 hr=> ?_
 have hsub:IntKind.i64.wrap (n - ((T.length:Nat):Int))=n - ((T.length:Nat):Int):=wrap_i64 (by omega) (by omega)
 simp +decide only [go_sem,WR,WS,hsz,e0,e1,e4,e7,e8,e9,dbs_length,hsub]
 have hdec:(dig (dec (dbs D++dbs T))).length≤100000000:=by
  have:=dig_ten (dec_lt hDT)
  omega
 refine W_call Kok (by have:=h07.1;have:=x8.1;have:=x9.1;omega) (scaled_run w9 hr (by simp) hdec (by omega) (by omega)) fun r w10 x10 hr=> ?_
 obtain ⟨pr,qr,rfl,hpr,hqr⟩:=hr
 obtain ⟨a1,n1,c1,rfl⟩:=natv_slice hpr
 obtain ⟨a2,n2,c2,rfl⟩:=natv_slice hqr
 have h710:=x8.trans (x9.trans x10)
 have h0a:=h07.trans h710
 have gwa:w10.get h.size=_:=(h710.2 _ (by have:=x4.1;have:=x5.1;omega)).trans gw7
 obtain ⟨wd,ed,xd,hsd,gd,kd⟩:=put1 h0a jj (.cells [.slice a1 n1 c1,.bool (neg && decide (dec (dbs D++dbs T)≠0)),.slice a2 n2 c2] 3)
 simp only [ne_eq] at ed gd
 simp +decide only [go_sem,WR,WS,hsz,e0,e1,e4,gwa,ed,gd]
 have hCk:i+(C - i+k)=C+k:=by
  have:i≤C:=by rw [hC,hB,hA];omega
  omega
 refine .inr ⟨_,_,rfl,by omega,?_,by rw [hCk];rfl,⟨_,_,rfl,hpr.over gwa (by rfl) (by rfl) hsd gd kd,hqr.over gwa (by rfl) (by rfl) hsd gd kd⟩⟩
 have:D.length+T.length≤C - i:=by
  rw [hC,hB,hA]
  cases p with
  | false =>
    have:T=[]:=hT
    simp [this]
    omega
  | true=>simp;omega
 omega
end Go.Proofs.YtjlaenglmdpboaaGreat.V2
namespace Go.Proofs.YtjlaenglmdpboaaGreat.N20
open Go Go.Im Go.Im.Limbs Go.Im.Lexing Go.Proofs Go.RowKit Hd N1 N10 N13 N15 N16 N17 N18 N19
set_option maxRecDepth 100000
theorem nameOK_len {w:List Int} (h:nameOK w=true):1≤w.length:=by
 simp only [nameOK,Bool.and_eq_true,decide_eq_true_eq] at h
 exact h.1.1.1
theorem textF_len:∀ {s:List Int} {k:Nat},textF s=some k→1≤k∧k≤s.length:=by
 intro s
 induction s using textF.induct with
 | case1=>intro k h;simp [textF] at h
 | case2 s ih =>
   intro k h
   simp only [textF,Option.map_eq_some_iff] at h
   obtain ⟨m,h1,rfl⟩:=h
   have:=ih h1
   simp only [List.length_cons]
   omega
 | case3 s h' =>
   intro k h
   rw [textF] at h
   ·cases h
    simp
   ·exact h'
 | case4 c s h1 h2 ih =>
   intro k h
   rw [textF] at h
   ·simp only [Option.map_eq_some_iff] at h
    obtain ⟨m,h3,rfl⟩:=h
    have:=ih h3
    simp only [List.length_cons]
    omega
   ·exact h1
   ·exact h2
theorem textF_at (l:List Int) (j:Nat):textF (l.drop j)=match l[j]? with
  | none=>none
  | some c=>if c=39 then (if l[j+1]? =some 39 then (textF (l.drop (j+2))).map (·+2) else some 1) else (textF (l.drop (j+1))).map (·+1):=by
 cases hc:l[j]? with
 | none =>
   rw [List.drop_of_length_le (by simpa using hc)]
   rfl
 | some c =>
   have hj:=(List.getElem?_eq_some_iff.1 hc).1
   have e1:l.drop j=c::l.drop (j+1):=by
    rw [List.drop_eq_getElem_cons hj,(List.getElem?_eq_some_iff.1 hc).2]
   rw [e1]
   simp only
   by_cases h39:c=39
   ·subst h39
    rw [if_pos rfl]
    cases hd:l[j+1]? with
    | none =>
      rw [List.drop_of_length_le (by simpa using hd)]
      rfl
    | some d =>
      have hj2:=(List.getElem?_eq_some_iff.1 hd).1
      have e2:l.drop (j+1)=d::l.drop (j+2):=by
       rw [List.drop_eq_getElem_cons hj2,(List.getElem?_eq_some_iff.1 hd).2]
      rw [e2]
      by_cases h39':d=39
      ·subst h39'
       rw [if_pos rfl]
       rfl
      ·rw [if_neg (by simpa using h39'),textF]
       intro s hs
       simp only [List.cons.injEq] at hs
       exact h39' hs.1
   ·rw [if_neg h39,textF]
    ·intro s hs _
     exact h39 hs
    ·exact h39
end Go.Proofs.YtjlaenglmdpboaaGreat.N20
namespace Go.Proofs.YtjlaenglmdpboaaGreat.N21
open Go Go.Im Go.Im.Limbs Go.Im.Lexing Go.Proofs Go.RowKit Hd N1 N10 N13 N15 N16 N17 N18 N19 N20
set_option maxRecDepth 100000
end Go.Proofs.YtjlaenglmdpboaaGreat.N21
namespace Go.Proofs.YtjlaenglmdpboaaGreat.N22
open Go Go.Im Go.Im.Limbs Go.Im.Lexing Go.Proofs Go.RowKit Hd N1 N10 N13 N15 N16 N17 N18 N19 N20 N21
set_option maxRecDepth 100000
def RatS (l:List Value):Prop:=∃ a n c b a2 n2 c2,l=[.slice a n c,.bool b,.slice a2 n2 c2]
def addN (at' n upto p:Nat) (r:Nat × Nat):Nat × Nat:=if r.1=0 then (n,upto - at') else (n+r.1,p - at'+r.2)
theorem blanks_at {l:List Int} {p j:Nat} (h:j < blanks (l.drop p)):l[p+j]? =some 32:=by
 obtain ⟨c,h1,h2⟩:=tw_lt h
 rw [List.getElem?_drop] at h1
 rw [h1]
 simpa using h2
theorem blanks_end {l:List Int} {p:Nat} {c:Int} (h:l[p+blanks (l.drop p)]? =some c):¬ c=32:=by
 rw [← List.getElem?_drop] at h
 simpa using tw_end h
theorem blanks_len {l:List Int} {p:Nat} (h:p≤l.length):p+blanks (l.drop p)≤l.length:=by
 have:=tw_le (p:=fun c=>decide (c=32)) (l.drop p)
 rw [List.length_drop] at this
 unfold blanks
 omega
theorem numsF_succ (f:Nat) (s:List Int):numsF (f+1) s=if begins s then match readS s with
   | none=>none
   | some k=>match numsF f (s.drop (k+blanks (s.drop k))) with
     | none=>none
     | some (0,_)=>some (1,k)
     | some (n+1,m)=>some (n+2,k+blanks (s.drop k)+m)
  else some (0,0):=rfl
theorem numsF_pos {f:Nat} {s:List Int} {m:Nat} (hb:begins s=true):numsF (f+1) s≠some (0,m):=by
 intro hq
 rw [numsF_succ,hb,if_pos rfl] at hq
 split at hq
 ·cases hq
 ·split at hq<;>cases hq
end Go.Proofs.YtjlaenglmdpboaaGreat.N22
namespace Go.Proofs.YtjlaenglmdpboaaGreat.N23
open Go Go.Im Go.Im.Limbs Go.Im.Lexing Go.Proofs Go.RowKit Hd N1 N15 N16 N17 N18 N19 N20 N21 N22
set_option maxRecDepth 100000
def quadS (l:List Int) (i:Nat) (c:Int):Bool:=decide (c=9109) && (match l[i+1]? with
 | some d=>decide (kindOf d=2)
 | none=>false)
theorem tokS_at {l:List Int} {i:Nat} {c:Int} (h:l[i]? =some c):tokS (l.drop i)=if kindOf c=1 then some (none,1)
  else if begins (l.drop i) then (numsF 600 (l.drop i)).map fun x=>(some ⟨1,[],0⟩,x.2)
  else if kindOf c=2 then (wordS 2 (l.drop i)).map fun x=>(some x.1,x.2)
  else if c=39 then (textF (l.drop (i+1))).map fun k=>(some ⟨1,[],0⟩,1+k)
  else if quadS l i c=true then (wordS 3 (l.drop (i+1))).map fun x=>(some x.1,1+x.2)
  else if kindOf c=4∨kindOf c=5 then some (some ⟨4,[],c⟩,1)
  else if kindOf c=6 then some (some ⟨5,[],c⟩,1)
  else if kindOf c=7 then some (some ⟨6,[],c⟩,1)
  else none:=by
 have e0:(l.drop i)[0]? =some c:=by rw [List.getElem?_drop];exact h
 have e1:(l.drop i)[1]? =l[i+1]? :=by rw [List.getElem?_drop]
 have e2:(l.drop i).drop 1=l.drop (i+1):=by rw [List.drop_drop]
 unfold tokS
 rw [e0]
 simp only [e1,e2,quadS,Bool.and_eq_true,decide_eq_true_eq]
 congr
theorem lexF_succ (f at':Nat) (s:List Int):lexF (f+1) at' s=match (s[0]? :Option Int) with
  | none=>some []
  | some c=>if c=9053 then some [] else match tokS s with
    | none=>none
    | some (none,k)=>lexF f (at'+k) (s.drop k)
    | some (some t,k)=>(lexF f (at'+k) (s.drop k)).map ((at',t)::·):=rfl
end Go.Proofs.YtjlaenglmdpboaaGreat.N23
namespace Go.Im.Lexing
abbrev rem (m s:List Int):List Int:=s++9053::m
end Go.Im.Lexing
namespace Go.Im.Lexing
open Go.Proofs.YtjlaenglmdpboaaGreat.N23
theorem tokS_cons (c:Int) (s:List Int):tokS (c::s)=if kindOf c=1 then some (none,1)
  else if begins (c::s) then (numsF 600 (c::s)).map fun x=>(some ⟨1,[],0⟩,x.2)
  else if kindOf c=2 then (wordS 2 (c::s)).map fun x=>(some x.1,x.2)
  else if c=39 then (textF s).map fun k=>(some ⟨1,[],0⟩,1+k)
  else if quadS (c::s) 0 c=true then (wordS 3 s).map fun x=>(some x.1,1+x.2)
  else if kindOf c=4∨kindOf c=5 then some (some ⟨4,[],c⟩,1)
  else if kindOf c=6 then some (some ⟨5,[],c⟩,1)
  else if kindOf c=7 then some (some ⟨6,[],c⟩,1)
  else none:=by
 have:=tokS_at (l:=c::s) (i:=0) (c:=c) rfl
 simpa using this
theorem lexF_s (f at':Nat) (c:Int) (s:List Int):lexF (f+1) at' (c::s)=if c=9053 then some [] else match tokS (c::s) with
   | none=>none
   | some (none,k)=>lexF f (at'+k) ((c::s).drop k)
   | some (some t,k)=>(lexF f (at'+k) ((c::s).drop k)).map ((at',t)::·):=rfl
theorem kindOf_32:kindOf 32=1:=by decide
end Go.Im.Lexing
namespace Go.Im
end Go.Im
namespace Go.Proofs.YtjlaenglmdpboaaGreat.N26
open Go Go.Im Go.Im.Limbs Go.Im.Lexing Go.Proofs Go.RowKit Hd N1 N15 N16 N17 N18 N19 N23
set_option maxRecDepth 100000
theorem tok_len {x:XT} (h:Arr5 x.2):(tc4 x.1++x.2).length=9:=by
 obtain ⟨a,n,c,b,a2,n2,c2,a3,n3,c3,m,h⟩:=h
 rw [h]
 rfl
theorem xcs_at:∀ {xs:List XT} {i:Nat} {x:XT},(∀ x ∈ xs,Arr5 x.2)→xs[i]? =some x→((xcs xs).drop (i*9)).take 9=tc4 x.1++x.2
 | [],i,x,_,h=>by simp at h
 | y::xs,0,x,hA,h=>by
   cases h
   have h1:=tok_len (hA y (by simp))
   simp only [xcs,List.flatMap_cons,Nat.zero_mul,List.drop_zero]
   rw [← h1,List.take_left']
   rfl
 | y::xs,i+1,x,hA,h=>by
   have h1:=tok_len (hA y (by simp))
   have h2:=xcs_at (xs:=xs) (i:=i) (fun z hz=>hA z (by simp [hz])) (by simpa using h)
   rw [← h2]
   simp only [xcs,List.flatMap_cons]
   have:(i+1)*9=9+i*9:=by omega
   rw [this,← List.drop_drop,← h1,List.drop_left']
   rfl
theorem Sl.tok {h:Heap} {a:Option Addr} {n c i:Nat} {xs:List XT} {x:XT} (s:Sl h 9 a n c (xcs xs)) (hA:∀ x ∈ xs,Arr5 x.2) (hn:xs.length=n) (hx:xs[i]? =some x) :
  ∃ b o cs,a=some ⟨b,o,none⟩∧b < h.size∧(h.get b).read= .cells cs 9∧cs[o+i*9]? =some (.int .i64 (x.1.2.kind:Int))∧cs[o+i*9+1]? =some (.int .i64 (x.1.1:Int))∧cs[o+i*9+2]? =some (.string (runesBytes x.1.2.word)) ∧
    cs[o+i*9+3]? =some (.int .i32 x.1.2.sign)∧(cs.drop (o+i*9)).take 9=tc4 x.1++x.2∧o+i*9+9≤cs.length:=by
 have hi:i < n:=by rw [← hn];exact (List.getElem?_eq_some_iff.1 hx).1
 obtain ⟨b,o,cs,h1,h2,h3,h4,h5⟩:=s.at hi
 have h6:=xcs_at hA hx
 have h9:i*9+9≤n*9:=by omega
 rw [h5,List.drop_take,List.take_take,List.drop_drop,Nat.min_eq_left (by omega)] at h6
 have hj:∀ j,j < 9→cs[o+i*9+j]? =(tc4 x.1++x.2)[j]? :=by
  intro j hj
  rw [← h6,List.getElem?_take,if_pos hj,List.getElem?_drop]
 exact ⟨b,o,cs,h1,h2,h3,(hj 0 (by omega)).trans rfl,(hj 1 (by omega)).trans rfl,(hj 2 (by omega)).trans rfl,(hj 3 (by omega)).trans rfl,h6,by omega⟩
end Go.Proofs.YtjlaenglmdpboaaGreat.N26
namespace Go.Im
open Go.Im.Limbs Go.Im.Dec
def rr (n:Nat):List UInt8:=if h:n=0 then [] else UInt8.ofNat (48+n%10)::rr (n / 10)
decreasing_by omega
theorem rr_zero:rr 0=[]:=by rw [rr,dif_pos rfl]
theorem rr_pos {n:Nat} (h:n≠0):rr n=UInt8.ofNat (48+n%10)::rr (n / 10):=by rw [rr,dif_neg h]
theorem rr_ds:∀ n:Nat,n≠0→(rr n).reverse=ds n:=by
 intro n
 induction n using Nat.strongRecOn with
 | ind n ih =>
   intro h0
   rw [rr_pos h0,List.reverse_cons]
   by_cases h:n < 10
   ·rw [ds_lt h,show n / 10=0 by omega,rr_zero,show n%10=n by omega]
    rfl
   ·rw [ds_ge (by omega),ih (n / 10) (by omega) (by omega)]
theorem rr_len:∀ (k:Nat) {n:Nat},n < 10 ^ k→(rr n).length≤k
 | 0,n,h=>by
   have:n=0:=by simpa using h
   subst this
   rw [rr_zero]
   simp
 | k+1,n,h=>by
   by_cases h0:n=0
   ·subst h0
    rw [rr_zero]
    simp
   ·have:=rr_len k (n:=n / 10) (by rw [Nat.pow_succ] at h;omega)
    rw [rr_pos h0,List.length_cons]
    omega
def NatZ (w:Heap) (v:Value) (m:Nat):Prop:=∃ a c,v= .agg #[.slice a (dig m).length c]∧(m≠0→Sl w 1 a (dig m).length c (lv (dig m)))
theorem NatV.z {w:Heap} {v:Value} {m:Nat} (H:NatV w v m):NatZ w v m:=by
 obtain ⟨a,c,h1,h2⟩:=H.open
 exact ⟨a,c,h1,fun _=>h2⟩
theorem NatZ.v {w:Heap} {v:Value} {m:Nat} (H:NatZ w v m) (h:m≠0):NatV w v m:=by
 obtain ⟨a,c,h1,h2⟩:=H
 exact ⟨a,_,c,h1,h2 h⟩
theorem NatZ.ext {w w':Heap} (k:Ext w w') {v:Value} {m:Nat} (H:NatZ w v m):NatZ w' v m:=by
 obtain ⟨a,c,h1,h2⟩:=H
 exact ⟨a,c,h1,fun h=>(h2 h).ext k⟩
theorem NatZ.oth {low:Nat} {w w':Heap} {v u:Value} {m n:Nat} {S:List UInt8} (H:NatZ w v m) (O:Own low w 1 u n (byteCells S)) (hs:w.size≤w'.size) (k:∀ b,b < w.size→vblk u≠some b→w'.get b=w.get b):NatZ w' v m:=by
 obtain ⟨a,c,h1,h2⟩:=H
 refine ⟨a,c,h1,fun h=> ?_⟩
 have hd:dig m≠[]:=by rw [dig_pos h];simp
 obtain ⟨d,hd0⟩:∃ d,(dig m)[0]? =some d:=⟨_,List.getElem?_eq_getElem (List.length_pos_iff.2 hd)⟩
 rcases h2 h with ⟨_,h3,_⟩ | ⟨_,_,_,h3,_⟩ | ⟨b,o,cs,h3,h4,h5,h6,h7,h8,h9⟩
 ·exact absurd (List.eq_nil_of_length_eq_zero h3) hd
 ·exact absurd (List.eq_nil_of_length_eq_zero h3) hd
 ·refine .inr (.inr ⟨b,o,cs,h3,h4,by omega,?_,h7,h8,h9⟩)
  rw [k b h5 ?_]
  ·exact h6
  ·intro hv
   rcases O with ⟨rfl,_⟩ | ⟨b',rfl,_,_,g,_⟩
   ·cases hv
   ·simp only [vblk,Option.some.injEq] at hv
    subst hv
    rw [g] at h6
    simp only [Blk.read,Blk.cells.injEq,and_true] at h6
    have hl:=lv_get hd0
    rw [h8,← h6,List.getElem?_take] at hl
    split at hl
    ·rw [List.getElem?_drop] at hl
     have hm:=List.mem_of_getElem? hl
     simp [byteCells] at hm
    ·cases hl
theorem app_oth {low:Nat} {B W:Heap} (hlow:low≤B.size) (x:Ext B W) {size bytes:Nat} {v:Value} {n k:Nat} {xs new:List Value} (H:Own B.size W size v n xs) (hs:0 < size) (hk:0 < k) (hn:new.length=k*size)
  (hb:2*(n+k)*bytes≤140737488355328) (hc:n+k≤4611686018427387904) :
  ∃ w',iapp low W size bytes v k (some new)=some (.slice (some ⟨W.size,0,none⟩) (n+k) big,w')∧Own B.size w' size (.slice (some ⟨W.size,0,none⟩) (n+k) big) (n+k) (xs++new)∧w'.size=W.size+1∧Ext B w'∧∀ b,b < W.size→vblk v≠some b→w'.get b=W.get b:=by
 obtain ⟨w',h1,h2,h3,h4⟩:=own_app (H.keep hlow fun b hb _=>⟨rfl,hb⟩) (Nat.le_trans hlow x.1) hs hk hn hb hc
 refine ⟨w',h1,?_,h3,⟨by have:=x.1;omega,fun b hb=> ?_⟩,h4⟩
 ·rcases h2 with ⟨h5,_⟩ | ⟨b,h5,_,h6,h7,h8⟩
  ·cases h5
  ·cases h5
   exact .inr ⟨W.size,rfl,x.1,h6,h7,h8⟩
 ·rw [h4 b (by have:=x.1;omega),x.2 b hb]
  intro hv
  rcases H with ⟨rfl,_⟩ | ⟨b',rfl,g1,_⟩
  ·cases hv
  ·simp only [vblk,Option.some.injEq] at hv
   omega
def turnI (L C:List UInt8) (k:Nat):Prop:=C.length=L.length∧∀ q,q < L.length→C[q]? =if q < k∨L.length≤q+k then L[L.length - 1 - q]? else L[q]?
theorem turn_start (L:List UInt8):turnI L L 0:=⟨rfl,fun q hq=>by rw [if_neg (by omega)]⟩
theorem turn_end {L C:List UInt8} {k:Nat} (h:turnI L C k) (hk:L.length≤2*k+1):C=L.reverse:=by
 apply List.ext_getElem?
 intro q
 by_cases hq:q < L.length
 ·rw [h.2 q hq,List.getElem?_reverse hq]
  split
  ·rfl
  ·have:q=L.length - 1 - q:=by omega
   rw [← this]
 ·rw [List.getElem?_eq_none (by rw [h.1];omega),List.getElem?_eq_none (by rw [List.length_reverse];omega)]
theorem turn_step {L C:List UInt8} {k:Nat} {x y:UInt8} (h:turnI L C k) (hk:2*k+1 < L.length) (hx:C[k]? =some x) (hy:C[L.length - 1 - k]? =some y):turnI L ((C.set k y).set (L.length - 1 - k) x) (k+1):=by
 have h1:=h.2 k (by omega)
 have h2:=h.2 (L.length - 1 - k) (by omega)
 rw [if_neg (by omega),hx] at h1
 rw [if_neg (by omega),hy] at h2
 refine ⟨by simp [h.1],fun q hq=> ?_⟩
 rw [List.getElem?_set,List.length_set,h.1]
 by_cases e1:L.length - 1 - k=q
 ·rw [if_pos e1,if_pos (by omega),if_pos (by omega),h1]
  congr 1
  omega
 ·rw [if_neg e1,List.getElem?_set,h.1]
  by_cases e2:k=q
  ·rw [if_pos e2,if_pos (by omega),if_pos (by omega),h2]
   congr 1
   omega
  ·rw [if_neg e2,h.2 q hq]
   have:(q < k∨L.length≤q+k)↔(q < k+1∨L.length≤q+(k+1)):=by omega
   simp only [this]
theorem byte_put {C:List UInt8} {k:Nat} (h:k < C.length) (x:UInt8):(byteCells C).take k++[.int .u8 (x.toNat:Int)]++(byteCells C).drop (k+1)=byteCells (C.set k x):=by
 rw [put_one (by rw [byteCells_length];exact h)]
 simp [byteCells,List.map_set]
theorem byte_get {C:List UInt8} {k:Nat} {x:UInt8} (h:C[k]? =some x):(byteCells C)[k]? =some (.int .u8 (x.toNat:Int)):=by simp [byteCells,h]
end Go.Im
namespace Go.Proofs.YtjlaenglmdpboaaGreat.P1
open Go Go.Im Go.Im.Limbs Go.Im.Dec Go.Proofs Go.RowKit Hd N1 N4 N12
set_option maxRecDepth 100000
theorem zeroz_run (m:Nat) (h:Heap) {v:Value} (hv:NatZ h v m):Runs K 130 #[v] h fun x _=>x= .bool (decide (m=0)):=by
 obtain ⟨a,c,rfl,s⟩:=hv
 refine Runs.of Kok (Does.intro rfl (by decide +kernel) Tryz.func130 rfl ?_)
 simp +decide only [go_sem,WR,WS]
 congr 1
 rw [decide_eq_decide]
 rw [← dig_nil,← List.length_eq_zero_iff]
 omega
theorem rem10 {r:Nat}:((r:Nat):Int).tmod 10=((r%10:Nat):Int):=by rw [Int.tmod_eq_emod_of_nonneg (by omega)];simp
theorem quo10 {r:Nat} (h:r < 4294967296):IntKind.u32.wrap (((r:Nat):Int).tdiv 10)=((r / 10:Nat):Int):=by
 rw [Int.tdiv_eq_ediv_of_nonneg (by omega),show ((r:Nat):Int) / 10=((r / 10:Nat):Int) by simp,w32]
 congr 1
 omega
theorem dgt48 {d:Nat} (h:d≤9):IntKind.u32.wrap (48+((d:Nat):Int))=((48+d:Nat):Int)∧IntKind.u8.wrap ((48+d:Nat):Int)=((48+d:Nat):Int):=by
 have e:(48:Int)+((d:Nat):Int)=((48+d:Nat):Int):=by omega
 refine ⟨by rw [e,w32];congr 1;omega,?_⟩
 simp only [IntKind.wrap,IntKind.bits,IntKind.signed,Bool.false_and,Bool.false_eq_true,if_false]
 show ((48+d:Nat):Int)%256=_
 omega
theorem b48 {d:Nat} (h:d≤9):byteCells [UInt8.ofNat (48+d)]=[.int .u8 ((48+d:Nat):Int)]:=by
 have:(UInt8.ofNat (48+d)).toNat=48+d:=by
  rw [UInt8.toNat_ofNat']
  omega
 simp only [byteCells,List.map_cons,List.map_nil,this]
set_option maxHeartbeats 4000000 in
theorem ntext_run (m:Nat) (h:Heap) {v:Value} (hv:NatV h v m) (hm:m < 10 ^ 3000):Runs K 103 #[v] h fun r _=>r= .string (text (ds m)):=by
 obtain ⟨a,c,rfl,s⟩:=hv.open
 refine Runs.of Kok (Does.intro rfl (by decide +kernel) Tryz.func103 rfl ?_)
 obtain ⟨w1,e1,x1,hs1,z1⟩:=lay1 h (.cells [.slice a (dig m).length c] 1)
 by_cases h0:m=0
 ·subst h0
  rw [dig_zero] at z1 e1 ⊢
  simp +decide only [go_sem,WR,WS,e1,z1,List.length_nil,Int.natCast_zero]
  rw [ds_zero]
  rfl
 have hd0:¬ (((dig m).length:Nat):Int)=0:=by
  have:(dig m).length≠0:=by rw [dig_pos h0];simp
  omega
 have hrm:=rr_len 3000 hm
 have hdl:∀ R,R≤m→(dig R).length≤549755813887:=by
  intro R hR
  have h1:=dig_ten (m:=R) (k:=3000) (by omega)
  omega
 have j0:h.size≤h.size:=Nat.le_refl _
 simp +decide only [go_sem,WR,WS,e1,z1,hd0]
 apply W_join (α:=Value × List UInt8) (fun k e w=>e.size=70∧Ext h w∧e.get 3=k.1∧Own h.size w 1 k.1 k.2.length (byteCells k.2)∧k.2=rr m)
 ·intro out
  refine W_loop (α:=Nat × Value × Value × List UInt8) (fun k e w=>e.size=70∧Ext h w∧h.size < w.size∧(∃ aR cR,k.2.1= .slice aR (dig k.1).length cR)∧w.get h.size= .cells [k.2.1] 1∧NatZ w (.agg #[k.2.1]) k.1∧e.get 1= .pointer (some ⟨h.size,0,none⟩)∧e.get 3=k.2.2.1 ∧
   Own h.size w 1 k.2.2.1 k.2.2.2.length (byteCells k.2.2.2)∧vblk k.2.2.1≠some h.size∧k.2.2.2++rr k.1=rr m∧k.1≤m) (fun k=>k.1) (m,.slice a (dig m).length c,.slice none 0 0,[]) ?_ ?_
  ·exact ⟨by simp +decide only [go_sem],x1,by omega,⟨a,c,rfl⟩,z1,(hv.ext x1).z,by simp +decide only [go_sem],by simp +decide only [go_sem],Own.nil _ _ _,by simp [vblk],rfl,Nat.le_refl _⟩
  rintro ⟨R,p,tv,S⟩ e w ⟨hsz,xw,hw,hp,g0,nz,e1',e3,own,hne,hS,hRm⟩ next
  simp only at hp g0 nz e3 own hne hS hRm
  obtain ⟨aR,cR,rfl⟩:=hp
  simp +decide only [go_sem,WR,WS,hsz,e1',g0]
  refine W_call Kok xw.1 (zeroz_run R w nz) fun r w2 x2 hr=> ?_
  subst hr
  have own2:=own.ext x2
  have g2:w2.get h.size=_:=(x2.2 _ hw).trans g0
  have xw2:=xw.trans x2
  by_cases hR0:R=0
  ·subst hR0
   rw [rr_zero,List.append_nil] at hS
   simp +decide only [go_sem,WR,hsz,decide_true]
   exact out (tv,S) _ _ ⟨by simp +decide only [go_sem,hsz],xw2,by simp +decide only [go_sem,hsz,e3],own2,hS⟩
  have nv2:=(nz.v hR0).ext x2
  simp +decide only [go_sem,WR,WS,hsz,hR0,e1',g2]
  refine W_call Kok xw2.1 (small_run R 1000000000 w2 nv2 (by omega) (by omega) (hdl R hRm)) fun r w3 x3 hr=> ?_
  obtain ⟨q,rfl,nq⟩:=hr
  obtain ⟨Q,hQ⟩:∃ Q,Q=R / 1000000000:=⟨_,rfl⟩
  obtain ⟨r0,hr0⟩:∃ r0,r0=R%1000000000:=⟨_,rfl⟩
  rw [← hQ] at nq
  rw [← hr0]
  obtain ⟨aq,cq,rfl,sq⟩:=nq.open
  have hw2:=x2.1
  have hw3:=x3.1
  obtain ⟨w4,e4,x4,hs4,z4⟩:=lay1 w3 (.cells [.slice none 0 0] 1)
  obtain ⟨w5,e5,x5,hs5,z5,k5⟩:=put1 x4 (Nat.le_refl w3.size) (.cells [.slice aq (dig Q).length cq] 1)
  have xw5:=xw2.trans (x3.trans x5)
  have j3:h.size≤w3.size:=by have:=xw.1;omega
  have g5:w5.get h.size=_:=((x3.trans x5).2 _ (by omega)).trans g2
  have nz5:NatZ w5 (.agg #[.slice aq (dig Q).length cq]) Q:=(nq.ext x5).z
  have own5:=own2.ext (x3.trans x5)
  have hne5:vblk tv≠some w3.size:=by
   rcases own2 with ⟨rfl,_⟩ | ⟨b,rfl,_,hb,_⟩
   ·simp [vblk]
   ·simp only [vblk,ne_eq,Option.some.injEq]
    omega
  simp +decide only [go_sem,WR,WS,hsz,e4,z4,j3,e5]
  apply W_join (α:=Value × List UInt8) (fun k e w=>e.size=70∧Ext h w∧h.size < w.size∧w3.size < w.size∧w.get h.size= .cells [.slice aR (dig R).length cR] 1∧w.get w3.size= .cells [.slice aq (dig Q).length cq] 1∧NatZ w (.agg #[.slice aq (dig Q).length cq]) Q∧e.get 1= .pointer (some ⟨h.size,0,none⟩) ∧
   e.get 3=k.1∧e.get 4= .pointer (some ⟨w3.size,0,none⟩)∧Own h.size w 1 k.1 k.2.length (byteCells k.2)∧vblk k.1≠some h.size∧k.2++rr Q=rr m)
  ·intro done
   refine W_loop (α:=Nat × Nat × Value × List UInt8) (fun k e w=>k.1≤9∧k.2.1 < 10 ^ (9 - k.1)∧e.size=70∧Ext h w∧h.size < w.size∧w3.size < w.size∧w.get h.size= .cells [.slice aR (dig R).length cR] 1∧w.get w3.size= .cells [.slice aq (dig Q).length cq] 1∧NatZ w (.agg #[.slice aq (dig Q).length cq]) Q ∧
    e.get 1= .pointer (some ⟨h.size,0,none⟩)∧e.get 3=k.2.2.1∧e.get 4= .pointer (some ⟨w3.size,0,none⟩)∧e.get 5= .int .u32 (k.2.1:Int)∧e.get 6= .int .i64 (k.1:Int)∧Own h.size w 1 k.2.2.1 k.2.2.2.length (byteCells k.2.2.2)∧vblk k.2.2.1≠some h.size∧vblk k.2.2.1≠some w3.size ∧
    k.2.2.2++rr (Q*10 ^ (9 - k.1)+k.2.1)=rr m) (fun k=>9 - k.1) (0,r0,tv,S) ?_ ?_
   ·refine ⟨by omega,by simp only;omega,by simp +decide only [go_sem,hsz],xw5,by omega,by omega,g5,z5,nz5,by simp +decide only [go_sem,hsz,e1'],by simp +decide only [go_sem,hsz,e3],by simp +decide only [go_sem,hsz],by simp +decide only [go_sem,hsz],by simp +decide only [go_sem,hsz];rfl,own5,hne,hne5,?_⟩
    simp only
    rw [← hS]
    congr 2
    omega
   rintro ⟨i,r,tv',S'⟩ f u ⟨hi,hr,fsz,xu,hu,hu3,a0,a3,nu,f1,f3,f4,f5,f6,ou,o0,o3,hSr⟩ next2
   simp only at hi hr f3 f5 f6 ou o0 o3 hSr
   have hSl:S'.length≤3000:=by
    have:=congrArg List.length hSr
    rw [List.length_append] at this
    omega
   apply W_join (α:=Unit) (fun _ e w=>i < 9∧Q*10 ^ (9 - i)+r≠0∧e.size=70∧Ext u w∧e.get 1= .pointer (some ⟨h.size,0,none⟩)∧e.get 3=tv'∧e.get 4= .pointer (some ⟨w3.size,0,none⟩)∧e.get 5= .int .u32 (r:Int)∧e.get 6= .int .i64 (i:Int))
   ·intro go
    simp +decide only [go_sem,WS]
    by_cases hi9:(i:Int) < 9
    case neg =>
     have hi9':i=9:=by omega
     subst hi9'
     have hr0':r=0:=by simpa using hr
     subst hr0'
     simp only [Nat.sub_self,Nat.pow_zero,Nat.mul_one,Nat.add_zero] at hSr
     simp +decide only [go_sem,WR,fsz,f6,hi9]
     exact done (tv',S') _ _ ⟨by simp +decide only [go_sem,fsz],xu,hu,hu3,a0,a3,nu,by simp +decide only [go_sem,fsz,f1],by simp +decide only [go_sem,fsz,f3],by simp +decide only [go_sem,fsz,f4],ou,o0,hSr⟩
    by_cases hrp:(0:Int) < (r:Int)
    ·(rw [WR];simp +decide only [go_sem,WS,fsz,f5,f6,hi9,hrp])
     exact go () _ _ ⟨by omega,by omega,by simp +decide only [go_sem,fsz],Ext.refl u,by simp +decide only [go_sem,fsz,f1],by simp +decide only [go_sem,fsz,f3],by simp +decide only [go_sem,fsz,f4],by simp +decide only [go_sem,fsz,f5],by simp +decide only [go_sem,fsz,f6]⟩
    ·have hr0':r=0:=by omega
     subst hr0'
     (rw [WR];simp +decide only [go_sem,WS,fsz,f4,f5,f6,hi9,hrp,a3])
     refine W_call Kok xu.1 (zeroz_run Q u nu) fun rz u2 y2 hrz=> ?_
     subst hrz
     by_cases hQ0:Q=0
     ·rw [hQ0,Nat.zero_mul,Nat.zero_add] at hSr
      have nu2:=nu.ext y2
      have b0:u2.get h.size=_:=(y2.2 _ hu).trans a0
      have b3:u2.get w3.size=_:=(y2.2 _ hu3).trans a3
      have hy2:=y2.1
      simp +decide only [go_sem,WR,fsz,hQ0]
      exact done (tv',S') _ _ ⟨by simp +decide only [go_sem,fsz],xu.trans y2,by omega,by omega,b0,b3,nu2,by simp +decide only [go_sem,fsz,f1],by simp +decide only [go_sem,fsz,f3],by simp +decide only [go_sem,fsz,f4],ou.ext y2,o0,by simp only [hQ0];exact hSr⟩
     ·have hpos:Q*10 ^ (9 - i)+0≠0:=by
       have:=Nat.mul_pos (Nat.pos_of_ne_zero hQ0) (Nat.pow_pos (n:=9 - i) (show 0 < 10 by omega))
       omega
      simp +decide only [go_sem,WS,fsz,hQ0]
      exact go () _ _ ⟨by omega,hpos,by simp +decide only [go_sem,fsz],y2,by simp +decide only [go_sem,fsz,f1],by simp +decide only [go_sem,fsz,f3],by simp +decide only [go_sem,fsz,f4],by simp +decide only [go_sem,fsz,f5],by simp +decide only [go_sem,fsz,f6]⟩
   rintro _ f' u2 ⟨hi9,hpos,fsz',y2,f1',f3',f4',f5',f6'⟩
   have hd9:r%10≤9:=by omega
   have hr32:r < 4294967296:=by
    have h1:10 ^ (9 - i)≤10 ^ 9:=Nat.pow_le_pow_right (by omega) (by omega)
    omega
   obtain ⟨m1,m2⟩:=dgt48 hd9
   have m3:=rem10 (r:=r)
   have m4:=quo10 hr32
   have hy2:=y2.1
   obtain ⟨u3,e3',y3,hs3,z3⟩:=lay1 u2 (.cells [.int .u8 ((48+r%10:Nat):Int)] 1)
   have y23:=y2.trans y3
   obtain ⟨u4,e4',own4,hs4',x4',k4⟩:=app_oth (low:=h.size) (bytes:=1) (k:=1) (new:=byteCells [UInt8.ofNat (48+r%10)]) (Nat.le_refl _) (xu.trans y23) (ou.ext y23) (by omega) (by omega) rfl (by omega) (by omega)
   have c0:u4.get h.size=_:=(k4 _ (by omega) o0).trans ((y23.2 _ hu).trans a0)
   have c3:u4.get w3.size=_:=(k4 _ (by omega) o3).trans ((y23.2 _ hu3).trans a3)
   have nu4:=(nu.ext y23).oth (ou.ext y23) (by omega) k4
   rw [b48 hd9] at e4'
   rw [← byteCells_append] at own4
   have i1:IntKind.i64.wrap ((i:Int)+1)=((i+1:Nat):Int):=by rw [wrap_i64 (by omega) (by omega)];omega
   obtain ⟨at',ct',rfl⟩:=ou.shape
   simp +decide only [go_sem,WR,WS,fsz',f1',f3',f4',f5',f6',m3,m1,m2,m4,e3',z3,e4',i1]
   refine next2 (i+1,r / 10,.slice (some ⟨u3.size,0,none⟩) (S'.length+1) big,S'++[UInt8.ofNat (48+r%10)]) _ _ ⟨by simp only;omega,?_,by simp +decide only [go_sem,fsz'],x4',by omega,by omega,c0,c3,nu4,by simp +decide only [go_sem,fsz',f1'],by simp +decide only [go_sem,fsz'],by simp +decide only [go_sem,fsz',f4'],by simp +decide only [go_sem,fsz'],by simp +decide only [go_sem,fsz'],by rw [List.length_append];exact own4,by simp only [vblk,ne_eq,Option.some.injEq];omega,by simp only [vblk,ne_eq,Option.some.injEq];omega,?_⟩ (by simp only;omega)
   ·simp only
    have:10 ^ (9 - i)=10*10 ^ (9 - (i+1)):=by rw [← Nat.pow_succ',show (9 - (i+1)).succ=9 - i by omega]
    omega
   ·simp only
    have hp:10 ^ (9 - i)=10*10 ^ (9 - (i+1)):=by rw [← Nat.pow_succ',show (9 - (i+1)).succ=9 - i by omega]
    rw [rr_pos hpos,hp] at hSr
    have q1:(Q*(10*10 ^ (9 - (i+1)))+r)%10=r%10:=by
     rw [← Nat.mul_assoc,Nat.mul_comm Q 10,Nat.mul_assoc]
     omega
    have q2:(Q*(10*10 ^ (9 - (i+1)))+r) / 10=Q*10 ^ (9 - (i+1))+r / 10:=by
     rw [← Nat.mul_assoc,Nat.mul_comm Q 10,Nat.mul_assoc]
     omega
    rw [q1,q2] at hSr
    rw [List.append_assoc]
    exact hSr
  rintro ⟨tv',S'⟩ f u ⟨fsz,xu,hu,hu3,a0,a3,nu,f1,f3,f4,ou,o0,hSr⟩
  simp only at f3 ou o0 hSr
  obtain ⟨u2,e2',y2,hsu2,zu2,ku2⟩:=put1 xu (Nat.le_refl h.size) (.cells [.slice aq (dig Q).length cq] 1)
  have ou2:Own h.size u2 1 tv' S'.length (byteCells S'):=ou.keep (Nat.le_refl _) fun b hb hv=>⟨ku2 b (fun hh=>o0 (by rw [← hh];exact hv)),by omega⟩
  have nu2:NatZ u2 (.agg #[.slice aq (dig Q).length cq]) Q:=by
   by_cases hQ0:Q=0
   ·exact ⟨aq,cq,rfl,fun hh=>absurd hQ0 hh⟩
   ·exact ((nu.v hQ0).over a0 (by rfl) (by rfl) hsu2 zu2 ku2).z
  obtain ⟨at',ct',rfl⟩:=ou.shape
  simp +decide only [go_sem,WR,WS,fsz,f1,f3,f4,a3,j0,a0,e2']
  exact next (Q,.slice aq (dig Q).length cq,.slice at' S'.length ct',S') _ _ ⟨by simp +decide only [go_sem,fsz],y2,by omega,⟨aq,cq,rfl⟩,zu2,nu2,by simp +decide only [go_sem,fsz,f1],by simp +decide only [go_sem,fsz,f3],ou2,o0,hSr,by simp only;omega⟩ (by simp only;omega)
 rintro ⟨tv,S⟩ e w ⟨hsz,xw,e3,own,hS⟩
 simp only at e3 own hS
 have hSn:S≠[]:=by rw [hS,rr_pos h0];simp
 have hSl:=List.length_pos_iff.2 hSn
 have hS3:S.length≤3000:=by rw [hS];exact hrm
 rcases own with ⟨_,hh,_⟩ | ⟨b,rfl,hb1,hb2,hb3,hb4⟩
 ·omega
 have i0:IntKind.i64.wrap (((S.length:Nat):Int) - 1)=((S.length - 1:Nat):Int):=by rw [wrap_i64 (by omega) (by omega)];omega
 simp +decide only [go_sem,WR,WS,hsz,e3,i0]
 refine W_loop (α:=Nat × List UInt8) (fun k e w=>k.1≤S.length∧e.size=70∧Ext h w∧b < w.size∧w.get b= .cells (byteCells k.2) 1∧turnI S k.2 k.1∧e.get 3= .slice (some ⟨b,0,none⟩) S.length big∧e.get 7= .int .i64 (k.1:Int)∧e.get 8= .int .i64 (((S.length:Nat):Int) - 1 - (k.1:Int))∧2*k.1≤S.length+1) (fun k=>S.length - k.1) (0,S) ?_ ?_
 ·exact ⟨by omega,by simp +decide only [go_sem,hsz],xw,hb2,hb3,turn_start S,by simp +decide only [go_sem,hsz,e3],by simp +decide only [go_sem,hsz];rfl,by simp +decide only [go_sem,hsz];congr 1;omega,by simp only;omega⟩
 rintro ⟨i,C⟩ f u ⟨hi,fsz,xu,hu,g,ht,f3,f7,f8,hi2⟩ next
 simp only at hi g ht f7 f8 hi2
 by_cases hij:(i:Int) < ((S.length:Nat):Int) - 1 - (i:Int)
 ·have hCl:=ht.1
  obtain ⟨x,hx⟩:∃ x,C[i]? =some x:=⟨_,List.getElem?_eq_getElem (by omega)⟩
  obtain ⟨y,hy⟩:∃ y,C[S.length - 1 - i]? =some y:=⟨_,List.getElem?_eq_getElem (by omega)⟩
  obtain ⟨j,hj⟩:∃ j,j=S.length - 1 - i:=⟨_,rfl⟩
  have hjj:((S.length:Nat):Int) - 1 - (i:Int)=(j:Int):=by omega
  have ht':=turn_step ht (by omega) hx hy
  rw [← hj] at hy ht'
  rw [hjj] at f8 hij
  have bx:=byte_get hx
  have by':=byte_get hy
  obtain ⟨u2,e2,y2,hs2,z2,k2⟩:=put1 xu hb1 (.cells (byteCells (C.set i y)) 1)
  obtain ⟨u3,e3',y3,hs3,z3,k3⟩:=put1 y2 hb1 (.cells (byteCells ((C.set i y).set j x)) 1)
  have p1:=byte_put (C:=C) (k:=i) (by omega) y
  have p2:=byte_put (C:=C.set i y) (k:=j) (by simp;omega) x
  have c0:(0:Int)≤(i:Int):=by omega
  have c1:(i:Int) < ((S.length:Nat):Int):=by omega
  have c2:(0:Int)≤(j:Int):=by omega
  have c3:(j:Int) < ((S.length:Nat):Int):=by omega
  have l1:i+1≤(byteCells C).length:=by rw [byteCells_length];omega
  have l2:j+1≤(byteCells (C.set i y)).length:=by rw [byteCells_length,List.length_set];omega
  have i1:IntKind.i64.wrap ((i:Int)+1)=((i+1:Nat):Int):=by rw [wrap_i64 (by omega) (by omega)];omega
  have i2:IntKind.i64.wrap ((j:Int) - 1)=(j:Int) - 1:=wrap_i64 (by omega) (by omega)
  simp +decide only [go_sem,WR,WS,fsz,f3,f7,f8,hij,c0,c1,c2,c3,Int.toNat_natCast,g,bx,by',hb1,l1,p1,e2,z2,l2,p2,e3',i1,i2]
  exact next (i+1,(C.set i y).set j x) _ _ ⟨by simp only;omega,by simp +decide only [go_sem,fsz],y3,by omega,z3,ht',by simp +decide only [go_sem,fsz,f3],by simp +decide only [go_sem,fsz],by simp +decide only [go_sem,fsz];congr 1;omega,by simp only;omega⟩ (by simp only;omega)
 ·have hC:=turn_end ht (by omega)
  rw [hC] at g
  have isl:islice u 1 (.slice (some ⟨b,0,none⟩) S.length big)=some (byteCells S.reverse):=by
   have hl:(byteCells S.reverse).length=S.length:=by rw [byteCells_length,List.length_reverse]
   simp only [islice,Heap.look,g,Blk.read]
   rw [if_pos ⟨trivial,by omega⟩,List.drop_zero,Nat.mul_one,List.take_of_length_le (by omega)]
  simp +decide only [go_sem,WR,WS,fsz,f3,f7,f8,hij,isl,icvs_bytes]
  rw [hS,rr_ds m h0]
end Go.Proofs.YtjlaenglmdpboaaGreat.P1
namespace Go.Im.Arrays
open Go Go.Im Go.Im.Lexing
def iv (l:List Int):List Value:=l.map (Value.int .i64)
theorem iv_get {l:List Int} {i:Nat} {d:Int} (h:l[i]? =some d):(iv l)[i]? =some (.int .i64 d):=by simp [iv,h]
end Go.Im.Arrays
namespace Go.Proofs.YtjlaenglmdpboaaGreat.V20
open Go Go.Im Go.Im.Limbs Go.Im.Dec Go.Proofs Go.RowKit Hd N1 N10 N12 N13 R1 R3 R4 P1 Go.Im.Lexing Go.Im.Arrays
set_option maxRecDepth 100000
theorem cloner_run (h:Heap) {a:Option Addr} {n c:Nat} {xs:List Value} (s:Sl h 1 a n c xs) (hn:n≤1000000):Runs K 101 #[.slice a n c] h fun r w=>∃ a' c',r= .slice a' n c'∧Sl w 1 a' n c' xs:=by
 refine Runs.of Kok (Does.intro rfl (by decide +kernel) Tryz.func101 rfl ?_)
 cases a with
 | none =>
   have h0:n=0:=by
    rcases s with ⟨_,h0,_⟩ | ⟨_,_,hh,_⟩ | ⟨_,_,_,hh,_⟩
    ·exact h0
    ·cases hh
    ·cases hh
   subst h0
   have hx:xs=[]:=List.eq_nil_of_length_eq_zero (by have:=s.length;omega)
   subst hx
   simp +decide only [go_sem,WR,WS]
   exact ⟨_,_,rfl,Sl.nil _ _⟩
 | some ad =>
   obtain ⟨w1,e1,x1,hs1,g1⟩:=lay1 h (.cells [] 1)
   obtain ⟨a2,c2,w2,e2,x2,_,s2⟩:=app0 (low:=h.size) (bytes:=4) (new:=xs) (k:=n) g1 (by omega) (by omega) (by have:=s.length;omega) (by omega) (by omega)
   have hi:=(s.ext x1).isl
   simp +decide only [go_sem,WR,WS,e1,hi,e2]
   exact ⟨_,_,rfl,s2⟩
theorem clonei_run (h:Heap) {a:Option Addr} {n c:Nat} {xs:List Value} (s:Sl h 1 a n c xs) (hn:n≤1000000):Runs K 100 #[.slice a n c] h fun r w=>∃ a' c',r= .slice a' n c'∧Sl w 1 a' n c' xs:=by
 refine Runs.of Kok (Does.intro rfl (by decide +kernel) Tryz.func100 rfl ?_)
 cases a with
 | none =>
   have h0:n=0:=by
    rcases s with ⟨_,h0,_⟩ | ⟨_,_,hh,_⟩ | ⟨_,_,_,hh,_⟩
    ·exact h0
    ·cases hh
    ·cases hh
   subst h0
   have hx:xs=[]:=List.eq_nil_of_length_eq_zero (by have:=s.length;omega)
   subst hx
   simp +decide only [go_sem,WR,WS]
   exact ⟨_,_,rfl,Sl.nil _ _⟩
 | some ad =>
   obtain ⟨w1,e1,x1,hs1,g1⟩:=lay1 h (.cells [] 1)
   obtain ⟨a2,c2,w2,e2,x2,_,s2⟩:=app0 (low:=h.size) (bytes:=8) (new:=xs) (k:=n) g1 (by omega) (by omega) (by have:=s.length;omega) (by omega) (by omega)
   have hi:=(s.ext x1).isl
   simp +decide only [go_sem,WR,WS,e1,hi,e2]
   exact ⟨_,_,rfl,s2⟩
theorem isame_run (xs:List Int) (h:Heap) {a a2:Option Addr} {c c2:Nat} (s:Sl h 1 a xs.length c (iv xs)) (s2:Sl h 1 a2 xs.length c2 (iv xs)) (hl:xs.length≤1000000):Runs K 79 #[.slice a xs.length c,.slice a2 xs.length c2] h fun r w=>h=w∧r= .bool true:=by
 refine Runs.of Kok (Does.intro rfl (by decide +kernel) Tryz.func79 rfl ?_)
 simp +decide only [go_sem,WR,WS]
 refine W_loop (α:=Nat) (fun i e w=>i≤xs.length∧e.size=26∧h=w∧e.get 0= .slice a xs.length c∧e.get 1= .slice a2 xs.length c2∧e.get 5= .int .i64 (i:Int)) (fun i=>xs.length - i) 0 ?_ ?_
 ·exact ⟨Nat.zero_le _,by simp +decide only [go_sem],rfl,by simp +decide only [go_sem],by simp +decide only [go_sem],by simp +decide only [go_sem];rfl⟩
 rintro i e w ⟨hi,hsz,hw,e0,e1,e5⟩ next
 subst hw
 by_cases hc:(i:Int) < ((xs.length:Nat):Int)
 ·obtain ⟨d,hd⟩:∃ d,xs[i]? =some d:=⟨_,List.getElem?_eq_getElem (by omega)⟩
  obtain ⟨b,o,cs,rfl,p2,p3,p4⟩:=s.one (iv_get hd)
  obtain ⟨b2,o2,cs2,rfl,q2,q3,q4⟩:=s2.one (iv_get hd)
  have c0:(0:Int)≤(i:Int):=by omega
  have i1:IntKind.i64.wrap ((i:Int)+1)=((i+1:Nat):Int):=by rw [wrap_i64 (by omega) (by omega)];omega
  simp +decide only [go_sem,WR,WS,hsz,e0,e1,e5,c0,hc,Int.toNat_natCast,p3,p4,q3,q4,Nat.mul_one,i1]
  exact next (i+1) _ _ ⟨by omega,by simp +decide only [go_sem,hsz],rfl,by simp +decide only [go_sem,hsz,e0],by simp +decide only [go_sem,hsz,e1],by simp +decide only [go_sem,hsz]⟩ (by omega)
 ·simp +decide only [go_sem,WR,WS,hsz,e0,e1,e5,hc]
theorem rsame_run (xs:List Int) (h:Heap) {a a2:Option Addr} {c c2:Nat} (s:Sl h 1 a xs.length c (rv xs)) (s2:Sl h 1 a2 xs.length c2 (rv xs)) (hl:xs.length≤1000000):Runs K 31 #[.slice a xs.length c,.slice a2 xs.length c2] h fun r w=>h=w∧r= .bool true:=by
 refine Runs.of Kok (Does.intro rfl (by decide +kernel) Tryz.func31 rfl ?_)
 simp +decide only [go_sem,WR,WS]
 refine W_loop (α:=Nat) (fun i e w=>i≤xs.length∧e.size=26∧h=w∧e.get 0= .slice a xs.length c∧e.get 1= .slice a2 xs.length c2∧e.get 5= .int .i64 (i:Int)) (fun i=>xs.length - i) 0 ?_ ?_
 ·exact ⟨Nat.zero_le _,by simp +decide only [go_sem],rfl,by simp +decide only [go_sem],by simp +decide only [go_sem],by simp +decide only [go_sem];rfl⟩
 rintro i e w ⟨hi,hsz,hw,e0,e1,e5⟩ next
 subst hw
 by_cases hc:(i:Int) < ((xs.length:Nat):Int)
 ·obtain ⟨d,hd⟩:∃ d,xs[i]? =some d:=⟨_,List.getElem?_eq_getElem (by omega)⟩
  obtain ⟨b,o,cs,rfl,p2,p3,p4⟩:=s.one (rv_get hd)
  obtain ⟨b2,o2,cs2,rfl,q2,q3,q4⟩:=s2.one (rv_get hd)
  have c0:(0:Int)≤(i:Int):=by omega
  have i1:IntKind.i64.wrap ((i:Int)+1)=((i+1:Nat):Int):=by rw [wrap_i64 (by omega) (by omega)];omega
  simp +decide only [go_sem,WR,WS,hsz,e0,e1,e5,c0,hc,Int.toNat_natCast,p3,p4,q3,q4,Nat.mul_one,i1]
  exact next (i+1) _ _ ⟨by omega,by simp +decide only [go_sem,hsz],rfl,by simp +decide only [go_sem,hsz,e0],by simp +decide only [go_sem,hsz,e1],by simp +decide only [go_sem,hsz]⟩ (by omega)
 ·simp +decide only [go_sem,WR,WS,hsz,e0,e1,e5,hc]
theorem num_run (h:Heap) {v:Value} {m k:Nat} {s:Bool} (hv:RatV h v m s k) (hk:k≠0) (h1:m < 10 ^ 3000) (h2:k < 10 ^ 3000):Runs K 82 #[v] h fun r _=>r=numA s m k:=by
 have hv0:=hv
 obtain ⟨p,q,rfl,hp,hq⟩:=hv0
 obtain ⟨a,n,c,rfl⟩:=natv_slice hp
 obtain ⟨a',n',c',rfl⟩:=natv_slice hq
 refine Runs.of Kok (Does.intro rfl (by decide +kernel) Tryz.func82 rfl ?_)
 obtain ⟨w0,e0,x0,hs0,z0,z1⟩:=lay2 h (.cells [.slice a n c,.bool s,.slice a' n' c'] 3) (.cells [.bool false,.string ByteArray.empty,.string ByteArray.empty] 3)
 have j1:h.size≤h.size+1:=by omega
 simp +decide only [go_sem,WR,WS,e0,z0]
 refine W_call Kok x0.1 (neg_run w0 (m:=m) ⟨.slice a n c,rfl,hp.ext x0⟩) fun r w1 x1 hr=> ?_
 subst hr
 have y0:∀ {w:Heap},Ext w0 w→w.get h.size=_:=fun k=>(k.2 _ (by omega)).trans z0
 simp +decide only [go_sem,WR,WS,y0 x1]
 refine W_call Kok (x0.trans x1).1 (ntext_run m w1 (hp.ext (x0.trans x1)) h1) fun r w2 x2 hr=> ?_
 subst hr
 have k2:=x1.trans x2
 simp +decide only [go_sem,WR,WS,y0 k2]
 refine W_call Kok (x0.trans k2).1 (down_run w2 (hv.ext (x0.trans k2)) hk) fun r w3 x3 hr=> ?_
 have hr0:=hr
 obtain ⟨a3,n3,c3,rfl,_⟩:=hr0
 have k3:=k2.trans x3
 simp +decide only [go_sem,WR,WS]
 refine W_call Kok (x0.trans k3).1 (ntext_run k w3 hr h2) fun r w4 x4 hr=> ?_
 subst hr
 have k4:=k3.trans x4
 have y1:w4.get (h.size+1)=_:=(k4.2 _ (by omega)).trans z1
 obtain ⟨w5,e5,x5,hs5,z5,_⟩:=put1 (x0.trans k4) j1 (.cells [.bool s,.string (text (ds m)),.string (text (ds k))] 3)
 simp +decide only [go_sem,WR,WS,y1,j1,e5,z5]
 rfl
theorem lay118:eqlay Tryz.prog 123=some [(.bool,0),(.string,1),(.string,2)]:=by kernel_rfl
theorem ne118 {x y:Array Value}:ibinop Tryz.prog .neq 123 (.agg x) (.agg y)=eqst (some [(.bool,0),(.string,1),(.string,2)]) .neq x y:=ibinop_agg lay118 fun _ _=>rfl
end Go.Proofs.YtjlaenglmdpboaaGreat.V20
