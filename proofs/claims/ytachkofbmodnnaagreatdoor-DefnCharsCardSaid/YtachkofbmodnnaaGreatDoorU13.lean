/- Proved here: parts of the way to BDefnChars (BR4 BN20 BN21 BN22); no condition beyond those that each theorem names. -/
import Derived.Test.YtachkofbmodnnaaGreatDoorU12
set_option linter.unusedSimpArgs false
set_option linter.unusedVariables false
namespace Go.Im.Dec
open Go Go.Im Go.Im.Limbs Go.Proofs.YtachkofbmodnnaaGreatDoor.N12
def intA (s:Bool) (n:Nat):Value:= .agg #[.bool s,.string (text (ds n))]
def numA (s:Bool) (m k:Nat):Value:= .agg #[.bool s,.string (text (ds m)),.string (text (ds k))]
theorem zt {n:Nat}:(text (ds n)=(⟨#[48]⟩:ByteArray))=(n=0):=propext ⟨fun h=>ds_inj.1 ((text_inj.1 (h.trans (show (⟨#[48]⟩:ByteArray)=text [48] from rfl))).trans ds_zero.symm),fun h=>by subst h;rw [ds_zero];rfl⟩
theorem ds_pow (n:Nat):ds (10 ^ n)=49::List.replicate n 48:=by
 induction n with
 | zero=>exact ds_one
 | succ n ih =>
   have:1≤10 ^ n:=Nat.pow_pos (by omega)
   rw [ds_ge (by rw [Nat.pow_succ];omega),Nat.pow_succ,Nat.mul_div_cancel _ (by omega),Nat.mul_mod_left,ih,List.replicate_succ']
   rfl
theorem ds_mul {m k a b:Nat} (h1:(ds m).length≤a) (h2:(ds k).length≤b):(ds (m*k)).length≤a+b:=by
 have l1:=Nat.lt_of_lt_of_le (ds_lt_pow m) (Nat.pow_le_pow_right (by omega) h1)
 have l2:=Nat.lt_of_lt_of_le (ds_lt_pow k) (Nat.pow_le_pow_right (by omega) h2)
 have:=ds_pos m
 refine ds_len ?_ (by omega)
 rw [Nat.pow_add]
 exact Nat.mul_lt_mul_of_lt_of_lt l1 l2
end Go.Im.Dec
namespace Go.Proofs.YtachkofbmodnnaaGreatDoor.R4
open Go Go.Im Go.Im.Limbs Go.Im.Dec Go.Proofs Go.RowKit Hd N12 R1 R2 R3
set_option maxRecDepth 100000
theorem of_run (s:Bool) {t:List UInt8} (hd:Digs t) (hne:t≠[]) (hl:t.length≤1000000) (h:Heap):Runs K 178 #[.bool s,.string (text t)] h fun r _=>r=intA (s && decide (dec t≠0)) (dec t):=by
 refine Runs.of Kok (Does.intro rfl (by decide +kernel) Tryz.func178 rfl ?_)
 obtain ⟨w0,e0,x0,hs0,z0⟩:=lay1 h (.cells [.bool false,.string ByteArray.empty] 2)
 simp +decide only [go_sem,WR,WS,e0]
 refine W_call Kok x0.1 (trim_ds_run hd hne w0 (by omega)) fun r w1 x1 hr=> ?_
 subst hr
 have z1:w1.get h.size=_:=(x1.2 _ (by omega)).trans z0
 cases s
 ·obtain ⟨w2,e2,x2,hs2,z2,_⟩:=put1 (x0.trans x1) (Nat.le_refl _) (.cells [.bool false,.string (text (ds (dec t)))] 2)
  simp +decide only [go_sem,WR,WS,z1,e2,z2,Nat.le_refl]
  rfl
 ·obtain ⟨w2,e2,x2,hs2,z2,_⟩:=put1 (x0.trans x1) (Nat.le_refl _) (.cells [.bool (!decide (dec t=0)),.string (text (ds (dec t)))] 2)
  simp +decide only [go_sem,WR,WS,z1,zt,e2,z2,Nat.le_refl]
  simp [intA]
theorem of_ds (s:Bool) (n:Nat) (hl:(ds n).length≤1000000) (h:Heap):Runs K 178 #[.bool s,.string (text (ds n))] h fun r _=>r=intA (s && decide (n≠0)) n:=by
 have:=of_run s (ds_digs n) (ds_ne n) hl h
 rwa [dec_ds] at this
theorem mul2_run (s u:Bool) (m k:Nat) (h:Heap) (h1:(ds m).length≤200000) (h2:(ds k).length≤200000):Runs K 200 #[intA s m,intA u k] h fun r _=>r=intA (!decide (s=u) && decide (m*k≠0)) (m*k):=by
 refine Runs.of Kok (Does.intro rfl (by decide +kernel) Tryz.func200 rfl ?_)
 obtain ⟨w0,e0,x0,hs0,z0,z1,z2⟩:=lay3 h (.cells [.bool s,.string (text (ds m))] 2) (.cells [.bool u,.string (text (ds k))] 2) (.cells [.bool false,.string ByteArray.empty] 2)
 simp +decide only [go_sem,WR,WS,intA,e0,z0,z1]
 refine W_call Kok x0.1 (mul_run m k w0 h1 h2) fun r w1 x1 hr=> ?_
 subst hr
 have hl:=ds_mul h1 h2
 simp +decide only [go_sem,WR,WS]
 refine W_call Kok (x0.trans x1).1 (of_ds (!decide (s=u)) (m*k) (by omega) w1) fun r w2 x2 hr=> ?_
 subst hr
 have z2':w2.get (h.size+2)=_:=(x2.2 _ (by have:=x1.1;omega)).trans ((x1.2 _ (by omega)).trans z2)
 have j1:h.size≤h.size+2:=by omega
 obtain ⟨w3,e3,x3,hs3,z3,_⟩:=put1 (x0.trans (x1.trans x2)) j1 (.cells [.bool (!decide (s=u) && decide (m*k≠0)),.string (text (ds (m*k)))] 2)
 simp +decide only [go_sem,WR,WS,intA,z2',j1,e3,z3]
theorem top_run (s:Bool) (m k:Nat) (h:Heap) (hl:(ds m).length≤1000000):Runs K 201 #[numA s m k] h fun r _=>r=intA (s && decide (m≠0)) m:=by
 refine Runs.of Kok (Does.intro rfl (by decide +kernel) Tryz.func201 rfl ?_)
 obtain ⟨w0,e0,x0,hs0,z0,z1⟩:=lay2 h (.cells [.bool s,.string (text (ds m)),.string (text (ds k))] 3) (.cells [.bool false,.string ByteArray.empty] 2)
 simp +decide only [go_sem,WR,WS,numA,e0,z0]
 refine W_call Kok x0.1 (of_ds s m hl w0) fun r w2 x2 hr=> ?_
 subst hr
 have z1':w2.get (h.size+1)=_:=(x2.2 _ (by omega)).trans z1
 have j1:h.size≤h.size+1:=by omega
 obtain ⟨w3,e3,x3,hs3,z3,_⟩:=put1 (x0.trans x2) j1 (.cells [.bool (s && decide (m≠0)),.string (text (ds m))] 2)
 simp +decide only [go_sem,WR,WS,intA,z1',j1,e3,z3]
theorem bot_run (s:Bool) (m k:Nat) (h:Heap) (hl:(ds k).length≤1000000):Runs K 202 #[numA s m k] h fun r _=>r=intA false k:=by
 refine Runs.of Kok (Does.intro rfl (by decide +kernel) Tryz.func202 rfl ?_)
 obtain ⟨w0,e0,x0,hs0,z0,z1⟩:=lay2 h (.cells [.bool s,.string (text (ds m)),.string (text (ds k))] 3) (.cells [.bool false,.string ByteArray.empty] 2)
 simp +decide only [go_sem,WR,WS,numA,e0,z0]
 refine W_call Kok x0.1 (of_ds false k hl w0) fun r w2 x2 hr=> ?_
 subst hr
 have z1':w2.get (h.size+1)=_:=(x2.2 _ (by omega)).trans z1
 have j1:h.size≤h.size+1:=by omega
 obtain ⟨w3,e3,x3,hs3,z3,_⟩:=put1 (x0.trans x2) j1 (.cells [.bool false,.string (text (ds k))] 2)
 simp +decide only [go_sem,WR,WS,intA,z1',j1,e3,z3]
theorem zero_run (h:Heap):Runs K 174 #[] h fun r _=>r=numA false 0 1:=by
 refine Runs.of Kok (Does.intro rfl (by decide +kernel) Tryz.func174 rfl ?_)
 obtain ⟨w0,e0,x0,hs0,z0⟩:=lay1 h (.cells [.bool false,.string ByteArray.empty,.string ByteArray.empty] 3)
 obtain ⟨w1,e1,x1,hs1,z1,_⟩:=put1 x0 (Nat.le_refl _) (.cells [.bool false,.string ⟨#[48]⟩,.string ⟨#[49]⟩] 3)
 have sz:(Env.start 2 []).size=2:=rfl
 simp +decide only [go_sem,WR,WS,e0,z0,Nat.le_refl,e1,z1,sz]
 rw [numA,ds_zero,ds_one]
 rfl
theorem whole_run (s:Bool) (m:Nat) (h:Heap):Runs K 177 #[intA s m] h fun r _=>r=numA s m 1:=by
 refine Runs.of Kok (Does.intro rfl (by decide +kernel) Tryz.func177 rfl ?_)
 have j1:h.size≤h.size+1:=by omega
 obtain ⟨w0,e0,x0,hs0,z0,z1⟩:=lay2 h (.cells [.bool s,.string (text (ds m))] 2) (.cells [.bool false,.string ByteArray.empty,.string ByteArray.empty] 3)
 obtain ⟨w1,e1,x1,hs1,z1',_⟩:=put1 x0 j1 (.cells [.bool s,.string (text (ds m)),.string ⟨#[49]⟩] 3)
 simp +decide only [go_sem,WR,WS,intA,e0,z0,z1,j1,e1,z1']
 rw [numA,ds_one]
 rfl
theorem new_run (s u:Bool) (m k:Nat) (h:Heap) (hk:k≠0) (h1:(ds m).length≤2900) (h2:(ds k).length≤2900) :
  Runs K 199 #[intA s m,intA u k] h fun r _=>r= .tuple #[numA (!decide (s=u) && decide (m / Nat.gcd m k≠0)) (m / Nat.gcd m k) (k / Nat.gcd m k),.bool true]:=by
 refine Runs.of Kok (Does.intro rfl (by decide +kernel) Tryz.func199 rfl ?_)
 obtain ⟨w0,e0,x0,hs0,z0,z1,z2⟩:=lay3 h (.cells [.bool s,.string (text (ds m))] 2) (.cells [.bool u,.string (text (ds k))] 2) (.cells [.bool false,.string ByteArray.empty,.string ByteArray.empty] 3)
 have hg:Nat.gcd m k≠0:=fun hh=>hk (Nat.gcd_eq_zero_iff.1 hh).2
 have hgl:(ds (Nat.gcd m k)).length≤2900:=Nat.le_trans (ds_mono (Nat.gcd_le_right m (Nat.pos_of_ne_zero hk))) h2
 simp +decide only [go_sem,WR,WS,intA,e0,z0,z1,zt,hk]
 refine W_call Kok x0.1 (gcd_run m k w0 h1 h2) fun r w1 x1 hr=> ?_
 subst hr
 have z1':w1.get (h.size+1)=_:=(x1.2 _ (by omega)).trans z1
 have z0':w1.get h.size=_:=(x1.2 _ (by omega)).trans z0
 simp +decide only [go_sem,WR,WS,z0']
 refine W_call Kok (x0.trans x1).1 (divmod_run m (Nat.gcd m k) w1 hg (by omega) (by omega)) fun r w2 x2 hr=> ?_
 subst hr
 have z1'':w2.get (h.size+1)=_:=(x2.2 _ (by have:=x1.1;omega)).trans z1'
 simp +decide only [go_sem,WR,WS,z1'']
 refine W_call Kok (x0.trans (x1.trans x2)).1 (divmod_run k (Nat.gcd m k) w2 hg (by omega) (by omega)) fun r w3 x3 hr=> ?_
 subst hr
 have x13:=x1.trans (x2.trans x3)
 have y0:w3.get h.size=_:=(x13.2 _ (by omega)).trans z0
 have y1:w3.get (h.size+1)=_:=(x13.2 _ (by omega)).trans z1
 have y2:w3.get (h.size+2)=_:=(x13.2 _ (by omega)).trans z2
 have j1:h.size≤h.size+2:=by omega
 obtain ⟨w4,e4,x4,hs4,z4,_⟩:=put1 (x0.trans x13) j1 (.cells [.bool (!decide (s=u) && decide (m / Nat.gcd m k≠0)),.string (text (ds (m / Nat.gcd m k))),.string (text (ds (k / Nat.gcd m k)))] 3)
 by_cases hsu:s=u
 ·have d1:decide (s=u)=true:=by simpa using hsu
  rw [d1] at e4 z4
  simp only [Bool.not_true,Bool.false_and] at e4 z4
  simp +decide only [go_sem,WR,WS,y0,y1,y2,d1,j1,e4,z4]
  simp [numA,hsu]
 ·have d1:decide (s=u)=false:=by simpa using hsu
  rw [d1] at e4 z4
  simp only [Bool.not_false,Bool.true_and,ne_eq,decide_not] at e4 z4
  simp +decide only [go_sem,WR,WS,y0,y1,y2,d1,zt,j1,e4,z4]
  simp only [numA,d1,Bool.not_false,Bool.true_and,ne_eq,decide_not]
theorem mul3_run (s u:Bool) (m k m2 k2:Nat) (h:Heap) (hk:k≠0) (hk2:k2≠0) (h1:(ds m).length≤1400) (h2:(ds k).length≤1400) (h3:(ds m2).length≤1400) (h4:(ds k2).length≤1400) :
  Runs K 188 #[numA s m k,numA u m2 k2] h fun r _=>r=numA (!decide ((s && decide (m≠0))=(u && decide (m2≠0))) && decide (m*m2≠0)) (m*m2 / Nat.gcd (m*m2) (k*k2)) (k*k2 / Nat.gcd (m*m2) (k*k2)):=by
 refine Runs.of Kok (Does.intro rfl (by decide +kernel) Tryz.func188 rfl ?_)
 obtain ⟨w0,e0,x0,hs0,z0,z1,z2⟩:=lay3 h (.cells [.bool s,.string (text (ds m)),.string (text (ds k))] 3) (.cells [.bool u,.string (text (ds m2)),.string (text (ds k2))] 3) (.cells [.bool false,.string ByteArray.empty,.string ByteArray.empty] 3)
 simp +decide only [go_sem,WR,WS,numA,e0,z0]
 refine W_call Kok x0.1 (top_run s m k w0 (by omega)) fun r w1 x1 hr=> ?_
 subst hr
 have a1:w1.get (h.size+1)=_:=(x1.2 _ (by omega)).trans z1
 simp +decide only [go_sem,WR,WS,a1]
 have y1:=x0.trans x1
 refine W_call Kok y1.1 (top_run u m2 k2 w1 (by omega)) fun r w2 x2 hr=> ?_
 subst hr
 have y2:=y1.trans x2
 simp +decide only [go_sem,WR,WS]
 refine W_call Kok y2.1 (mul2_run (s && decide (m≠0)) (u && decide (m2≠0)) m m2 w2 (by omega) (by omega)) fun r w3 x3 hr=> ?_
 subst hr
 generalize hS1:(!decide ((s && decide (m≠0))=(u && decide (m2≠0))) && decide (m*m2≠0))=S1
 have y3:=y2.trans x3
 have x13:=x1.trans (x2.trans x3)
 have a0:w3.get h.size=_:=(x13.2 _ (by omega)).trans z0
 simp +decide only [go_sem,WR,WS,a0]
 refine W_call Kok y3.1 (bot_run s m k w3 (by omega)) fun r w4 x4 hr=> ?_
 subst hr
 have y4:=y3.trans x4
 have x14:=x13.trans x4
 have a1:w4.get (h.size+1)=_:=(x14.2 _ (by omega)).trans z1
 simp +decide only [go_sem,WR,WS,a1]
 refine W_call Kok y4.1 (bot_run u m2 k2 w4 (by omega)) fun r w5 x5 hr=> ?_
 subst hr
 have y5:=y4.trans x5
 simp +decide only [go_sem,WR,WS]
 refine W_call Kok y5.1 (mul2_run false false k k2 w5 (by omega) (by omega)) fun r w6 x6 hr=> ?_
 subst hr
 generalize hS2:(!decide (false=false) && decide (k*k2≠0))=S2
 have y6:=y5.trans x6
 have l1:=ds_mul h1 h3
 have l2:=ds_mul h2 h4
 have hkk:k*k2≠0:=Nat.mul_ne_zero hk hk2
 simp +decide only [go_sem,WR,WS]
 refine W_call Kok y6.1 (new_run _ _ (m*m2) (k*k2) w6 hkk (by omega) (by omega)) fun r w7 x7 hr=> ?_
 subst hr
 have x17:=x14.trans (x5.trans (x6.trans x7))
 have y7:=y6.trans x7
 have a2:w7.get (h.size+2)=_:=(x17.2 _ (by omega)).trans z2
 have hsg:(!decide ((!decide ((s && decide (m≠0))=(u && decide (m2≠0))) && decide (m*m2≠0))=(!decide (false=false) && decide (k*k2≠0))) && decide (m*m2 / Nat.gcd (m*m2) (k*k2)≠0)) =
   (!decide ((s && decide (m≠0))=(u && decide (m2≠0))) && decide (m*m2≠0)):=by
  have e1:decide (m*m2 / Nat.gcd (m*m2) (k*k2)≠0)=decide (m*m2≠0):=decide_eq_decide.2 (Go.Proofs.YtachkofbmodnnaaGreatDoor.N14.gcd_quo hkk)
  rw [e1]
  cases (!decide ((s && decide (m≠0))=(u && decide (m2≠0))))<;>cases decide (m*m2≠0)<;>rfl
 subst hS1
 subst hS2
 rw [hsg]
 generalize (!decide ((s && decide (m≠0))=(u && decide (m2≠0))) && decide (m*m2≠0))=sg
 generalize m*m2 / Nat.gcd (m*m2) (k*k2)=M
 generalize k*k2 / Nat.gcd (m*m2) (k*k2)=D
 obtain ⟨w8,e8,x8,hs8,z8⟩:=lay1 w7 (.cells [.bool false,.string ByteArray.empty,.string ByteArray.empty] 3)
 have j1:h.size≤h.size+2:=by omega
 have j2:h.size≤w7.size:=y7.1
 obtain ⟨w9,e9,x9,hs9,z9,k9⟩:=put1 (y7.trans x8) j2 (.cells [.bool sg,.string (text (ds M)),.string (text (ds D))] 3)
 have lt7:h.size+2 < w7.size:=by have:=x17.1;omega
 have a3:w9.get (h.size+2)=_:=(k9 _ (by omega)).trans ((x8.2 _ lt7).trans a2)
 obtain ⟨w10,e10,x10,hs10,z10,_⟩:=put1 x9 j1 (.cells [.bool sg,.string (text (ds M)),.string (text (ds D))] 3)
 simp +decide only [go_sem,WR,WS,numA,e8,z8,j1,j2,e9,z9,a3,e10,z10]
theorem div3_run (s u:Bool) (m k m2 k2:Nat) (h:Heap) (hk:k≠0) (hm2:m2≠0) (h1:(ds m).length≤1400) (h2:(ds k).length≤1400) (h3:(ds m2).length≤1400) (h4:(ds k2).length≤1400) (hk2:k2≠0) :
  Runs K 190 #[numA s m k,numA u m2 k2] h fun r _=>r= .tuple #[numA (!decide ((s && decide (m≠0))=u) && decide (m≠0)) (m*k2 / Nat.gcd (m*k2) (k*m2)) (k*m2 / Nat.gcd (m*k2) (k*m2)),.bool true]:=by
 refine Runs.of Kok (Does.intro rfl (by decide +kernel) Tryz.func190 rfl ?_)
 obtain ⟨w0,e0,x0,hs0,z0,z1,z2⟩:=lay3 h (.cells [.bool s,.string (text (ds m)),.string (text (ds k))] 3) (.cells [.bool u,.string (text (ds m2)),.string (text (ds k2))] 3) (.cells [.bool false,.string ByteArray.empty,.string ByteArray.empty] 3)
 simp +decide only [go_sem,WR,WS,numA,e0,z0]
 refine W_call Kok x0.1 (top_run s m k w0 (by omega)) fun r w1 x1 hr=> ?_
 subst hr
 have a1:w1.get (h.size+1)=_:=(x1.2 _ (by omega)).trans z1
 simp +decide only [go_sem,WR,WS,a1]
 have y1:=x0.trans x1
 refine W_call Kok y1.1 (bot_run u m2 k2 w1 (by omega)) fun r w2 x2 hr=> ?_
 subst hr
 have y2:=y1.trans x2
 simp +decide only [go_sem,WR,WS]
 refine W_call Kok y2.1 (mul2_run (s && decide (m≠0)) false m k2 w2 (by omega) (by omega)) fun r w3 x3 hr=> ?_
 subst hr
 generalize hS1:(!decide ((s && decide (m≠0))=false) && decide (m*k2≠0))=S1
 have y3:=y2.trans x3
 have x13:=x1.trans (x2.trans x3)
 have a0:w3.get h.size=_:=(x13.2 _ (by omega)).trans z0
 simp +decide only [go_sem,WR,WS,a0]
 refine W_call Kok y3.1 (bot_run s m k w3 (by omega)) fun r w4 x4 hr=> ?_
 subst hr
 have y4:=y3.trans x4
 have x14:=x13.trans x4
 have a1:w4.get (h.size+1)=_:=(x14.2 _ (by omega)).trans z1
 simp +decide only [go_sem,WR,WS,a1]
 refine W_call Kok y4.1 (top_run u m2 k2 w4 (by omega)) fun r w5 x5 hr=> ?_
 subst hr
 have y5:=y4.trans x5
 simp +decide only [go_sem,WR,WS]
 refine W_call Kok y5.1 (mul2_run false (u && decide (m2≠0)) k m2 w5 (by omega) (by omega)) fun r w6 x6 hr=> ?_
 subst hr
 generalize hS2:(!decide (false=(u && decide (m2≠0))) && decide (k*m2≠0))=S2
 have y6:=y5.trans x6
 have l1:=ds_mul h1 h4
 have l2:=ds_mul h2 h3
 have hkk:k*m2≠0:=Nat.mul_ne_zero hk hm2
 simp +decide only [go_sem,WR,WS]
 refine W_call Kok y6.1 (new_run _ _ (m*k2) (k*m2) w6 hkk (by omega) (by omega)) fun r w7 x7 hr=> ?_
 subst hr
 have x17:=x14.trans (x5.trans (x6.trans x7))
 have y7:=y6.trans x7
 have a2:w7.get (h.size+2)=_:=(x17.2 _ (by omega)).trans z2
 have hmk:(m*k2≠0)=(m≠0):=propext ⟨fun hh h0=>hh (by rw [h0,Nat.zero_mul]),fun hh=>Nat.mul_ne_zero hh hk2⟩
 have hsg:(!decide ((!decide ((s && decide (m≠0))=false) && decide (m*k2≠0))=(!decide (false=(u && decide (m2≠0))) && decide (k*m2≠0))) && decide (m*k2 / Nat.gcd (m*k2) (k*m2)≠0)) =
   (!decide ((s && decide (m≠0))=u) && decide (m≠0)):=by
  have e1:decide (m*k2 / Nat.gcd (m*k2) (k*m2)≠0)=decide (m≠0):=decide_eq_decide.2 ((Go.Proofs.YtachkofbmodnnaaGreatDoor.N14.gcd_quo hkk).trans (by rw [hmk]))
  rw [e1]
  simp only [hmk,decide_eq_true hm2,decide_eq_true hkk,Bool.and_true]
  cases decide (m≠0)<;>cases s<;>cases u<;>rfl
 subst hS1
 subst hS2
 rw [hsg]
 generalize (!decide ((s && decide (m≠0))=u) && decide (m≠0))=sg
 generalize m*k2 / Nat.gcd (m*k2) (k*m2)=M
 generalize k*m2 / Nat.gcd (m*k2) (k*m2)=D
 have j1:h.size≤h.size+2:=by omega
 obtain ⟨w10,e10,x10,hs10,z10,_⟩:=put1 y7 j1 (.cells [.bool sg,.string (text (ds M)),.string (text (ds D))] 3)
 simp +decide only [go_sem,WR,WS,numA,a2,j1,e10,z10]
theorem zeros_run (n:Nat) (h:Heap) (hn:n≤1000000):Runs K 189 #[.int .i64 (n:Int)] h fun r _=>r= .string (text (List.replicate n 48)):=by
 refine Runs.of Kok (Does.intro rfl (by decide +kernel) Tryz.func189 rfl ?_)
 simp +decide only [go_sem,WR,WS]
 refine W_loop (α:=Nat) (fun i e w=>i≤n∧e.size=13∧Ext h w∧e.get 0= .int .i64 (n:Int)∧e.get 3= .string (text (List.replicate i 48))∧e.get 4= .int .i64 (i:Int)) (fun i=>n - i) 0 ?_ ?_
 ·exact ⟨Nat.zero_le _,by simp +decide only [go_sem],Ext.refl h,by simp +decide only [go_sem],by simp +decide only [go_sem];rfl,by simp +decide only [go_sem];rfl⟩
 ·rintro i e w ⟨hi,hsz,hxw,e0,e3,e4⟩ next
  by_cases hc:(i:Int) < (n:Int)
  ·have hcat:∀ t,ibinop Tryz.prog .add t (.string (text (List.replicate i 48))) (.string (⟨#[48]⟩:ByteArray))=some (.string (text (List.replicate (i+1) 48))):=fun t=>by
    rw [List.replicate_succ']
    exact cat_ok (b:=[48]) (by simp;omega)
   have i1:IntKind.i64.wrap ((i:Int)+1)=((i+1:Nat):Int):=by rw [wrap_i64 (by omega) (by omega)];omega
   simp +decide only [go_sem,WR,WS,hsz,e0,e3,e4,hc,hcat,i1]
   exact next (i+1) _ _ ⟨by omega,by simp +decide only [go_sem,hsz],hxw,by simp +decide only [go_sem,hsz,e0],by simp +decide only [go_sem,hsz],by simp +decide only [go_sem,hsz]⟩ (by omega)
  ·have:i=n:=by omega
   subst this
   simp +decide only [go_sem,WR,WS,hsz,e0,e3,e4,hc]
theorem times10_run (s:Bool) (m k:Nat) (n:Int) (h:Heap) (hk:k≠0) (h1:(ds m).length≤1400) (h2:(ds k).length≤1400) (hn1: -1300≤n) (hn2:n≤1300) :
  Runs K 176 #[numA s m k,.int .i64 n] h fun r _=>if 0≤n then r=numA (s && decide (m≠0)) (m*10 ^ n.toNat / Nat.gcd (m*10 ^ n.toNat) k) (k / Nat.gcd (m*10 ^ n.toNat) k)
   else r=numA (s && decide (m≠0)) (m / Nat.gcd m (k*10 ^ (-n).toNat)) (k*10 ^ (-n).toNat / Nat.gcd m (k*10 ^ (-n).toNat)):=by
 refine Runs.of Kok (Does.intro rfl (by decide +kernel) Tryz.func176 rfl ?_)
 obtain ⟨w0,e0,x0,hs0,z0,z1⟩:=lay2 h (.cells [.bool s,.string (text (ds m)),.string (text (ds k))] 3) (.cells [.bool false,.string ByteArray.empty,.string ByteArray.empty] 3)
 have j1:h.size≤h.size+1:=by omega
 by_cases hn:0≤n
 ·obtain ⟨N,rfl⟩:=Int.eq_ofNat_of_zero_le hn
  simp +decide only [go_sem,WR,WS,numA,e0,z0,hn]
  refine W_call Kok x0.1 (zeros_run N w0 (by omega)) fun r w1 x1 hr=> ?_
  subst hr
  have hcat:∀ t,ibinop Tryz.prog .add t (.string (⟨#[49]⟩:ByteArray)) (.string (text (List.replicate N 48)))=some (.string (text (ds (10 ^ N)))):=fun t=>by
   rw [ds_pow]
   exact cat_ok (a:=[49]) (by simp;omega)
  simp +decide only [go_sem,WR,WS,hcat]
  have hp:(ds (10 ^ N)).length≤1400:=by rw [ds_pow];simp;omega
  have hp0:10 ^ N≠0:=Nat.ne_of_gt (Nat.pow_pos (by omega))
  have e1:(⟨#[49]⟩:ByteArray)=text (ds 1):=by rw [ds_one];rfl
  have l1:(ds 1).length≤1400:=by rw [ds_one];simp
  rw [e1]
  refine W_call Kok (x0.trans x1).1 (mul3_run s false m k (10 ^ N) 1 w1 hk (by omega) h1 h2 hp l1) fun r w2 x2 hr=> ?_
  subst hr
  have z1':w2.get (h.size+1)=_:=((x1.trans x2).2 _ (by omega)).trans z1
  have hsg:(!decide ((s && decide (m≠0))=(false && decide (10 ^ N≠0))) && decide (m*10 ^ N≠0))=(s && decide (m≠0)):=by
   have:(m*10 ^ N≠0)=(m≠0):=propext ⟨fun hh h0=>hh (by rw [h0,Nat.zero_mul]),fun hh=>Nat.mul_ne_zero hh hp0⟩
   simp only [this,Bool.false_and]
   cases decide (m≠0)<;>cases s<;>rfl
  rw [hsg,Nat.mul_one]
  obtain ⟨w3,e3,x3,hs3,z3,_⟩:=put1 (x0.trans (x1.trans x2)) j1 (.cells [.bool (s && decide (m≠0)),.string (text (ds (m*10 ^ N / Nat.gcd (m*10 ^ N) k))),.string (text (ds (k / Nat.gcd (m*10 ^ N) k)))] 3)
  simp +decide only [go_sem,WR,WS,numA,z1',j1,e3,z3,Int.toNat_natCast]
 ·obtain ⟨N,hN⟩:∃ N:Nat, -n=(N:Int):=⟨(-n).toNat,by omega⟩
  have hn':n= -(N:Int):=by omega
  subst hn'
  have i1:IntKind.i64.wrap (0 - -(N:Int))=(N:Int):=by rw [wrap_i64 (by omega) (by omega)];omega
  simp +decide only [go_sem,WR,WS,numA,e0,z0,hn,i1]
  refine W_call Kok x0.1 (zeros_run N w0 (by omega)) fun r w1 x1 hr=> ?_
  subst hr
  have hcat:∀ t,ibinop Tryz.prog .add t (.string (⟨#[49]⟩:ByteArray)) (.string (text (List.replicate N 48)))=some (.string (text (ds (10 ^ N)))):=fun t=>by
   rw [ds_pow]
   exact cat_ok (a:=[49]) (by simp;omega)
  simp +decide only [go_sem,WR,WS,hcat]
  have hp:(ds (10 ^ N)).length≤1400:=by rw [ds_pow];simp;omega
  have hp0:10 ^ N≠0:=Nat.ne_of_gt (Nat.pow_pos (by omega))
  have e1:(⟨#[49]⟩:ByteArray)=text (ds 1):=by rw [ds_one];rfl
  have l1:(ds 1).length≤1400:=by rw [ds_one];simp
  rw [e1]
  refine W_call Kok (x0.trans x1).1 (div3_run s false m k (10 ^ N) 1 w1 hk hp0 h1 h2 hp l1 (by omega)) fun r w2 x2 hr=> ?_
  subst hr
  have z1':w2.get (h.size+1)=_:=((x1.trans x2).2 _ (by omega)).trans z1
  have hsg:(!decide ((s && decide (m≠0))=false) && decide (m≠0))=(s && decide (m≠0)):=by
   cases decide (m≠0)<;>cases s<;>rfl
  rw [hsg,Nat.mul_one]
  obtain ⟨w3,e3,x3,hs3,z3⟩:=lay1 w2 (.cells [.bool false,.string ByteArray.empty,.string ByteArray.empty] 3)
  have y2:=x0.trans (x1.trans x2)
  have j2:=y2.1
  obtain ⟨w4,e4,x4,hs4,z4,k4⟩:=put1 (y2.trans x3) j2 (.cells [.bool (s && decide (m≠0)),.string (text (ds (m / Nat.gcd m (k*10 ^ N)))),.string (text (ds (k*10 ^ N / Nat.gcd m (k*10 ^ N))))] 3)
  have lt2:h.size+1 < w2.size:=by have:=(x1.trans x2).1;omega
  have z1'':w4.get (h.size+1)=_:=(k4 _ (by omega)).trans ((x3.2 _ lt2).trans z1')
  obtain ⟨w5,e5,x5,hs5,z5,_⟩:=put1 x4 j1 (.cells [.bool (s && decide (m≠0)),.string (text (ds (m / Nat.gcd m (k*10 ^ N)))),.string (text (ds (k*10 ^ N / Nat.gcd m (k*10 ^ N))))] 3)
  have i2:(- -(N:Int)).toNat=N:=by omega
  simp +decide only [go_sem,WR,WS,numA,e3,z3,j1,j2,e4,z4,z1'',e5,z5,hn,i2]
end Go.Proofs.YtachkofbmodnnaaGreatDoor.R4
namespace Go.Proofs.YtachkofbmodnnaaGreatDoor.N20
open Go Go.Im Go.Im.Limbs Go.Im.Lexing Go.Proofs Go.RowKit Hd N1 N10 N13 N15 N16 N17 N18 N19
set_option maxRecDepth 100000
theorem nameOK_len {w:List Int} (h:nameOK w=true):1≤w.length:=by
 simp only [nameOK,Bool.and_eq_true,decide_eq_true_eq] at h
 exact h.1.1.1
theorem word_does {h0 h:Heap} (x:Ext h0 h) {l:List Int} {tv:Value} (t:Tx h0 tv l) (hne:l≠[]) (hm:l.length≤512) {xb at' i k:Nat} {xs:List XT} (L:LX h0.size h xb tv at' xs) (hi':i≤l.length) (hat:at'≤i) :
  Does K h0.size 109 #[.pointer (some ⟨xb,0,none⟩),.int .i64 (i:Int),.int .i64 (k:Int)] h fun v h'=>(wordS k (l.drop i)=none∧v= .bool false) ∨
   ∃ tk m rest,wordS k (l.drop i)=some (tk,m)∧v= .bool true∧Arr5 rest∧at' < i+m∧i+m≤l.length∧LX h0.size h' xb tv (i+m) (xs++[((at',tk),rest)]):=by
 have t':=t
 rcases t with ⟨hh,_⟩ | ⟨b,o,cs,rfl,hb,hgb,hol,hcs⟩
 ·exact absurd hh hne
 have L':=L
 obtain ⟨hl,hxb,hbd,hall,ov,hg,own,hv⟩:=L
 obtain ⟨w,hw⟩:∃ w,w=(l.drop i).takeWhile isW:=⟨_,rfl⟩
 have hwl:i+w.length≤l.length:=by
  have:=tw_le (p:=isW) (l.drop i)
  rw [List.length_drop] at this
  rw [hw]
  omega
 have hcut:(l.drop i).take (i+w.length - i)=w:=by
  rw [Nat.add_sub_cancel_left,hw]
  exact tw_take _
 refine Does.intro rfl (by decide +kernel) Tryz.func109 rfl ?_
 have k1:=x.1
 simp +decide only [go_sem,WR,WS]
 refine W_loop (α:=Nat) (fun j e w'=>j≤w.length∧e.size=50∧Ext h w'∧e.get 0= .pointer (some ⟨xb,0,none⟩)∧e.get 1= .int .i64 (i:Int)∧e.get 2= .int .i64 (k:Int)∧e.get 7= .int .i64 ((i+j:Nat):Int)) (fun j=>w.length - j) 0 ?_ ?_
 ·exact ⟨Nat.zero_le _,by simp +decide only [go_sem],Ext.refl h,by simp +decide only [go_sem],by simp +decide only [go_sem],by simp +decide only [go_sem],by simp +decide only [go_sem]⟩
 ·rintro j e w' ⟨hj,hsz,hxw,e0,e1,e2,e7⟩ next
  have x0w:=x.trans hxw
  have hgw:w'.get xb=_:=(hxw.2 _ hxb).trans hg
  by_cases hjl:j < w.length
  ·obtain ⟨y,hy,hwy⟩:=tw_lt (p:=isW) (l:=l.drop i) (k:=j) (by rw [← hw];exact hjl)
   rw [List.getElem?_drop] at hy
   have hil:=(List.getElem?_eq_some_iff.1 hy).1
   have hil':((i+j:Nat):Int) < ((l.length:Nat):Int):=by omega
   have i0:(0:Int)≤((i+j:Nat):Int):=by omega
   have i1:IntKind.i64.wrap (((i+j:Nat):Int)+1)=((i+(j+1):Nat):Int):=by rw [wrap_i64 (by omega) (by omega)];omega
   obtain ⟨b',o',cs',q1,q2,q3,q4⟩:=(t'.ext x0w).one hy
   cases q1
   simp +decide only [go_sem,WR,WS,hsz,e0,e1,e2,e7,hgw,hil',i0,Int.toNat_natCast,Nat.mul_one,q3,q4]
   refine W_call Kok x0w.1 (word_run y w') fun r w2 x2 hr=> ?_
   subst hr
   simp +decide only [go_sem,WR,WS,hsz,e0,e1,e2,e7,hwy,i1]
   exact next (j+1) _ _ ⟨by omega,by simp +decide only [go_sem,hsz],hxw.trans x2,by simp +decide only [go_sem,hsz,e0],by simp +decide only [go_sem,hsz,e1],by simp +decide only [go_sem,hsz,e2],by simp +decide only [go_sem,hsz]⟩ (by omega)
  ·have hjw:j=w.length:=by omega
   subst hjw
   apply W_join (α:=Unit) (fun _ e w'=>e.size=50∧Ext h w'∧e.get 0= .pointer (some ⟨xb,0,none⟩)∧e.get 1= .int .i64 (i:Int)∧e.get 2= .int .i64 (k:Int)∧e.get 7= .int .i64 ((i+w.length:Nat):Int))
   ·intro cont
    by_cases hil:((i+w.length:Nat):Int) < ((l.length:Nat):Int)
    case neg =>
     simp +decide only [go_sem,WR,hsz,e0,e1,e2,e7,hgw,hil]
     exact WS.2 (cont () _ _ ⟨by simp +decide only [go_sem,hsz],hxw,by simp +decide only [go_sem,hsz,e0],by simp +decide only [go_sem,hsz,e1],by simp +decide only [go_sem,hsz,e2],by simp +decide only [go_sem,hsz,e7]⟩)
    obtain ⟨y,hy⟩:∃ y,l[i+w.length]? =some y:=⟨_,List.getElem?_eq_getElem (by omega)⟩
    have hwy:isW y=false:=by
     refine tw_end (l:=l.drop i) ?_
     rw [List.getElem?_drop,← hw]
     exact hy
    have i0:(0:Int)≤((i+w.length:Nat):Int):=by omega
    obtain ⟨b',o',cs',q1,q2,q3,q4⟩:=(t'.ext x0w).one hy
    cases q1
    simp +decide only [go_sem,WR,hsz,e0,e1,e2,e7,hgw,hil,i0,Int.toNat_natCast,Nat.mul_one,q3,q4]
    refine W_call Kok x0w.1 (word_run y w') fun r w2 x2 hr=> ?_
    subst hr
    simp +decide only [go_sem,WR,hsz,e0,e1,e2,e7,hwy]
    exact WS.2 (cont () _ _ ⟨by simp +decide only [go_sem,hsz],hxw.trans x2,by simp +decide only [go_sem,hsz,e0],by simp +decide only [go_sem,hsz,e1],by simp +decide only [go_sem,hsz,e2],by simp +decide only [go_sem,hsz,e7]⟩)
   rintro _ e w' ⟨hsz,hxw,e0,e1,e2,e7⟩
   have x0w:=x.trans hxw
   have hgw:w'.get xb=_:=(hxw.2 _ hxb).trans hg
   obtain ⟨a',c1,c2,c3⟩:=(t'.ext x0w).cut hne (lo:=i) (hi:=i+w.length) (by omega) hwl
   rw [hcut] at c2 c3
   simp +decide only [go_sem,WR,WS,hsz,e0,e1,e2,e7,hgw,c1]
   refine W_call Kok x0w.1 (name_run w w' c2 (by omega)) fun r w2 x2 hr=> ?_
   subst hr
   have x02:=x0w.trans x2
   have hgw2:w2.get xb=_:=((hxw.trans x2).2 _ hxb).trans hg
   cases hn:nameOK w with
   | false =>
     simp +decide only [go_sem,WR,WS,hsz,e0,e1,e2,e7]
     simp only [wordS,← hw,hn]
     simp
   | true =>
     have hw1:=nameOK_len hn
     obtain ⟨a2,d1,d2,d3⟩:=(t'.ext x02).cut hne (lo:=i) (hi:=i+w.length) (by omega) hwl
     rw [hcut] at d2 d3
     simp +decide only [go_sem,WR,WS,hsz,e0,e1,e2,e7,hgw2,d1,d3,icvs_rv]
     refine W_does rfl (add_does x02 (L'.ext (hxw.trans x2)) ⟨k,w,0⟩ (upto:=i+w.length) (by omega) (by omega)) fun r w3 hr=> ?_
     obtain ⟨rfl,hL⟩:=hr
     simp +decide only [go_sem,WR,WS,hsz]
     exact .inr ⟨_,_,_,by simp only [wordS,← hw,hn,if_true],⟨_,_,_,_,_,_,_,_,_,_,_,rfl⟩,by omega,hwl,hL⟩
theorem textF_len:∀ {s:List Int} {k:Nat},textF s=some k→1≤k∧k≤s.length:=by
 intro s
 induction s using textF.induct with
 | case1=>intro k h;simp [textF] at h
 | case2 s ih =>
   intro k h
   simp only [textF,Option.map_eq_some_iff] at h
   obtain ⟨m,h1,rfl⟩:=h
   have:=ih h1
   simp only [List.length_cons]
   omega
 | case3 s h' =>
   intro k h
   rw [textF] at h
   ·cases h
    simp
   ·exact h'
 | case4 c s h1 h2 ih =>
   intro k h
   rw [textF] at h
   ·simp only [Option.map_eq_some_iff] at h
    obtain ⟨m,h3,rfl⟩:=h
    have:=ih h3
    simp only [List.length_cons]
    omega
   ·exact h1
   ·exact h2
theorem textF_at (l:List Int) (j:Nat):textF (l.drop j)=match l[j]? with
  | none=>none
  | some c=>if c=39 then (if l[j+1]? =some 39 then (textF (l.drop (j+2))).map (·+2) else some 1) else (textF (l.drop (j+1))).map (·+1):=by
 cases hc:l[j]? with
 | none =>
   rw [List.drop_of_length_le (by simpa using hc)]
   rfl
 | some c =>
   have hj:=(List.getElem?_eq_some_iff.1 hc).1
   have e1:l.drop j=c::l.drop (j+1):=by
    rw [List.drop_eq_getElem_cons hj,(List.getElem?_eq_some_iff.1 hc).2]
   rw [e1]
   simp only
   by_cases h39:c=39
   ·subst h39
    rw [if_pos rfl]
    cases hd:l[j+1]? with
    | none =>
      rw [List.drop_of_length_le (by simpa using hd)]
      rfl
    | some d =>
      have hj2:=(List.getElem?_eq_some_iff.1 hd).1
      have e2:l.drop (j+1)=d::l.drop (j+2):=by
       rw [List.drop_eq_getElem_cons hj2,(List.getElem?_eq_some_iff.1 hd).2]
      rw [e2]
      by_cases h39':d=39
      ·subst h39'
       rw [if_pos rfl]
       rfl
      ·rw [if_neg (by simpa using h39'),textF]
       intro s hs
       simp only [List.cons.injEq] at hs
       exact h39' hs.1
   ·rw [if_neg h39,textF]
    ·intro s hs _
     exact h39 hs
    ·exact h39
end Go.Proofs.YtachkofbmodnnaaGreatDoor.N20
namespace Go.Proofs.YtachkofbmodnnaaGreatDoor.N21
open Go Go.Im Go.Im.Limbs Go.Im.Lexing Go.Proofs Go.RowKit Hd N1 N10 N13 N15 N16 N17 N18 N19 N20
set_option maxRecDepth 100000
theorem text_does {h0 h:Heap} (x:Ext h0 h) {l:List Int} {tv:Value} (t:Tx h0 tv l) (hm:l.length≤512) {xb at':Nat} {xs:List XT} (L:LX h0.size h xb tv at' xs) (hat:at' < l.length) :
  Does K h0.size 110 #[.pointer (some ⟨xb,0,none⟩)] h fun v h'=>(textF (l.drop (at'+1))=none∧v= .bool false) ∨
   ∃ m rest,textF (l.drop (at'+1))=some m∧v= .bool true∧Arr5 rest∧at' < at'+1+m∧at'+1+m≤l.length∧LX h0.size h' xb tv (at'+1+m) (xs++[((at',⟨1,[],0⟩),rest)]):=by
 have t':=t
 rcases t with ⟨rfl,_⟩ | ⟨b,o,cs,rfl,hb,hgb,hol,hcs⟩
 ·simp at hat
 have L':=L
 obtain ⟨hl,hxb,hbd,hall,ov,hg,own,hv⟩:=L
 refine Does.intro rfl (by decide +kernel) Tryz.func110 rfl ?_
 have k1:=x.1
 have i1:IntKind.i64.wrap ((at':Int)+1)=((at'+1:Nat):Int):=by rw [wrap_i64 (by omega) (by omega)];omega
 simp +decide only [go_sem,WR,WS,hg,i1]
 refine W_loop (α:=Nat × List Int × Value) (fun k e w=>at'+1≤k.1∧k.1≤l.length∧textF (l.drop (at'+1))=(textF (l.drop k.1)).map (·+(k.1 - (at'+1)))∧e.size=83∧Ext h w∧e.get 0= .pointer (some ⟨xb,0,none⟩)∧e.get 3=k.2.2∧e.get 4= .int .i64 (k.1:Int)∧Own h.size w 1 k.2.2 k.2.1.length (rv k.2.1)∧k.2.1.length≤k.1) (fun k=>l.length - k.1) (at'+1,[],.slice none 0 0) ?_ ?_
 ·refine ⟨Nat.le_refl _,hat,?_,by simp +decide only [go_sem],Ext.refl h,by simp +decide only [go_sem],by simp +decide only [go_sem],by simp +decide only [go_sem],Own.nil _ _ _,by simp⟩
  simp
 ·rintro ⟨p,ss,sv⟩ e w ⟨hp1,hp2,htx,hsz,hxw,e0,e3,e4,owns,hss⟩ next
  simp only at hp1 hp2 htx e3 e4 owns hss
  have x0w:=x.trans hxw
  have hgw:w.get xb=_:=(hxw.2 _ hxb).trans hg
  rw [textF_at l p] at htx
  by_cases hpl:(p:Int) < ((l.length:Nat):Int)
  case neg =>
   rw [List.getElem?_eq_none (by omega)] at htx
   simp +decide only [go_sem,WR,WS,hsz,e0,e3,e4,hgw,hpl]
   simp [htx]
  obtain ⟨y,hy⟩:∃ y,l[p]? =some y:=⟨_,List.getElem?_eq_getElem (by omega)⟩
  rw [hy] at htx
  simp only at htx
  have i0:(0:Int)≤(p:Int):=by omega
  have i2:IntKind.i64.wrap ((p:Int)+1)=((p+1:Nat):Int):=by rw [wrap_i64 (by omega) (by omega)];omega
  have i3:IntKind.i64.wrap ((p:Int)+2)=((p+2:Nat):Int):=by rw [wrap_i64 (by omega) (by omega)];omega
  obtain ⟨b',o',cs',q1,q2,q3,q4⟩:=(t'.ext x0w).one hy
  cases q1
  by_cases h39:y=39
  case neg =>
   rw [if_neg h39] at htx
   obtain ⟨w1,e1',x1,hs1,g1⟩:=lay1 w (.cells [.int .i32 y] 1)
   have hgw1:w1.get xb=_:=(x1.2 _ (Nat.lt_of_lt_of_le hxb hxw.1)).trans hgw
   obtain ⟨w2,e2',own2,hs2,x2⟩:=own_app2 (bytes:=4) (k:=1) (new:=[.int .i32 y]) k1 (hxw.trans x1) (owns.ext x1) (by omega) (by omega) rfl (by omega) (by omega)
   simp +decide only [go_sem,WR,WS,hsz,e0,e3,e4,hgw,hpl,i0,Int.toNat_natCast,Nat.mul_one,q3,q4,h39,e1',g1,e2',i2]
   refine next (p+1,ss++[y],_) _ _ ⟨by simp only;omega,by simp only;omega,?_,by simp +decide only [go_sem,hsz],x2,by simp +decide only [go_sem,hsz,e0],by simp +decide only [go_sem,hsz];rfl,by simp +decide only [go_sem,hsz],by rw [rv_append,List.length_append];exact own2,by simp;omega⟩ (by simp only;omega)
   rw [htx]
   simp only [Option.map_map]
   congr 1
   funext z
   simp
   omega
  subst h39
  rw [if_pos rfl] at htx
  by_cases hp2':l[p+1]? =some 39
  ·rw [if_pos hp2'] at htx
   have hp3:=(List.getElem?_eq_some_iff.1 hp2').1
   have hpl2:((p+1:Nat):Int) < ((l.length:Nat):Int):=by omega
   obtain ⟨b2,o2,cs2,p1,p2,p3,p4⟩:=(t'.ext x0w).one hp2'
   cases p1
   rw [q3] at p3
   cases p3
   have i4:(0:Int)≤((p+1:Nat):Int):=by omega
   obtain ⟨w1,e1',x1,hs1,g1⟩:=lay1 w (.cells [.int .i32 39] 1)
   obtain ⟨w2,e2',own2,hs2,x2⟩:=own_app2 (bytes:=4) (k:=1) (new:=[.int .i32 39]) k1 (hxw.trans x1) (owns.ext x1) (by omega) (by omega) rfl (by omega) (by omega)
   simp +decide only [go_sem,WR,WS,hsz,e0,e3,e4,hgw,hpl,i0,Int.toNat_natCast,Nat.mul_one,q3,q4,p4,i4,hpl2,e1',g1,e2',i2,i3]
   refine next (p+2,ss++[39],_) _ _ ⟨by simp only;omega,by simp only;omega,?_,by simp +decide only [go_sem,hsz],x2,by simp +decide only [go_sem,hsz,e0],by simp +decide only [go_sem,hsz];rfl,by simp +decide only [go_sem,hsz],by rw [rv_append,List.length_append];exact own2,by simp;omega⟩ (by simp only;omega)
   rw [htx]
   simp only [Option.map_map]
   congr 1
   funext z
   simp
   omega
  rw [if_neg hp2'] at htx
  have htx':textF (l.drop (at'+1))=some (p - at'):=by
   rw [htx]
   simp
   omega
  have hto:at'+1+(p - at')=p+1:=by omega
  apply W_join (α:=Unit) (fun _ e w'=>e.size=83∧w'=w∧e.get 0= .pointer (some ⟨xb,0,none⟩)∧e.get 3=sv∧e.get 4= .int .i64 (p:Int))
  ·intro cont
   obtain ⟨a,c,rfl⟩:=owns.shape
   by_cases hpl2:((p+1:Nat):Int) < ((l.length:Nat):Int)
   ·obtain ⟨y,hy⟩:∃ y,l[p+1]? =some y:=⟨_,List.getElem?_eq_getElem (by omega)⟩
    obtain ⟨b2,o2,cs2,p1,p2,p3,p4⟩:=(t'.ext x0w).one hy
    cases p1
    rw [q3] at p3
    cases p3
    have hy39:¬ y=39:=fun hh=>hp2' (by rw [hy,hh])
    have i4:(0:Int)≤((p+1:Nat):Int):=by omega
    simp +decide only [go_sem,WS]
    (rw [WR];simp +decide only [go_sem,WS,hsz,e0,e3,e4,hgw,hpl])
    (rw [WR];simp +decide only [go_sem,WS,hsz,e0,e3,e4,hgw,i0,hpl,Int.toNat_natCast,Nat.mul_one,q3,q4])
    (rw [WR];simp +decide only [go_sem,WS,hsz,e0,e3,e4,hgw,hpl,i0,Int.toNat_natCast,Nat.mul_one,q3,q4,p4,i4,hpl2,i2,hy39])
    exact cont () _ _ ⟨by simp +decide only [go_sem,hsz],rfl,by simp +decide only [go_sem,hsz,e0],by simp +decide only [go_sem,hsz,e3],by simp +decide only [go_sem,hsz,e4]⟩
   ·simp +decide only [go_sem,WS]
    (rw [WR];simp +decide only [go_sem,WS,hsz,e0,e3,e4,hgw,hpl])
    (rw [WR];simp +decide only [go_sem,WS,hsz,e0,e3,e4,hgw,i0,hpl,Int.toNat_natCast,Nat.mul_one,q3,q4])
    (rw [WR];simp +decide only [go_sem,WS,hsz,e0,e3,e4,hgw,hpl,i0,Int.toNat_natCast,Nat.mul_one,q3,q4,hpl2,i2])
    exact cont () _ _ ⟨by simp +decide only [go_sem,hsz],rfl,by simp +decide only [go_sem,hsz,e0],by simp +decide only [go_sem,hsz,e3],by simp +decide only [go_sem,hsz,e4]⟩
  rintro _ e w' ⟨hsz,rfl,e0,e3,e4⟩
  rw [htx']
  by_cases h1:ss.length=1
  ·obtain ⟨y,rfl⟩:=List.length_eq_one_iff.1 h1
   rcases owns with ⟨_,h2,_⟩ | ⟨sb,rfl,h2,h3,h4,h5⟩
   ·simp at h2
   have h4':w'.get sb= .cells [.int .i32 y] 1:=h4
   simp +decide only [go_sem,WR,WS,hsz,e0,e3,e4,h4']
   refine W_call Kok x0w.1 (char_run y w') fun r w2 x2 hr=> ?_
   obtain ⟨_,rfl,a,n,c,bb,a2,n2,c2,a3,n3,c3,m,rfl⟩:=hr
   simp +decide only [go_sem,WR,WS,hsz,e0,e3,e4,i2]
   refine W_does rfl (add_does (x0w.trans x2) (L'.ext (hxw.trans x2)) ⟨1,[],0⟩ (upto:=p+1) (by omega) (by omega)) fun r w3 hr=> ?_
   obtain ⟨rfl,hL⟩:=hr
   simp +decide only [go_sem,WR,WS,hsz]
   exact .inr ⟨_,_,rfl,⟨_,_,_,_,_,_,_,_,_,_,_,rfl⟩,by omega,by omega,by rw [hto];exact hL⟩
  ·obtain ⟨a,c,rfl⟩:=owns.shape
   have h1':¬ ((ss.length:Nat):Int)=1:=by omega
   simp +decide only [go_sem,WR,WS,hsz,e0,e3,e4,h1']
   refine W_call Kok x0w.1 (text_arr w' owns.sl (by omega)) fun r w2 x2 hr=> ?_
   obtain ⟨_,rfl,a,n,c,bb,a2,n2,c2,a3,n3,c3,m,rfl⟩:=hr
   simp +decide only [go_sem,WR,WS,hsz,e0,e3,e4,i2]
   refine W_does rfl (add_does (x0w.trans x2) (L'.ext (hxw.trans x2)) ⟨1,[],0⟩ (upto:=p+1) (by omega) (by omega)) fun r w3 hr=> ?_
   obtain ⟨rfl,hL⟩:=hr
   simp +decide only [go_sem,WR,WS,hsz]
   exact .inr ⟨_,_,rfl,⟨_,_,_,_,_,_,_,_,_,_,_,rfl⟩,by omega,by omega,by rw [hto];exact hL⟩
end Go.Proofs.YtachkofbmodnnaaGreatDoor.N21
namespace Go.Proofs.YtachkofbmodnnaaGreatDoor.N22
open Go Go.Im Go.Im.Limbs Go.Im.Lexing Go.Proofs Go.RowKit Hd N1 N10 N13 N15 N16 N17 N18 N19 N20 N21
set_option maxRecDepth 100000
def RatS (l:List Value):Prop:=∃ a n c b a2 n2 c2,l=[.slice a n c,.bool b,.slice a2 n2 c2]
theorem num_shape (h:Heap) {l:List Value} (hl:RatS l):Runs K 146 #[.agg l.toArray] h fun r _=>∃ l,r= .agg l.toArray∧Arr5 l:=by
 obtain ⟨a,n,c,s,a',n',c',rfl⟩:=hl
 refine Runs.of Kok (Does.intro rfl (by decide +kernel) Tryz.func146 rfl ?_)
 simp +decide only [go_sem,WR,WS]
 exact ⟨_,rfl,_,_,_,_,_,_,_,_,_,_,_,rfl⟩
def addN (at' n upto p:Nat) (r:Nat × Nat):Nat × Nat:=if r.1=0 then (n,upto - at') else (n+r.1,p - at'+r.2)
theorem blanks_at {l:List Int} {p j:Nat} (h:j < blanks (l.drop p)):l[p+j]? =some 32:=by
 obtain ⟨c,h1,h2⟩:=tw_lt h
 rw [List.getElem?_drop] at h1
 rw [h1]
 simpa using h2
theorem blanks_end {l:List Int} {p:Nat} {c:Int} (h:l[p+blanks (l.drop p)]? =some c):¬ c=32:=by
 rw [← List.getElem?_drop] at h
 simpa using tw_end h
theorem blanks_len {l:List Int} {p:Nat} (h:p≤l.length):p+blanks (l.drop p)≤l.length:=by
 have:=tw_le (p:=fun c=>decide (c=32)) (l.drop p)
 rw [List.length_drop] at this
 unfold blanks
 omega
theorem numsF_succ (f:Nat) (s:List Int):numsF (f+1) s=if begins s then match readS s with
   | none=>none
   | some k=>match numsF f (s.drop (k+blanks (s.drop k))) with
     | none=>none
     | some (0,_)=>some (1,k)
     | some (n+1,m)=>some (n+2,k+blanks (s.drop k)+m)
  else some (0,0):=rfl
theorem numsF_pos {f:Nat} {s:List Int} {m:Nat} (hb:begins s=true):numsF (f+1) s≠some (0,m):=by
 intro hq
 rw [numsF_succ,hb,if_pos rfl] at hq
 split at hq
 ·cases hq
 ·split at hq<;>cases hq
theorem numbers_does {h0 h:Heap} (x:Ext h0 h) {l:List Int} {tv:Value} (t:Tx h0 tv l) (hm:l.length≤512) {xb at':Nat} {xs:List XT} (L:LX h0.size h xb tv at' xs) (hat:at' < l.length) (hbg:begins (l.drop at')=true) :
  Does K h0.size 108 #[.pointer (some ⟨xb,0,none⟩)] h fun v h'=>(numsF 600 (l.drop at')=none∧v= .bool false) ∨
   ∃ n m rest,numsF 600 (l.drop at')=some (n,m)∧v= .bool true∧Arr5 rest∧at' < at'+m∧at'+m≤l.length∧LX h0.size h' xb tv (at'+m) (xs++[((at',⟨1,[],0⟩),rest)]):=by
 have t':=t
 rcases t with ⟨rfl,_⟩ | ⟨b,o,cs,rfl,hb,hgb,hol,hcs⟩
 ·simp at hat
 have hne:l≠[]:=by
  rintro rfl
  simp at hat
 have L':=L
 obtain ⟨hl,hxb,hbd,hall,ov,hg,own,hv⟩:=L
 refine Does.intro rfl (by decide +kernel) Tryz.func108 rfl ?_
 have k1:=x.1
 simp +decide only [go_sem,WR,WS,hg]
 refine W_loop (α:=Nat × Nat × Nat × List (List Value) × Value) (fun k e w=>at'≤k.2.1∧k.2.1≤k.1∧k.1≤l.length∧numsF 600 (l.drop at')=(numsF k.2.2.1 (l.drop k.1)).map (addN at' k.2.2.2.1.length k.2.1 k.1)∧513≤k.2.2.1+k.1∧e.size=86∧Ext h w∧e.get 0= .pointer (some ⟨xb,0,none⟩)∧e.get 3=k.2.2.2.2∧e.get 4= .int .i64 (k.1:Int)∧e.get 5= .int .i64 (k.2.1:Int) ∧
  Own h.size w 3 k.2.2.2.2 k.2.2.2.1.length k.2.2.2.1.flatten∧k.2.2.2.1.length≤k.1∧(∀ q ∈ k.2.2.2.1,RatS q)∧(k.2.2.2.1.length=0→k.1=at')∧(0 < k.2.2.2.1.length→at' < k.2.1)) (fun k=>l.length - k.1) (at',at',600,[],.slice none 0 0) ?_ ?_
 ·refine ⟨Nat.le_refl _,Nat.le_refl _,by omega,?_,by simp only;omega,by simp +decide only [go_sem],Ext.refl h,by simp +decide only [go_sem],by simp +decide only [go_sem],by simp +decide only [go_sem],by simp +decide only [go_sem],Own.nil _ _ _,by simp,by simp,by simp,by simp⟩
  simp only [List.length_nil]
  cases hq:numsF 600 (l.drop at') with
  | none=>rfl
  | some r =>
    obtain ⟨n,m⟩:=r
    simp only [Option.map_some,addN,Nat.sub_self,Nat.zero_add,Option.some.injEq]
    split
    ·rename_i h0'
     have h0':n=0:=h0'
     subst h0'
     exact absurd hq (numsF_pos (f:=599) hbg)
    ·rfl
 ·rintro ⟨p,upto,f,qs,sv⟩ e w ⟨hp1,hp2,hp3,hnm,hf,hsz,hxw,e0,e3,e4,e5,owns,hqs,hrs,hz,hpos⟩ next
  simp only at hp1 hp2 hp3 hnm hf e3 e4 e5 owns hqs hrs hz hpos
  have x0w:=x.trans hxw
  have hgw:w.get xb=_:=(hxw.2 _ hxb).trans hg
  obtain ⟨g,rfl⟩:∃ g,f=g+1:=⟨f - 1,by omega⟩
  cases hbp:begins (l.drop p) with
  | false =>
    have hn:numsF (g+1) (l.drop p)=some (0,0):=by rw [numsF_succ,hbp];rfl
    rw [hn] at hnm
    simp only [Option.map_some,addN,if_true] at hnm
    have hq0:0 < qs.length:=by
     refine Nat.pos_of_ne_zero fun hh=> ?_
     have:=hz hh
     subst this
     rw [hbg] at hbp
     cases hbp
    have hto:=hpos hq0
    have htl:at'+(upto - at')=upto:=by omega
    rw [hnm]
    simp +decide only [go_sem,WR,WS,hsz,e0,e3,e4,e5,hgw]
    refine W_call Kok x0w.1 (begins_run l p w (t'.ext x0w) (by omega) hp3) fun r w1 x1 hr=> ?_
    rw [hbp] at hr
    subst hr
    have x01:=x0w.trans x1
    have owns1:=owns.ext x1
    obtain ⟨a,c,rfl⟩:=owns.shape
    by_cases h1:qs.length=1
    ·obtain ⟨q,rfl⟩:=List.length_eq_one_iff.1 h1
     rcases owns1 with ⟨_,h2,_⟩ | ⟨sb,h2,h3,h4,h5,h6⟩
     ·simp at h2
     cases h2
     have hq:=hrs q (by simp)
     have hq':=hq
     obtain ⟨aa,na,ca,ba,ab,nb,cb,rfl⟩:=hq'
     have h5':w1.get sb= .cells [.slice aa na ca,.bool ba,.slice ab nb cb] 3:=h5
     simp +decide only [go_sem,WR,WS,hsz,e0,e3,e4,e5,h5']
     refine W_call Kok x01.1 (num_shape w1 hq) fun r w2 x2 hr=> ?_
     obtain ⟨_,rfl,a,n,c,bb,a2,n2,c2,a3,n3,c3,m,rfl⟩:=hr
     simp +decide only [go_sem,WR,WS,hsz,e0,e3,e4,e5]
     refine W_does rfl (add_does (x01.trans x2) (L'.ext (hxw.trans (x1.trans x2))) ⟨1,[],0⟩ (upto:=upto) (by omega) (by omega)) fun r w3 hr=> ?_
     obtain ⟨rfl,hL⟩:=hr
     simp +decide only [go_sem,WR,WS,hsz]
     exact .inr ⟨_,_,_,rfl,⟨_,_,_,_,_,_,_,_,_,_,_,rfl⟩,by omega,by omega,by rw [htl];exact hL⟩
    ·have h1':¬ ((qs.length:Nat):Int)=1:=by omega
     obtain ⟨w2,e2',x2,hs2,g2⟩:=lay1 w1 (.cells [.int .i64 ((qs.length:Nat):Int)] 1)
     simp +decide only [go_sem,WR,WS,hsz,e0,e3,e4,e5,h1',e2']
     refine W_call Kok (x01.trans x2).1 (nums_run (v:= .bool true) w2 g2 (by omega) hq0 (by omega) (owns1.ext x2).sl) fun r w3 x3 hr=> ?_
     obtain ⟨_,m0,rfl,a,n,c,bb,a2,n2,c2,a3,n3,c3,m,rfl⟩:=hr
     have x03:=x01.trans (x2.trans x3)
     obtain ⟨w4,e4',x4,hs4,g4⟩:=lay1 w3 (.cells [.slice none 0 0,.bool false,.slice none 0 0,.slice none 0 0,.bool false] 5)
     obtain ⟨w5,e5',x5,hs5,g5,k5⟩:=put1 x4 (Nat.le_refl _) (.cells [.slice a n c,.bool bb,.slice a2 n2 c2,.slice a3 n3 c3,.bool m] 5)
     simp +decide only [go_sem,WR,WS,hsz,e0,e3,e4,e5,e4',g4,x03.1,e5',g5]
     refine W_does rfl (add_does (x03.trans x5) (L'.ext (hxw.trans (x1.trans (x2.trans (x3.trans x5))))) ⟨1,[],0⟩ (upto:=upto) (by omega) (by omega)) fun r w6 hr=> ?_
     obtain ⟨rfl,hL⟩:=hr
     simp +decide only [go_sem,WR,WS,hsz]
     exact .inr ⟨_,_,_,rfl,⟨_,_,_,_,_,_,_,_,_,_,_,rfl⟩,by omega,by omega,by rw [htl];exact hL⟩
  | true =>
    have hunf:numsF (g+1) (l.drop p)=match readS (l.drop p) with
     | none=>none
     | some k=>match numsF g (l.drop (p+(k+blanks (l.drop (p+k))))) with
       | none=>none
       | some (0,_)=>some (1,k)
       | some (n+1,m)=>some (n+2,k+blanks (l.drop (p+k))+m):=by
     rw [numsF_succ,hbp,if_pos rfl]
     simp only [List.drop_drop]
    simp +decide only [go_sem,WR,WS,hsz,e0,e3,e4,e5,hgw]
    refine W_call Kok x0w.1 (begins_run l p w (t'.ext x0w) (by omega) hp3) fun r w1 x1 hr=> ?_
    rw [hbp] at hr
    subst hr
    have x01:=x0w.trans x1
    have hgw1:w1.get xb=_:=((hxw.trans x1).2 _ hxb).trans hg
    simp +decide only [go_sem,WR,WS,hsz,e0,e3,e4,e5,hgw1]
    refine W_call Kok x01.1 (read_run l p w1 (t'.ext x01) hne hm hp3 hbp) fun r w2 x2 hr=> ?_
    have x02:=x01.trans x2
    have hgw2:w2.get xb=_:=((hxw.trans (x1.trans x2)).2 _ hxb).trans hg
    rcases hr with ⟨hrd,q,y,m,s,d,rfl,hrat⟩ | ⟨k,q,m,s,d,hrd,hk1,hk2,rfl,hrat⟩
    ·obtain ⟨pp,qq,rfl,hp',hq'⟩:=hrat
     obtain ⟨aa,na,ca,rfl⟩:=natv_slice hp'
     obtain ⟨ab,nb,cb,rfl⟩:=natv_slice hq'
     obtain ⟨w4,e4',x4,hs4,g4⟩:=lay1 w2 (.cells [.slice none 0 0,.bool false,.slice none 0 0] 3)
     obtain ⟨w5,e5',x5,hs5,g5,k5⟩:=put1 x4 (Nat.le_refl _) (.cells [.slice aa na ca,.bool s,.slice ab nb cb] 3)
     rw [hunf,hrd] at hnm
     simp only [Option.map_none] at hnm
     simp +decide only [go_sem,WR,WS,hsz,e0,e3,e4,e5,e4',g4,x02.1,e5']
     simp [hnm]
    obtain ⟨pp,qq,rfl,hp',hq'⟩:=hrat
    obtain ⟨aa,na,ca,rfl⟩:=natv_slice hp'
    obtain ⟨ab,nb,cb,rfl⟩:=natv_slice hq'
    obtain ⟨w4,e4',x4,hs4,g4⟩:=lay1 w2 (.cells [.slice none 0 0,.bool false,.slice none 0 0] 3)
    obtain ⟨w5,e5',x5,hs5,g5,k5⟩:=put1 x4 (Nat.le_refl _) (.cells [.slice aa na ca,.bool s,.slice ab nb cb] 3)
    obtain ⟨w6,e6',x6,hs6,g6⟩:=lay1 w5 (.cells [.slice aa na ca,.bool s,.slice ab nb cb] 3)
    have xw6:Ext h w6:=hxw.trans (x1.trans (x2.trans (x5.trans x6)))
    obtain ⟨w7,e7',own7,hs7,x7⟩:=own_app2 (bytes:=56) (k:=1) (new:=[.slice aa na ca,.bool s,.slice ab nb cb]) k1 xw6 (owns.ext (x1.trans (x2.trans (x5.trans x6)))) (by omega) (by omega) rfl (by omega) (by omega)
    have hgw7:w7.get xb=_:=(x7.2 _ hxb).trans hg
    obtain ⟨B,hB⟩:∃ B,B=blanks (l.drop (p+k)):=⟨_,rfl⟩
    have hBl:p+k+B≤l.length:=by rw [hB];exact blanks_len hk1
    rw [hunf,hrd] at hnm
    simp only [← hB] at hnm
    simp +decide only [go_sem,WR,WS,hsz,e0,e3,e4,e5,e4',g4,x02.1,e5',g5,e6',g6,e7']
    refine W_loop (α:=Nat) (fun j e w'=>j≤B∧e.size=86∧w'=w7∧e.get 0= .pointer (some ⟨xb,0,none⟩)∧e.get 3= .slice (some ⟨w6.size,0,none⟩) (qs.length+1) big∧e.get 4= .int .i64 ((p+k+j:Nat):Int)∧e.get 5= .int .i64 ((p+k:Nat):Int)) (fun j=>B - j) 0 ?_ ?_
    ·exact ⟨Nat.zero_le _,by simp +decide only [go_sem,hsz],rfl,by simp +decide only [go_sem,hsz,e0],by simp +decide only [go_sem,hsz],by simp +decide only [go_sem,hsz],by simp +decide only [go_sem,hsz]⟩
    ·rintro j e w' ⟨hj,hsz,rfl,e0,e3,e4,e5⟩ next2
     have x07:=x.trans x7
     by_cases hjB:j < B
     ·have hy:=blanks_at (l:=l) (p:=p+k) (j:=j) (by rw [← hB];exact hjB)
      have hil:((p+k+j:Nat):Int) < ((l.length:Nat):Int):=by omega
      have i0:(0:Int)≤((p+k+j:Nat):Int):=by omega
      have i1:IntKind.i64.wrap (((p+k+j:Nat):Int)+1)=((p+k+(j+1):Nat):Int):=by rw [wrap_i64 (by omega) (by omega)];omega
      obtain ⟨b',o',cs',q1,q2,q3,q4⟩:=(t'.ext x07).one hy
      cases q1
      simp +decide only [go_sem,WR,WS,hsz,e0,e3,e4,e5,hgw7,hil,i0,Int.toNat_natCast,Nat.mul_one,q3,q4,i1]
      exact next2 (j+1) _ _ ⟨by omega,by simp +decide only [go_sem,hsz],rfl,by simp +decide only [go_sem,hsz,e0],by simp +decide only [go_sem,hsz,e3],by simp +decide only [go_sem,hsz],by simp +decide only [go_sem,hsz,e5]⟩ (by omega)
     ·have hjB':j=B:=by omega
      subst hjB'
      have fin:∀ e1:Env,e1.size=86→e1.get 0= .pointer (some ⟨xb,0,none⟩)→e1.get 3= .slice (some ⟨w6.size,0,none⟩) (qs.length+1) big→e1.get 4= .int .i64 ((p+k+j:Nat):Int)→e1.get 5= .int .i64 ((p+k:Nat):Int)→_ :=
       fun e1 f1 f2 f3 f4 f5=>next (p+k+j,p+k,g,qs++[[.slice aa na ca,.bool s,.slice ab nb cb]],.slice (some ⟨w6.size,0,none⟩) (qs.length+1) big) e1 w' ⟨by simp only;omega,by simp only;omega,by simp only;omega,by
        rw [hnm]
        simp only
        rw [show p+(k+j)=p+k+j by omega]
        cases numsF g (l.drop (p+k+j)) with
        | none=>rfl
        | some r =>
          obtain ⟨n,m⟩:=r
          cases n with
          | zero=>simp [addN];omega
          | succ n=>simp [addN];omega,by simp only;omega,f1,x7,f2,f3,f4,f5,by
        rw [List.flatten_append,List.length_append]
        exact own7,by simp;omega,by
        intro q hq
        rcases List.mem_append.1 hq with hq | hq
        ·exact hrs q hq
        ·rw [List.mem_singleton] at hq
         exact ⟨_,_,_,_,_,_,_,hq⟩,by simp,fun _=>by simp only;omega⟩ (by simp only;omega)
      by_cases hil:((p+k+j:Nat):Int) < ((l.length:Nat):Int)
      case neg =>
       simp +decide only [go_sem,WR,WS,hsz,e0,e3,e4,e5,hgw7,hil]
       exact fin _ (by simp +decide only [go_sem,hsz]) (by simp +decide only [go_sem,hsz,e0]) (by simp +decide only [go_sem,hsz,e3]) (by simp +decide only [go_sem,hsz,e4]) (by simp +decide only [go_sem,hsz,e5])
      obtain ⟨y,hy⟩:∃ y,l[p+k+j]? =some y:=⟨_,List.getElem?_eq_getElem (by omega)⟩
      have hy32:¬ y=32:=blanks_end (by rw [← hB];exact hy)
      have i0:(0:Int)≤((p+k+j:Nat):Int):=by omega
      obtain ⟨b',o',cs',q1,q2,q3,q4⟩:=(t'.ext x07).one hy
      cases q1
      simp +decide only [go_sem,WR,WS,hsz,e0,e3,e4,e5,hgw7,hil,i0,Int.toNat_natCast,Nat.mul_one,q3,q4,hy32]
      exact fin _ (by simp +decide only [go_sem,hsz]) (by simp +decide only [go_sem,hsz,e0]) (by simp +decide only [go_sem,hsz,e3]) (by simp +decide only [go_sem,hsz,e4]) (by simp +decide only [go_sem,hsz,e5])
end Go.Proofs.YtachkofbmodnnaaGreatDoor.N22
