/- Proved here: parts of the way to BEditBack (BR4 BR5 BR6); no condition beyond those that each theorem names. -/
import Derived.Test.YtachkofbmodnnaaGreatG13
import Derived.Test.YtachkofbmodnnaaGreatG12
set_option linter.unusedSimpArgs false
set_option linter.unusedVariables false
namespace Go.Im.Dec
open Go Go.Im Go.Im.Limbs Go.Proofs.YtachkofbmodnnaaGreat.N12
def intA (s:Bool) (n:Nat):Value:= .agg #[.bool s,.string (text (ds n))]
def numA (s:Bool) (m k:Nat):Value:= .agg #[.bool s,.string (text (ds m)),.string (text (ds k))]
theorem zt {n:Nat}:(text (ds n)=(⟨#[48]⟩:ByteArray))=(n=0):=propext ⟨fun h=>Znc.1 ((ZdT.1 (h.trans (show (⟨#[48]⟩:ByteArray)=text [48] from rfl))).trans ZdJ.symm),fun h=>by subst h;rw [ZdJ];rfl⟩
theorem Zkp (n:Nat):ds (10 ^ n)=49::List.replicate n 48:=by
 induction n with
 | zero=>exact Zfa
 | succ n ih =>
   have:1≤10 ^ n:=Nat.pow_pos Ya
   rw [Zli (by rw [Nat.pow_succ];omega),Nat.pow_succ,Nat.mul_div_cancel _ Ya,Nat.mul_mod_left,ih,List.replicate_succ']
   rfl
theorem ZiK {m k a b:Nat} (h1:(ds m).length≤a) (h2:(ds k).length≤b):(ds (m*k)).length≤a+b:=by
 have l1:=Nat.lt_of_lt_of_le (ZbJ m) (Nat.pow_le_pow_right Ya h1)
 have l2:=Nat.lt_of_lt_of_le (ZbJ k) (Nat.pow_le_pow_right Ya h2)
 have:=Zkq m
 refine Zkr ?_ Ya
 rw [Nat.pow_add]
 exact Nat.mul_lt_mul_of_lt_of_lt l1 l2
end Go.Im.Dec
namespace Go.Proofs.YtachkofbmodnnaaGreat.R4
open Go Go.Im Go.Im.Limbs Go.Im.Dec Go.Proofs Go.RowKit Hd N12 R1 R2 R3
set_option maxRecDepth 100000
theorem of_run (s:Bool) {t:List UInt8} (hd:Digs t) (hne:t≠[]) (hl:t.length≤1000000) (h:Heap):Runs K 150 #[.bool s,.string (text t)] h fun r _=>r=intA (s && decide (dec t≠0)) (dec t):=by
 refine Runs.of Kok (Does.intro rfl Ye Tryz.func150 rfl ?_)
 obtain ⟨w0,e0,x0,hs0,z0⟩:=lay1 h (.cells [.bool false,.string ByteArray.empty] 2)
 simp +decide only [go_sem,WR,WS,e0]
 refine Zaa Kok x0.1 (Zdu hd hne w0 Ya) fun r w1 x1 hr=> ?_
 subst hr
 have z1:w1.get h.size=_:=(x1.2 _ Ya).trans z0
 cases s
 ·obtain ⟨w2,e2,x2,hs2,z2,_⟩:=put1 (x0.trans x1) (Nat.le_refl _) (.cells [.bool false,.string (text (ds (dec t)))] 2)
  simp +decide only [go_sem,WR,WS,z1,e2,z2,Nat.le_refl]
  rfl
 ·obtain ⟨w2,e2,x2,hs2,z2,_⟩:=put1 (x0.trans x1) (Nat.le_refl _) (.cells [.bool (!decide (dec t=0)),.string (text (ds (dec t)))] 2)
  simp +decide only [go_sem,WR,WS,z1,zt,e2,z2,Nat.le_refl]
  simp [intA]
theorem Zqc (s:Bool) (n:Nat) (hl:(ds n).length≤1000000) (h:Heap):Runs K 150 #[.bool s,.string (text (ds n))] h fun r _=>r=intA (s && decide (n≠0)) n:=by
 have:=of_run s (ZbE n) (Zs6 n) hl h
 rwa [Zeo] at this
theorem Zfj (s u:Bool) (m k:Nat) (h:Heap) (h1:(ds m).length≤200000) (h2:(ds k).length≤200000):Runs K 169 #[intA s m,intA u k] h fun r _=>r=intA (!decide (s=u) && decide (m*k≠0)) (m*k):=by
 refine Runs.of Kok (Does.intro rfl Ye Tryz.func169 rfl ?_)
 obtain ⟨w0,e0,x0,hs0,z0,z1,z2⟩:=lay3 h (.cells [.bool s,.string (text (ds m))] 2) (.cells [.bool u,.string (text (ds k))] 2) (.cells [.bool false,.string ByteArray.empty] 2)
 simp +decide only [go_sem,WR,WS,intA,e0,z0,z1]
 refine Zaa Kok x0.1 (ZfW m k w0 h1 h2) fun r w1 x1 hr=> ?_
 subst hr
 have hl:=ZiK h1 h2
 simp +decide only [go_sem,WR,WS]
 refine Zaa Kok (x0.trans x1).1 (Zqc (!decide (s=u)) (m*k) Ya w1) fun r w2 x2 hr=> ?_
 subst hr
 have z2':w2.get (h.size+2)=_:=(x2.2 _ (by have:=x1.1;omega)).trans ((x1.2 _ Ya).trans z2)
 have j1:h.size≤h.size+2:=Ya
 obtain ⟨w3,e3,x3,hs3,z3,_⟩:=put1 (x0.trans (x1.trans x2)) j1 (.cells [.bool (!decide (s=u) && decide (m*k≠0)),.string (text (ds (m*k)))] 2)
 simp +decide only [go_sem,WR,WS,intA,z2',j1,e3,z3]
theorem Zg2 (s:Bool) (m k:Nat) (h:Heap) (hl:(ds m).length≤1000000):Runs K 170 #[numA s m k] h fun r _=>r=intA (s && decide (m≠0)) m:=by
 refine Runs.of Kok (Does.intro rfl Ye Tryz.func170 rfl ?_)
 obtain ⟨w0,e0,x0,hs0,z0,z1⟩:=lay2 h (.cells [.bool s,.string (text (ds m)),.string (text (ds k))] 3) (.cells [.bool false,.string ByteArray.empty] 2)
 simp +decide only [go_sem,WR,WS,numA,e0,z0]
 refine Zaa Kok x0.1 (Zqc s m hl w0) fun r w2 x2 hr=> ?_
 subst hr
 have z1':w2.get (h.size+1)=_:=(x2.2 _ Ya).trans z1
 have j1:h.size≤h.size+1:=Ya
 obtain ⟨w3,e3,x3,hs3,z3,_⟩:=put1 (x0.trans x2) j1 (.cells [.bool (s && decide (m≠0)),.string (text (ds m))] 2)
 simp +decide only [go_sem,WR,WS,intA,z1',j1,e3,z3]
theorem ZhH (s:Bool) (m k:Nat) (h:Heap) (hl:(ds k).length≤1000000):Runs K 171 #[numA s m k] h fun r _=>r=intA false k:=by
 refine Runs.of Kok (Does.intro rfl Ye Tryz.func171 rfl ?_)
 obtain ⟨w0,e0,x0,hs0,z0,z1⟩:=lay2 h (.cells [.bool s,.string (text (ds m)),.string (text (ds k))] 3) (.cells [.bool false,.string ByteArray.empty] 2)
 simp +decide only [go_sem,WR,WS,numA,e0,z0]
 refine Zaa Kok x0.1 (Zqc false k hl w0) fun r w2 x2 hr=> ?_
 subst hr
 have z1':w2.get (h.size+1)=_:=(x2.2 _ Ya).trans z1
 have j1:h.size≤h.size+1:=Ya
 obtain ⟨w3,e3,x3,hs3,z3,_⟩:=put1 (x0.trans x2) j1 (.cells [.bool false,.string (text (ds k))] 2)
 simp +decide only [go_sem,WR,WS,intA,z1',j1,e3,z3]
theorem Zbq (h:Heap):Runs K 146 #[] h fun r _=>r=numA false 0 1:=by
 refine Runs.of Kok (Does.intro rfl Ye Tryz.func146 rfl ?_)
 obtain ⟨w0,e0,x0,hs0,z0⟩:=lay1 h (.cells [.bool false,.string ByteArray.empty,.string ByteArray.empty] 3)
 obtain ⟨w1,e1,x1,hs1,z1,_⟩:=put1 x0 (Nat.le_refl _) (.cells [.bool false,.string ⟨#[48]⟩,.string ⟨#[49]⟩] 3)
 have sz:(Env.start 2 []).size=2:=rfl
 simp +decide only [go_sem,WR,WS,e0,z0,Nat.le_refl,e1,z1,sz]
 rw [numA,ZdJ,Zfa]
 rfl
theorem ZdQ (s:Bool) (m:Nat) (h:Heap):Runs K 149 #[intA s m] h fun r _=>r=numA s m 1:=by
 refine Runs.of Kok (Does.intro rfl Ye Tryz.func149 rfl ?_)
 have j1:h.size≤h.size+1:=Ya
 obtain ⟨w0,e0,x0,hs0,z0,z1⟩:=lay2 h (.cells [.bool s,.string (text (ds m))] 2) (.cells [.bool false,.string ByteArray.empty,.string ByteArray.empty] 3)
 obtain ⟨w1,e1,x1,hs1,z1',_⟩:=put1 x0 j1 (.cells [.bool s,.string (text (ds m)),.string ⟨#[49]⟩] 3)
 simp +decide only [go_sem,WR,WS,intA,e0,z0,z1,j1,e1,z1']
 rw [numA,Zfa]
 rfl
theorem ZfU (s u:Bool) (m k:Nat) (h:Heap) (hk:k≠0) (h1:(ds m).length≤2900) (h2:(ds k).length≤2900) :
  Runs K 168 #[intA s m,intA u k] h fun r _=>r= .tuple #[numA (!decide (s=u) && decide (m / Nat.gcd m k≠0)) (m / Nat.gcd m k) (k / Nat.gcd m k),.bool true]:=by
 refine Runs.of Kok (Does.intro rfl Ye Tryz.func168 rfl ?_)
 obtain ⟨w0,e0,x0,hs0,z0,z1,z2⟩:=lay3 h (.cells [.bool s,.string (text (ds m))] 2) (.cells [.bool u,.string (text (ds k))] 2) (.cells [.bool false,.string ByteArray.empty,.string ByteArray.empty] 3)
 have hg:Nat.gcd m k≠0:=fun hh=>hk (Nat.gcd_eq_zero_iff.1 hh).2
 have hgl:(ds (Nat.gcd m k)).length≤2900:=Nat.le_trans (ZeS (Nat.gcd_le_right m (Nat.pos_of_ne_zero hk))) h2
 simp +decide only [go_sem,WR,WS,intA,e0,z0,z1,zt,hk]
 refine Zaa Kok x0.1 (Zjy m k w0 h1 h2) fun r w1 x1 hr=> ?_
 subst hr
 have z1':w1.get (h.size+1)=_:=(x1.2 _ Ya).trans z1
 have z0':w1.get h.size=_:=(x1.2 _ Ya).trans z0
 simp +decide only [go_sem,WR,WS,z0']
 refine Zaa Kok (x0.trans x1).1 (Zbp m (Nat.gcd m k) w1 hg Ya Ya) fun r w2 x2 hr=> ?_
 subst hr
 have z1'':w2.get (h.size+1)=_:=(x2.2 _ (by have:=x1.1;omega)).trans z1'
 simp +decide only [go_sem,WR,WS,z1'']
 refine Zaa Kok (x0.trans (x1.trans x2)).1 (Zbp k (Nat.gcd m k) w2 hg Ya Ya) fun r w3 x3 hr=> ?_
 subst hr
 have x13:=x1.trans (x2.trans x3)
 have y0:w3.get h.size=_:=(x13.2 _ Ya).trans z0
 have y1:w3.get (h.size+1)=_:=(x13.2 _ Ya).trans z1
 have y2:w3.get (h.size+2)=_:=(x13.2 _ Ya).trans z2
 have j1:h.size≤h.size+2:=Ya
 obtain ⟨w4,e4,x4,hs4,z4,_⟩:=put1 (x0.trans x13) j1 (.cells [.bool (!decide (s=u) && decide (m / Nat.gcd m k≠0)),.string (text (ds (m / Nat.gcd m k))),.string (text (ds (k / Nat.gcd m k)))] 3)
 by_cases hsu:s=u
 ·have d1:decide (s=u)=true:=by simpa using hsu
  rw [d1] at e4 z4
  simp only [Bool.not_true,Bool.false_and] at e4 z4
  simp +decide only [go_sem,WR,WS,y0,y1,y2,d1,j1,e4,z4]
  simp [numA,hsu]
 ·have d1:decide (s=u)=false:=by simpa using hsu
  rw [d1] at e4 z4
  simp only [Bool.not_false,Bool.true_and,ne_eq,decide_not] at e4 z4
  simp +decide only [go_sem,WR,WS,y0,y1,y2,d1,zt,j1,e4,z4]
  simp only [numA,d1,Bool.not_false,Bool.true_and,ne_eq,decide_not]
theorem Zog (s u:Bool) (m k m2 k2:Nat) (h:Heap) (hk:k≠0) (hk2:k2≠0) (h1:(ds m).length≤1400) (h2:(ds k).length≤1400) (h3:(ds m2).length≤1400) (h4:(ds k2).length≤1400) :
  Runs K 158 #[numA s m k,numA u m2 k2] h fun r _=>r=numA (!decide ((s && decide (m≠0))=(u && decide (m2≠0))) && decide (m*m2≠0)) (m*m2 / Nat.gcd (m*m2) (k*k2)) (k*k2 / Nat.gcd (m*m2) (k*k2)):=by
 refine Runs.of Kok (Does.intro rfl Ye Tryz.func158 rfl ?_)
 obtain ⟨w0,e0,x0,hs0,z0,z1,z2⟩:=lay3 h (.cells [.bool s,.string (text (ds m)),.string (text (ds k))] 3) (.cells [.bool u,.string (text (ds m2)),.string (text (ds k2))] 3) (.cells [.bool false,.string ByteArray.empty,.string ByteArray.empty] 3)
 simp +decide only [go_sem,WR,WS,numA,e0,z0]
 refine Zaa Kok x0.1 (Zg2 s m k w0 Ya) fun r w1 x1 hr=> ?_
 subst hr
 have a1:w1.get (h.size+1)=_:=(x1.2 _ Ya).trans z1
 simp +decide only [go_sem,WR,WS,a1]
 have y1:=x0.trans x1
 refine Zaa Kok y1.1 (Zg2 u m2 k2 w1 Ya) fun r w2 x2 hr=> ?_
 subst hr
 have y2:=y1.trans x2
 simp +decide only [go_sem,WR,WS]
 refine Zaa Kok y2.1 (Zfj (s && decide (m≠0)) (u && decide (m2≠0)) m m2 w2 Ya Ya) fun r w3 x3 hr=> ?_
 subst hr
 generalize hS1:(!decide ((s && decide (m≠0))=(u && decide (m2≠0))) && decide (m*m2≠0))=S1
 have y3:=y2.trans x3
 have x13:=x1.trans (x2.trans x3)
 have a0:w3.get h.size=_:=(x13.2 _ Ya).trans z0
 simp +decide only [go_sem,WR,WS,a0]
 refine Zaa Kok y3.1 (ZhH s m k w3 Ya) fun r w4 x4 hr=> ?_
 subst hr
 have y4:=y3.trans x4
 have x14:=x13.trans x4
 have a1:w4.get (h.size+1)=_:=(x14.2 _ Ya).trans z1
 simp +decide only [go_sem,WR,WS,a1]
 refine Zaa Kok y4.1 (ZhH u m2 k2 w4 Ya) fun r w5 x5 hr=> ?_
 subst hr
 have y5:=y4.trans x5
 simp +decide only [go_sem,WR,WS]
 refine Zaa Kok y5.1 (Zfj false false k k2 w5 Ya Ya) fun r w6 x6 hr=> ?_
 subst hr
 generalize hS2:(!decide (false=false) && decide (k*k2≠0))=S2
 have y6:=y5.trans x6
 have l1:=ZiK h1 h3
 have l2:=ZiK h2 h4
 have hkk:k*k2≠0:=Nat.mul_ne_zero hk hk2
 simp +decide only [go_sem,WR,WS]
 refine Zaa Kok y6.1 (ZfU _ _ (m*m2) (k*k2) w6 hkk Ya Ya) fun r w7 x7 hr=> ?_
 subst hr
 have x17:=x14.trans (x5.trans (x6.trans x7))
 have y7:=y6.trans x7
 have a2:w7.get (h.size+2)=_:=(x17.2 _ Ya).trans z2
 have hsg:(!decide ((!decide ((s && decide (m≠0))=(u && decide (m2≠0))) && decide (m*m2≠0))=(!decide (false=false) && decide (k*k2≠0))) && decide (m*m2 / Nat.gcd (m*m2) (k*k2)≠0)) =
   (!decide ((s && decide (m≠0))=(u && decide (m2≠0))) && decide (m*m2≠0)):=by
  have e1:decide (m*m2 / Nat.gcd (m*m2) (k*k2)≠0)=decide (m*m2≠0):=decide_eq_decide.2 (Go.Proofs.YtachkofbmodnnaaGreat.N14.Zhz hkk)
  rw [e1]
  cases (!decide ((s && decide (m≠0))=(u && decide (m2≠0))))<;>cases decide (m*m2≠0)<;>rfl
 subst hS1
 subst hS2
 rw [hsg]
 generalize (!decide ((s && decide (m≠0))=(u && decide (m2≠0))) && decide (m*m2≠0))=sg
 generalize m*m2 / Nat.gcd (m*m2) (k*k2)=M
 generalize k*k2 / Nat.gcd (m*m2) (k*k2)=D
 obtain ⟨w8,e8,x8,hs8,z8⟩:=lay1 w7 (.cells [.bool false,.string ByteArray.empty,.string ByteArray.empty] 3)
 have j1:h.size≤h.size+2:=Ya
 have j2:h.size≤w7.size:=y7.1
 obtain ⟨w9,e9,x9,hs9,z9,k9⟩:=put1 (y7.trans x8) j2 (.cells [.bool sg,.string (text (ds M)),.string (text (ds D))] 3)
 have lt7:h.size+2 < w7.size:=by have:=x17.1;omega
 have a3:w9.get (h.size+2)=_:=(k9 _ Ya).trans ((x8.2 _ lt7).trans a2)
 obtain ⟨w10,e10,x10,hs10,z10,_⟩:=put1 x9 j1 (.cells [.bool sg,.string (text (ds M)),.string (text (ds D))] 3)
 simp +decide only [go_sem,WR,WS,numA,e8,z8,j1,j2,e9,z9,a3,e10,z10]
theorem ZoU (s u:Bool) (m k m2 k2:Nat) (h:Heap) (hk:k≠0) (hm2:m2≠0) (h1:(ds m).length≤1400) (h2:(ds k).length≤1400) (h3:(ds m2).length≤1400) (h4:(ds k2).length≤1400) (hk2:k2≠0) :
  Runs K 160 #[numA s m k,numA u m2 k2] h fun r _=>r= .tuple #[numA (!decide ((s && decide (m≠0))=u) && decide (m≠0)) (m*k2 / Nat.gcd (m*k2) (k*m2)) (k*m2 / Nat.gcd (m*k2) (k*m2)),.bool true]:=by
 refine Runs.of Kok (Does.intro rfl Ye Tryz.func160 rfl ?_)
 obtain ⟨w0,e0,x0,hs0,z0,z1,z2⟩:=lay3 h (.cells [.bool s,.string (text (ds m)),.string (text (ds k))] 3) (.cells [.bool u,.string (text (ds m2)),.string (text (ds k2))] 3) (.cells [.bool false,.string ByteArray.empty,.string ByteArray.empty] 3)
 simp +decide only [go_sem,WR,WS,numA,e0,z0]
 refine Zaa Kok x0.1 (Zg2 s m k w0 Ya) fun r w1 x1 hr=> ?_
 subst hr
 have a1:w1.get (h.size+1)=_:=(x1.2 _ Ya).trans z1
 simp +decide only [go_sem,WR,WS,a1]
 have y1:=x0.trans x1
 refine Zaa Kok y1.1 (ZhH u m2 k2 w1 Ya) fun r w2 x2 hr=> ?_
 subst hr
 have y2:=y1.trans x2
 simp +decide only [go_sem,WR,WS]
 refine Zaa Kok y2.1 (Zfj (s && decide (m≠0)) false m k2 w2 Ya Ya) fun r w3 x3 hr=> ?_
 subst hr
 generalize hS1:(!decide ((s && decide (m≠0))=false) && decide (m*k2≠0))=S1
 have y3:=y2.trans x3
 have x13:=x1.trans (x2.trans x3)
 have a0:w3.get h.size=_:=(x13.2 _ Ya).trans z0
 simp +decide only [go_sem,WR,WS,a0]
 refine Zaa Kok y3.1 (ZhH s m k w3 Ya) fun r w4 x4 hr=> ?_
 subst hr
 have y4:=y3.trans x4
 have x14:=x13.trans x4
 have a1:w4.get (h.size+1)=_:=(x14.2 _ Ya).trans z1
 simp +decide only [go_sem,WR,WS,a1]
 refine Zaa Kok y4.1 (Zg2 u m2 k2 w4 Ya) fun r w5 x5 hr=> ?_
 subst hr
 have y5:=y4.trans x5
 simp +decide only [go_sem,WR,WS]
 refine Zaa Kok y5.1 (Zfj false (u && decide (m2≠0)) k m2 w5 Ya Ya) fun r w6 x6 hr=> ?_
 subst hr
 generalize hS2:(!decide (false=(u && decide (m2≠0))) && decide (k*m2≠0))=S2
 have y6:=y5.trans x6
 have l1:=ZiK h1 h4
 have l2:=ZiK h2 h3
 have hkk:k*m2≠0:=Nat.mul_ne_zero hk hm2
 simp +decide only [go_sem,WR,WS]
 refine Zaa Kok y6.1 (ZfU _ _ (m*k2) (k*m2) w6 hkk Ya Ya) fun r w7 x7 hr=> ?_
 subst hr
 have x17:=x14.trans (x5.trans (x6.trans x7))
 have y7:=y6.trans x7
 have a2:w7.get (h.size+2)=_:=(x17.2 _ Ya).trans z2
 have hmk:(m*k2≠0)=(m≠0):=propext ⟨fun hh h0=>hh (by rw [h0,Nat.zero_mul]),fun hh=>Nat.mul_ne_zero hh hk2⟩
 have hsg:(!decide ((!decide ((s && decide (m≠0))=false) && decide (m*k2≠0))=(!decide (false=(u && decide (m2≠0))) && decide (k*m2≠0))) && decide (m*k2 / Nat.gcd (m*k2) (k*m2)≠0)) =
   (!decide ((s && decide (m≠0))=u) && decide (m≠0)):=by
  have e1:decide (m*k2 / Nat.gcd (m*k2) (k*m2)≠0)=decide (m≠0):=decide_eq_decide.2 ((Go.Proofs.YtachkofbmodnnaaGreat.N14.Zhz hkk).trans (by rw [hmk]))
  rw [e1]
  simp only [hmk,decide_eq_true hm2,decide_eq_true hkk,Bool.and_true]
  cases decide (m≠0)<;>cases s<;>cases u<;>rfl
 subst hS1
 subst hS2
 rw [hsg]
 generalize (!decide ((s && decide (m≠0))=u) && decide (m≠0))=sg
 generalize m*k2 / Nat.gcd (m*k2) (k*m2)=M
 generalize k*m2 / Nat.gcd (m*k2) (k*m2)=D
 have j1:h.size≤h.size+2:=Ya
 obtain ⟨w10,e10,x10,hs10,z10,_⟩:=put1 y7 j1 (.cells [.bool sg,.string (text (ds M)),.string (text (ds D))] 3)
 simp +decide only [go_sem,WR,WS,numA,a2,j1,e10,z10]
theorem ZhM (n:Nat) (h:Heap) (hn:n≤1000000):Runs K 159 #[.int .i64 (n:Int)] h fun r _=>r= .string (text (List.replicate n 48)):=by
 refine Runs.of Kok (Does.intro rfl Ye Tryz.func159 rfl ?_)
 simp +decide only [go_sem,WR,WS]
 refine Zah (α:=Nat) (fun i e w=>i≤n∧e.size=13∧Ext h w∧e.get 0= .int .i64 (n:Int)∧e.get 3= .string (text (List.replicate i 48))∧e.get 4= .int .i64 (i:Int)) (fun i=>n - i) 0 ?_ ?_
 ·exact ⟨Nat.zero_le _,Yc,Ext.refl h,Yc,by simp +decide only [go_sem];rfl,by simp +decide only [go_sem];rfl⟩
 ·rintro i e w ⟨hi,hsz,hxw,e0,e3,e4⟩ next
  by_cases hc:(i:Int) < (n:Int)
  ·have hcat:∀ t,Zaj Tryz.prog .add t (.string (text (List.replicate i 48))) (.string (⟨#[48]⟩:ByteArray))=some (.string (text (List.replicate (i+1) 48))):=fun t=>by
    rw [List.replicate_succ']
    exact Zb1 (b:=[48]) Yl
   have i1:IntKind.i64.wrap ((i:Int)+1)=((i+1:Nat):Int):=Yd
   simp +decide only [go_sem,WR,WS,hsz,e0,e3,e4,hc,hcat,i1]
   exact next (i+1) _ _ ⟨by omega,Yb,hxw,Yf,Yb,Yb⟩ Ya
  ·have:i=n:=by omega
   subst this
   simp +decide only [go_sem,WR,WS,hsz,e0,e3,e4,hc]
theorem ZiY (s:Bool) (m k:Nat) (n:Int) (h:Heap) (hk:k≠0) (h1:(ds m).length≤1400) (h2:(ds k).length≤1400) (hn1: -1300≤n) (hn2:n≤1300) :
  Runs K 148 #[numA s m k,.int .i64 n] h fun r _=>if 0≤n then r=numA (s && decide (m≠0)) (m*10 ^ n.toNat / Nat.gcd (m*10 ^ n.toNat) k) (k / Nat.gcd (m*10 ^ n.toNat) k)
   else r=numA (s && decide (m≠0)) (m / Nat.gcd m (k*10 ^ (-n).toNat)) (k*10 ^ (-n).toNat / Nat.gcd m (k*10 ^ (-n).toNat)):=by
 refine Runs.of Kok (Does.intro rfl Ye Tryz.func148 rfl ?_)
 obtain ⟨w0,e0,x0,hs0,z0,z1⟩:=lay2 h (.cells [.bool s,.string (text (ds m)),.string (text (ds k))] 3) (.cells [.bool false,.string ByteArray.empty,.string ByteArray.empty] 3)
 have j1:h.size≤h.size+1:=Ya
 by_cases hn:0≤n
 ·obtain ⟨N,rfl⟩:=Int.eq_ofNat_of_zero_le hn
  simp +decide only [go_sem,WR,WS,numA,e0,z0,hn]
  refine Zaa Kok x0.1 (ZhM N w0 Ya) fun r w1 x1 hr=> ?_
  subst hr
  have hcat:∀ t,Zaj Tryz.prog .add t (.string (⟨#[49]⟩:ByteArray)) (.string (text (List.replicate N 48)))=some (.string (text (ds (10 ^ N)))):=fun t=>by
   rw [Zkp]
   exact Zb1 (a:=[49]) Yl
  simp +decide only [go_sem,WR,WS,hcat]
  have hp:(ds (10 ^ N)).length≤1400:=by rw [Zkp];simp;omega
  have hp0:10 ^ N≠0:=Nat.ne_of_gt (Nat.pow_pos Ya)
  have e1:(⟨#[49]⟩:ByteArray)=text (ds 1):=by rw [Zfa];rfl
  have l1:(ds 1).length≤1400:=by rw [Zfa];simp
  rw [e1]
  refine Zaa Kok (x0.trans x1).1 (Zog s false m k (10 ^ N) 1 w1 hk Ya h1 h2 hp l1) fun r w2 x2 hr=> ?_
  subst hr
  have z1':w2.get (h.size+1)=_:=((x1.trans x2).2 _ Ya).trans z1
  have hsg:(!decide ((s && decide (m≠0))=(false && decide (10 ^ N≠0))) && decide (m*10 ^ N≠0))=(s && decide (m≠0)):=by
   have:(m*10 ^ N≠0)=(m≠0):=propext ⟨fun hh h0=>hh (by rw [h0,Nat.zero_mul]),fun hh=>Nat.mul_ne_zero hh hp0⟩
   simp only [this,Bool.false_and]
   cases decide (m≠0)<;>cases s<;>rfl
  rw [hsg,Nat.mul_one]
  obtain ⟨w3,e3,x3,hs3,z3,_⟩:=put1 (x0.trans (x1.trans x2)) j1 (.cells [.bool (s && decide (m≠0)),.string (text (ds (m*10 ^ N / Nat.gcd (m*10 ^ N) k))),.string (text (ds (k / Nat.gcd (m*10 ^ N) k)))] 3)
  simp +decide only [go_sem,WR,WS,numA,z1',j1,e3,z3,Int.toNat_natCast]
 ·obtain ⟨N,hN⟩:∃ N:Nat, -n=(N:Int):=⟨(-n).toNat,by omega⟩
  have hn':n= -(N:Int):=Ya
  subst hn'
  have i1:IntKind.i64.wrap (0 - -(N:Int))=(N:Int):=Yd
  simp +decide only [go_sem,WR,WS,numA,e0,z0,hn,i1]
  refine Zaa Kok x0.1 (ZhM N w0 Ya) fun r w1 x1 hr=> ?_
  subst hr
  have hcat:∀ t,Zaj Tryz.prog .add t (.string (⟨#[49]⟩:ByteArray)) (.string (text (List.replicate N 48)))=some (.string (text (ds (10 ^ N)))):=fun t=>by
   rw [Zkp]
   exact Zb1 (a:=[49]) Yl
  simp +decide only [go_sem,WR,WS,hcat]
  have hp:(ds (10 ^ N)).length≤1400:=by rw [Zkp];simp;omega
  have hp0:10 ^ N≠0:=Nat.ne_of_gt (Nat.pow_pos Ya)
  have e1:(⟨#[49]⟩:ByteArray)=text (ds 1):=by rw [Zfa];rfl
  have l1:(ds 1).length≤1400:=by rw [Zfa];simp
  rw [e1]
  refine Zaa Kok (x0.trans x1).1 (ZoU s false m k (10 ^ N) 1 w1 hk hp0 h1 h2 hp l1 Ya) fun r w2 x2 hr=> ?_
  subst hr
  have z1':w2.get (h.size+1)=_:=((x1.trans x2).2 _ Ya).trans z1
  have hsg:(!decide ((s && decide (m≠0))=false) && decide (m≠0))=(s && decide (m≠0)):=by
   cases decide (m≠0)<;>cases s<;>rfl
  rw [hsg,Nat.mul_one]
  obtain ⟨w3,e3,x3,hs3,z3⟩:=lay1 w2 (.cells [.bool false,.string ByteArray.empty,.string ByteArray.empty] 3)
  have y2:=x0.trans (x1.trans x2)
  have j2:=y2.1
  obtain ⟨w4,e4,x4,hs4,z4,k4⟩:=put1 (y2.trans x3) j2 (.cells [.bool (s && decide (m≠0)),.string (text (ds (m / Nat.gcd m (k*10 ^ N)))),.string (text (ds (k*10 ^ N / Nat.gcd m (k*10 ^ N))))] 3)
  have lt2:h.size+1 < w2.size:=by have:=(x1.trans x2).1;omega
  have z1'':w4.get (h.size+1)=_:=(k4 _ Ya).trans ((x3.2 _ lt2).trans z1')
  obtain ⟨w5,e5,x5,hs5,z5,_⟩:=put1 x4 j1 (.cells [.bool (s && decide (m≠0)),.string (text (ds (m / Nat.gcd m (k*10 ^ N)))),.string (text (ds (k*10 ^ N / Nat.gcd m (k*10 ^ N))))] 3)
  have i2:(- -(N:Int)).toNat=N:=Ya
  simp +decide only [go_sem,WR,WS,numA,e3,z3,j1,j2,e4,z4,z1'',e5,z5,hn,i2]
end Go.Proofs.YtachkofbmodnnaaGreat.R4
namespace Go.Im.Lexing
open Go.Proofs.YtachkofbmodnnaaGreat.N12 Go.Proofs.YtachkofbmodnnaaGreat.N14 Go.Im.Dec
def ZjA (s:List Int):Int :=
 if s[0]? =some 69 then
  if hi (s.drop 1)=1 then - ((dec (dbs (digs (s.drop (1+hi (s.drop 1))))):Nat):Int) else ((dec (dbs (digs (s.drop (1+hi (s.drop 1))))):Nat):Int)
 else 0
def Zlz (s:List Int):List Int:=if pt (s.drop (hi s+(digs (s.drop (hi s))).length))=1 then digs (s.drop (hi s+(digs (s.drop (hi s))).length+1)) else []
def Zhb (s:List Int):Bool × Nat × Int :=
 (decide (hi s=1),dec (dbs (digs (s.drop (hi s)))++dbs (Zlz s)),ZjA (s.drop (hi s+(digs (s.drop (hi s))).length+pt (s.drop (hi s+(digs (s.drop (hi s))).length))+(Zlz s).length)) - ((Zlz s).length:Int))
theorem Zn7 {l:List Int} {i A B C:Nat} {D T:List Int} {neg p:Bool} (hn:neg=decide (l[i]? =some 175)) (hA:A=i+if neg then 1 else 0) (hD:D=digs (l.drop A)) (hB:B=A+D.length) (hp:p=decide (l[B]? =some 46))
  (hT:T=if p then digs (l.drop (B+1)) else []) (hC:C=B+if p then 1+T.length else 0):Zhb (l.drop i)=(neg,dec (dbs D++dbs T),ZjA (l.drop C) - (T.length:Int)):=by
 have e1:hi (l.drop i)=if neg then 1 else 0:=by
  unfold hi
  rw [List.getElem?_drop,hn]
  simp
 have e2:i+hi (l.drop i)=A:=by rw [e1,hA]
 have e3:pt (l.drop B)=if p then 1 else 0:=by
  rw [Go.Proofs.YtachkofbmodnnaaGreat.N17.Zma,hp]
  simp
 have e4:Zlz (l.drop i)=T:=by
  unfold Zlz
  simp only [List.drop_drop]
  rw [e2,← hD,← Nat.add_assoc,e2,← hB,e3,show i+(hi (l.drop i)+D.length+1)=B+1 by omega,hT]
  cases p<;>rfl
 unfold Zhb
 rw [e4]
 simp only [List.drop_drop]
 have e6:i+(hi (l.drop i)+D.length)=B:=Ya
 rw [e2,← hD,e6,e3]
 have e5:i+(hi (l.drop i)+D.length+(if p=true then 1 else 0)+T.length)=C:=by
  cases p with
  | false =>
    have:T=[]:=hT
    subst this
    simp at hC ⊢
    omega
  | true =>
    simp at hC ⊢
    omega
 rw [e5,e1]
 cases neg<;>rfl
def ratN (x:Bool × Nat × Int):Value:=numA (x.1 && decide (x.2.1≠0)) (scM x.2.1 x.2.2) (scK x.2.1 x.2.2)
end Go.Im.Lexing
namespace Go.Proofs.YtachkofbmodnnaaGreat.R5
open Go Go.Im Go.Im.Limbs Go.Im.Lexing Go.Im.Dec Go.Proofs Go.RowKit Hd N12 N14 N16 N17 R1 R4
set_option maxRecDepth 100000
theorem Zdc (c:Int) (h:Heap):Runs K 131 #[.int .i32 c] h fun r _=>r= .bool (isD c):=by
 refine Runs.of Kok (Does.intro rfl Ye Tryz.func131 rfl ?_)
 by_cases a1:48≤c
 ·simp +decide only [go_sem,WR,WS,a1]
  simp [isD,a1]
 ·simp +decide only [go_sem,WR,WS,a1]
  simp [isD,a1]
theorem ZcG (l:List Int) (i:Nat) {v:Value} (h:Heap) (t:Tx h v l) (hm:l.length≤1099511627776) (hi:i≤l.length):Runs K 109 #[v,.int .i64 (i:Int)] h fun r _=>r= .bool (begins (l.drop i)):=by
 obtain ⟨a,c,rfl⟩:=t.open
 refine Runs.of Kok (Does.intro rfl Ye Tryz.func109 rfl ?_)
 have i0:¬ (i:Int) < 0:=Ya
 have i0':(0:Int)≤(i:Int):=Ya
 by_cases hil:((l.length:Nat):Int)≤(i:Int)
 ·have:begins (l.drop i)=false:=by
   rw [List.drop_of_length_le Ya]
   rfl
  simp +decide only [go_sem,WR,WS,i0,hil,this]
 obtain ⟨x,hx⟩:∃ x,l[i]? =some x:=⟨_,List.getElem?_eq_getElem Ya⟩
 obtain ⟨b,o,cs,q1,q2,q3,q4⟩:=t.one hx
 cases q1
 have hil':(i:Int) < ((l.length:Nat):Int):=Ya
 have b0:(l.drop i)[0]? =some x:=by rw [List.getElem?_drop];exact hx
 have b1:(l.drop i)[1]? =l[i+1]? :=by rw [List.getElem?_drop]
 simp +decide only [go_sem,WR,WS,i0,i0',hil,hil',Int.toNat_natCast,Nat.mul_one,q3,q4]
 refine Zaa Kok (Nat.le_refl _) (Zdc x h) fun r w x1 hr=> ?_
 subst hr
 obtain ⟨b',o',cs',q1,q2,q3,q4⟩:=(t.ext x1).one hx
 cases q1
 have i2:IntKind.i64.wrap ((i:Int)+1)=((i+1:Nat):Int):=Yd
 have i4:IntKind.i64.wrap (((l.length:Nat):Int) - 1)=((l.length - 1:Nat):Int):=Yd
 cases hd:isD x with
 | true =>
   have:begins (l.drop i)=true:=by simp [begins,b0,hd]
   simp +decide only [go_sem,WR,WS,this]
 | false =>
 by_cases h175:x=175
 ·have:begins (l.drop i)=true:=by simp [begins,b0,h175]
  simp +decide only [go_sem,WR,WS,i0',hil',Int.toNat_natCast,Nat.mul_one,q3,q4,h175,this]
 by_cases h46:x=46
 case neg =>
  have:begins (l.drop i)=false:=by simp [begins,b0,hd,h175,h46]
  simp +decide only [go_sem,WR,WS,i0',hil',Int.toNat_natCast,Nat.mul_one,q3,q4,h175,h46,this]
 by_cases hl2:(i:Int) < ((l.length - 1:Nat):Int)
 case neg =>
  have hnone:l[i+1]? =none:=List.getElem?_eq_none Ya
  have:begins (l.drop i)=false:=by simp [begins,b0,b1,hd,h175,h46,hnone,show isD 46=false from rfl]
  simp +decide only [go_sem,WR,WS,i0',hil',Int.toNat_natCast,Nat.mul_one,q3,q4,h175,h46,i4,hl2,this]
 obtain ⟨y,hy⟩:∃ y,l[i+1]? =some y:=⟨_,List.getElem?_eq_getElem Ya⟩
 obtain ⟨b2,o2,cs2,p1,p2,p3,p4⟩:=(t.ext x1).one hy
 cases p1
 rw [q3] at p3
 cases p3
 have i3:(0:Int)≤((i+1:Nat):Int):=Ya
 have i5:((i+1:Nat):Int) < ((l.length:Nat):Int):=Ya
 simp +decide only [go_sem,WR,WS,i0',hil',Int.toNat_natCast,Nat.mul_one,q3,q4,h175,h46,i2,i4,hl2,i3,i5,p4]
 refine Zaa Kok x1.1 (Zdc y w) fun r w2 x2 hr=> ?_
 subst hr
 simp +decide only [go_sem,WR,WS]
 simp [begins,b0,b1,hy,hd,h175,h46,show isD 46=false from rfl]
theorem Zg7 (l:List Int) (i:Nat) {v:Value} (h:Heap) (t:Tx h v l) (hm:l.length≤1099511627776) (hi:i≤l.length) :
  Runs K 147 #[v,.int .i64 (i:Int)] h fun r _=>r= .int .i64 (((digs (l.drop i)).length:Nat):Int):=by
 obtain ⟨a,c,rfl⟩:=t.open
 refine Runs.of Kok (Does.intro rfl Ye Tryz.func147 rfl ?_)
 obtain ⟨D,hD⟩:∃ D,D=digs (l.drop i):=⟨_,rfl⟩
 rw [← hD]
 have hDl:i+D.length≤l.length:=by rw [hD];exact ZbO hi
 simp +decide only [go_sem,WR,WS]
 refine Zah (α:=Nat) (fun k e w=>k≤D.length∧e.size=24∧Ext h w∧e.get 0= .slice a l.length c∧e.get 1= .int .i64 (i:Int)∧e.get 5= .int .i64 (k:Int)) (fun k=>D.length - k) 0 ?_ ?_
 ·exact ⟨Nat.zero_le _,Yc,Ext.refl h,Yc,Yc,by simp +decide only [go_sem];rfl⟩
 ·rintro k e w ⟨hk,hsz,hxw,e0,e1,e5⟩ next
  have i1:IntKind.i64.wrap ((i:Int)+(k:Int))=((i+k:Nat):Int):=Yd
  have i2:IntKind.i64.wrap ((k:Int)+1)=((k+1:Nat):Int):=Yd
  have i0:(0:Int)≤((i+k:Nat):Int):=Ya
  by_cases hkl:k < D.length
  ·obtain ⟨x,hx,hdx⟩:=ZhP (p:=isD) (l:=l.drop i) (k:=k) (by rw [← digs,← hD];exact hkl)
   rw [List.getElem?_drop] at hx
   have hil:=(List.getElem?_eq_some_iff.1 hx).1
   have hil':((i+k:Nat):Int) < ((l.length:Nat):Int):=Ya
   obtain ⟨b,o,cs,q1,q2,q3,q4⟩:=(t.ext hxw).one hx
   cases q1
   simp +decide only [go_sem,WR,WS,hsz,e0,e1,e5,i1,hil',i0,Int.toNat_natCast,Nat.mul_one,q3,q4]
   refine Zaa Kok hxw.1 (Zdc x w) fun r w2 x2 hr=> ?_
   subst hr
   simp +decide only [go_sem,WR,WS,hsz,e0,e1,e5,hdx,i2]
   exact next (k+1) _ _ ⟨by omega,Yb,hxw.trans x2,Yf,Yk,Yb⟩ Ya
  ·have hkD:k=D.length:=by omega
   subst hkD
   by_cases hil:((i+D.length:Nat):Int) < ((l.length:Nat):Int)
   case neg =>
    simp +decide only [go_sem,WR,WS,hsz,e0,e1,e5,i1,hil]
   obtain ⟨x,hx⟩:∃ x,l[i+D.length]? =some x:=⟨_,List.getElem?_eq_getElem Ya⟩
   have hdx:isD x=false:=by
    refine ZfC (l:=l.drop i) ?_
    rw [List.getElem?_drop,← digs,← hD]
    exact hx
   obtain ⟨b,o,cs,q1,q2,q3,q4⟩:=(t.ext hxw).one hx
   cases q1
   simp +decide only [go_sem,WR,WS,hsz,e0,e1,e5,i1,hil,i0,Int.toNat_natCast,Nat.mul_one,q3,q4]
   refine Zaa Kok hxw.1 (Zdc x w) fun r w2 x2 hr=> ?_
   subst hr
   simp +decide only [go_sem,WR,WS,hsz,e0,e1,e5,hdx]
end Go.Proofs.YtachkofbmodnnaaGreat.R5
namespace Go.Proofs.YtachkofbmodnnaaGreat.R6
open Go Go.Im Go.Im.Limbs Go.Im.Lexing Go.Im.Dec Go.Proofs Go.RowKit Hd N12 N14 N16 N17 R1 R4 R5
set_option maxRecDepth 100000
theorem Zq4 (l m:List Int):dbs (l++m)=dbs l++dbs m:=by simp [dbs]
set_option maxHeartbeats 4000000 in
theorem ZlZ (l:List Int) (i:Nat) {v:Value} (h:Heap) (t:Tx h v l) (hm:l.length≤512) (hi':i≤l.length) (hb:begins (l.drop i)=true) :
  Runs K 132 #[v,.int .i64 (i:Int)] h fun r w=>(ZdY (l.drop i)=none∧r= .tuple #[numA false 0 1,.int .i64 0,.bool false]) ∨
   ∃ k,ZdY (l.drop i)=some k∧i+k≤l.length∧i < i+k∧r= .tuple #[ratN (Zhb (l.drop i)),.int .i64 ((i+k:Nat):Int),.bool true]:=by
 obtain ⟨a,c,rfl⟩:=t.open
 refine Runs.of Kok (Does.intro rfl Ye Tryz.func132 rfl ?_)
 have i0:(0:Int)≤(i:Int):=Ya
 obtain ⟨w0,e0',x0,hs0,z0⟩:=lay1 h (.cells [.bool false,.string ByteArray.empty,.string ByteArray.empty] 3)
 have t0:=t.ext x0
 have il:i < l.length:=by
  refine Nat.lt_of_not_le fun hh=> ?_
  rw [List.drop_of_length_le hh] at hb
  cases hb
 have hne:l≠[]:=by rintro rfl;simp at il
 have il':(i:Int) < ((l.length:Nat):Int):=Ya
 obtain ⟨x,hx⟩:∃ x,l[i]? =some x:=⟨_,List.getElem?_eq_getElem il⟩
 obtain ⟨neg,hneg⟩:∃ neg,neg=decide (l[i]? =some 175):=⟨_,rfl⟩
 obtain ⟨A,hA⟩:∃ A,A=i+(if neg then 1 else 0):=⟨_,rfl⟩
 have hAl:A≤l.length:=by rw [hA];split<;>omega
 obtain ⟨D,hD⟩:∃ D,D=digs (l.drop A):=⟨_,rfl⟩
 obtain ⟨B,hB⟩:∃ B,B=A+D.length:=⟨_,rfl⟩
 have hBl:B≤l.length:=by rw [hB,hD];exact ZbO hAl
 obtain ⟨p,hp⟩:∃ p,p=decide (l[B]? =some 46):=⟨_,rfl⟩
 obtain ⟨T,hT⟩:∃ T,T=if p then digs (l.drop (B+1)) else []:=⟨_,rfl⟩
 obtain ⟨C,hC⟩:∃ C,C=B+if p then 1+T.length else 0:=⟨_,rfl⟩
 have hBp:p=true→B+1≤l.length:=fun hh=>by
  rw [hp,decide_eq_true_eq] at hh
  exact (List.getElem?_eq_some_iff.1 hh).1
 have hCl:C≤l.length:=by
  rw [hC]
  cases hpp:p with
  | false=>simpa using hBl
  | true =>
    rw [hpp] at hT
    have:=ZbO (hBp hpp)
    simp only [if_true] at hT ⊢
    rw [← hT] at this
    omega
 rw [ZjY hneg hA hD hB hp hT hC,Zn7 hneg hA hD hB hp hT hC]
 simp +decide only [go_sem,WR,WS,e0']
 refine Zaa Kok Ya (ZcG l i w0 t0 Ya Ya) fun r w1 x1 hr=> ?_
 rw [hb] at hr
 subst hr
 have h01:=x0.trans x1
 have t1:=t.ext h01
 have z1:w1.get h.size=_:=(x1.2 _ Ya).trans z0
 obtain ⟨b,o,cs,q1,q2,q3,q4⟩:=t1.one hx
 cases q1
 have hng:neg=decide (x=175):=by rw [hneg,hx];simp
 simp +decide only [go_sem,WR,WS,il',i0,Int.toNat_natCast,Nat.mul_one,q3,q4,← hng]
 refine ZiU (J:=fun e w=>e.size=151∧e.get 0= .slice (some ⟨b,o,none⟩) l.length big∧e.get 1= .int .i64 (A:Int)∧e.get 4= .pointer (some ⟨h.size,0,none⟩)∧e.get 7= .bool neg∧w=w1) YB rfl ?_ ?_ ?_
 ·intro hn
  have i2:IntKind.i64.wrap ((i:Int)+1)=(A:Int):=YZ
  simp +decide only [go_sem,WR,WS,i2]
 ·intro hn
  have i2:(i:Int)=(A:Int):=by rw [hA,hn];simp
  simp +decide only [go_sem,WR,WS,i2]
 rintro e w ⟨hsz,e0,e1,e4,e7,rfl⟩
 simp +decide only [go_sem,WR,WS,hsz,e0,e1]
 refine Zaa Kok (by have:=h01.1;omega) (Zg7 l A _ t1 Ya hAl) fun r w2 x2 hr=> ?_
 subst hr
 rw [← hD]
 have h02:=h01.trans x2
 have t2:=t.ext h02
 have z2:w2.get h.size=_:=(x2.2 _ (by have:=x1.1;omega)).trans z1
 have i2:(0:Int)≤(B:Int):=Ya
 have iB:IntKind.i64.wrap ((A:Int)+((D.length:Nat):Int))=(B:Int):=Yd
 obtain ⟨a',c1,c2,c3⟩:=t2.cut hne (lo:=A) (hi:=B) Ya hBl
 have hcut:(l.drop A).take (B - A)=D:=by
  rw [hB,Nat.add_sub_cancel_left,hD]
  exact Zdt _
 have hrb:runesBytes D=text (dbs D):=ZcP fun c hc=>Zft (by rw [← hD];exact hc)
 rw [hcut] at c3
 have hDTd:Digs (dbs D++dbs T):=by
  intro u hu
  rcases List.mem_append.1 hu with hu | hu
  ·exact Zcw (l.drop A) u (by rw [← hD];exact hu)
  ·rw [hT] at hu
   split at hu
   ·exact Zcw _ u hu
   ·cases hu
 have hDTl:(dbs D++dbs T).length=D.length+T.length:=by rw [List.length_append,ZaA,ZaA]
 have hDl:D.length≤512:=Ya
 have hTl:T.length≤512:=by
  rw [hT]
  split
  ·rename_i hpp
   have:=ZbO (hBp hpp)
   omega
  ·simp
 have jj:h.size≤h.size:=Nat.le_refl _
 obtain ⟨N0,hN0⟩:∃ N0,N0=dec (dbs D++dbs T):=⟨_,rfl⟩
 have hN0':=dec_lt hDTd
 rw [hDTl,← hN0] at hN0'
 rw [← hN0]
 apply Za1 (α:=Unit) (fun _ e w=>e.size=151∧e.get 0= .slice (some ⟨b,o,none⟩) l.length big∧e.get 1= .int .i64 (C:Int)∧e.get 4= .pointer (some ⟨h.size,0,none⟩)∧e.get 7= .bool neg∧e.get 9= .string (text (dbs D++dbs T))∧e.get 10= .int .i64 ((T.length:Nat):Int) ∧
  Ext h w∧h.size < w.size∧w.get h.size= .cells [.bool false,.string ByteArray.empty,.string ByteArray.empty] 3∧¬ (p=true∧T=[]))
 ·intro cont
  simp +decide only [go_sem,WR,WS,hsz,e0,e1,e4,e7,iB,c1,c3,Zb0,hrb,Int.toNat_natCast]
  by_cases hpp:p=true
  case neg =>
   have hpp:p=false:=by simpa using hpp
   have hT0:T=[]:=by rw [hT,hpp];rfl
   have hCB:C=B:=by rw [hC,hpp];rfl
   have ct:dbs D++dbs T=dbs D:=by rw [hT0];simp [dbs]
   by_cases hlt:(B:Int) < ((l.length:Nat):Int)
   ·obtain ⟨y,hy⟩:∃ y,l[B]? =some y:=⟨_,List.getElem?_eq_getElem Ya⟩
    have hy46:¬ y=46:=by
     intro hh
     rw [hp,hy,hh] at hpp
     simp at hpp
    obtain ⟨b',o',cs',p1,p2,p3,p4⟩:=t2.one hy
    cases p1
    simp +decide only [go_sem,WS,hsz,e0,e1,e4,e7,hlt,i2,Int.toNat_natCast,Nat.mul_one,p3,p4,hy46]
    exact cont () _ _ ⟨Yb,Yf,by rw [hCB];simp +decide only [go_sem,WR,WS,hsz],Yg,Yi,Y4,by rw [hT0];simp +decide only [go_sem,WR,WS,hsz];rfl,h02,by have:=h02.1;have:=x1.1;have:=x2.1;omega,z2,by simp [hpp]⟩
   ·simp +decide only [go_sem,WS,hsz,e0,e1,e4,e7,hlt]
    exact cont () _ _ ⟨Yb,Yf,by rw [hCB];simp +decide only [go_sem,WR,WS,hsz],Yg,Yi,Y4,by rw [hT0];simp +decide only [go_sem,WR,WS,hsz];rfl,h02,by have:=h02.1;have:=x1.1;have:=x2.1;omega,z2,by simp [hpp]⟩
  have hy:l[B]? =some 46:=by rw [hp,decide_eq_true_eq] at hpp;exact hpp
  have hB1:=hBp hpp
  have hlt:(B:Int) < ((l.length:Nat):Int):=Ya
  have hT':=hT
  have hC':=hC
  rw [hpp] at hT' hC'
  simp only [if_true] at hT' hC'
  obtain ⟨b',o',cs',p1,p2,p3,p4⟩:=t2.one hy
  cases p1
  have i3:IntKind.i64.wrap ((B:Int)+1)=((B+1:Nat):Int):=Yd
  simp +decide only [go_sem,WS,hsz,e0,e1,e4,e7,hlt,i2,Int.toNat_natCast,Nat.mul_one,p3,p4]
  (rw [WR];simp +decide only [go_sem,WS,hsz,e0,e1,e4,e7,i3])
  refine Zaa Kok (by have:=h02.1;omega) (Zg7 l (B+1) _ t2 Ya hB1) fun r w3 x3 hr=> ?_
  subst hr
  rw [← hT']
  have h03:=h02.trans x3
  have z3:w3.get h.size=_:=(x3.2 _ (by have:=x1.1;have:=x2.1;omega)).trans z2
  by_cases hT0:T=[]
  ·have l0:((T.length:Nat):Int)=0:=by rw [hT0];rfl
   simp +decide only [go_sem,WR,WS,hsz,e0,e1,e4,e7,l0]
   refine Zaa Kok h03.1 (Zbq w3) fun r w4 x4 hr=> ?_
   subst hr
   have z4:w4.get h.size=_:=(x4.2 _ (by have:=x1.1;have:=x2.1;have:=x3.1;omega)).trans z3
   obtain ⟨wd,ed,xd,hsd,gd,kd⟩:=put1 (h03.trans x4) jj (.cells [.bool false,.string (text (ds 0)),.string (text (ds 1))] 3)
   simp +decide only [go_sem,WR,WS,numA,hsz,e0,e1,e4,e7,z4,jj,ed,gd]
   exact .inl (by rw [if_pos ⟨hpp,hT0⟩])
  ·have l0:¬ ((T.length:Nat):Int)=0:=by
    intro hh
    exact hT0 (List.eq_nil_of_length_eq_zero Ya)
   have i4:IntKind.i64.wrap (((B+1:Nat):Int)+((T.length:Nat):Int))=(C:Int):=Yd
   obtain ⟨a2,d1,d2,d3⟩:=(t.ext h03).cut hne (lo:=B+1) (hi:=C) Ya hCl
   have hcut2:(l.drop (B+1)).take (C - (B+1))=T:=by
    rw [show C - (B+1)=T.length by omega,hT']
    exact Zdt _
   rw [hcut2] at d3
   have hrb2:runesBytes T=text (dbs T):=ZcP fun c hc=>Zft (by rw [← hT'];exact hc)
   have hcat:∀ ty,Zaj Tryz.prog .add ty (.string (text (dbs D))) (.string (text (dbs T)))=some (.string (text (dbs D++dbs T))):=fun ty=>Zb1 (by rw [ZaA,ZaA];omega)
   simp +decide only [go_sem,WS,hsz,e0,e1,e4,e7]
   (rw [WR];simp +decide only [go_sem,WS,hsz,e0,e1,e4,e7,l0])
   (rw [WR];simp +decide only [go_sem,WS,hsz,e0,e1,e4,e7,i3,i4,d1,d3,Zb0,hrb2,hcat,Int.toNat_natCast])
   (rw [WR];simp +decide only [go_sem,WS,hsz,e0,e1,e4,e7,i3,i4])
   exact cont () _ _ ⟨Yb,Yf,Yb,Yg,Yi,Yb,Yb,h03,by have:=h03.1;have:=x1.1;have:=x2.1;have:=x3.1;omega,z3,by simp [hT0]⟩
 rintro _ e w ⟨hsz,e0,e1,e4,e7,e9,e10,hxw,hws,gw,hpT⟩
 rw [if_neg hpT]
 have t3:=t.ext hxw
 have hfail:∀ {X:Prop},(∀ {e2:Env} {w':Heap},True→X)→True:=fun _=>trivial
 by_cases hz:D.length+T.length=0
 ·have l0:(((dbs D++dbs T).length:Nat):Int)=0:=by rw [hDTl];omega
  simp +decide only [go_sem,WR,WS,hsz,e0,e1,e4,e7,e9,e10,l0]
  refine Zaa Kok hxw.1 (Zbq w) fun r w4 x4 hr=> ?_
  subst hr
  have z4:w4.get h.size=_:=(x4.2 _ hws).trans gw
  obtain ⟨wd,ed,xd,hsd,gd,kd⟩:=put1 (hxw.trans x4) jj (.cells [.bool false,.string (text (ds 0)),.string (text (ds 1))] 3)
  simp +decide only [go_sem,WR,WS,numA,hsz,e0,e1,e4,e7,z4,jj,ed,gd]
  refine .inl ?_
  cases Zcv (l.drop C) with
  | none=>rfl
  | some k=>simp only [if_pos (Or.inl hz:D.length+T.length=0∨200 < D.length+T.length)]
 have l0:¬ (((dbs D++dbs T).length:Nat):Int)=0:=by rw [hDTl];omega
 by_cases h200:200 < D.length+T.length
 ·have l1:(200:Int) < (((dbs D++dbs T).length:Nat):Int):=by rw [hDTl];omega
  simp +decide only [go_sem,WR,WS,hsz,e0,e1,e4,e7,e9,e10,l0,l1]
  refine Zaa Kok hxw.1 (Zbq w) fun r w4 x4 hr=> ?_
  subst hr
  have z4:w4.get h.size=_:=(x4.2 _ hws).trans gw
  obtain ⟨wd,ed,xd,hsd,gd,kd⟩:=put1 (hxw.trans x4) jj (.cells [.bool false,.string (text (ds 0)),.string (text (ds 1))] 3)
  simp +decide only [go_sem,WR,WS,numA,hsz,e0,e1,e4,e7,z4,jj,ed,gd]
  refine .inl ?_
  cases Zcv (l.drop C) with
  | none=>rfl
  | some k=>simp only [if_pos (Or.inr h200:D.length+T.length=0∨200 < D.length+T.length)]
 have l1:¬ (200:Int) < (((dbs D++dbs T).length:Nat):Int):=by rw [hDTl];omega
 have hor:¬ (D.length+T.length=0∨200 < D.length+T.length):=Ya
 have iC:(0:Int)≤(C:Int):=Ya
 apply Za1 (α:=Nat × Int) (fun k e w=>e.size=151∧e.get 1= .int .i64 ((C+k.1:Nat):Int)∧e.get 4= .pointer (some ⟨h.size,0,none⟩)∧e.get 7= .bool neg∧e.get 9= .string (text (dbs D++dbs T))∧e.get 10= .int .i64 ((T.length:Nat):Int)∧e.get 11= .int .i64 k.2 ∧
  Ext h w∧h.size < w.size∧w.get h.size= .cells [.bool false,.string ByteArray.empty,.string ByteArray.empty] 3∧Zcv (l.drop C)=some k.1∧ZjA (l.drop C)=k.2∧C+k.1≤l.length∧ -999≤k.2∧k.2≤999)
 ·intro cont
  (rw [WR];simp +decide only [go_sem,WS,hsz,e0,e1,e4,e7,e9,e10,l0,l1])
  (rw [WR];simp +decide only [go_sem,WS,hsz,e0,e1,e4,e7,e9,e10,l0,l1])
  by_cases h69:l[C]? =some 69
  case neg =>
   have hx0:Zcv (l.drop C)=some 0:=by unfold Zcv;rw [List.getElem?_drop,Nat.add_zero,if_neg h69]
   have hn0:ZjA (l.drop C)=0:=by unfold ZjA;rw [List.getElem?_drop,Nat.add_zero,if_neg h69]
   by_cases hlt:(C:Int) < ((l.length:Nat):Int)
   ·obtain ⟨y,hy⟩:∃ y,l[C]? =some y:=⟨_,List.getElem?_eq_getElem Ya⟩
    have hy69:¬ y=69:=fun hh=>h69 (by rw [hy,hh])
    obtain ⟨b',o',cs',p1,p2,p3,p4⟩:=t3.one hy
    cases p1
    (rw [WR];simp +decide only [go_sem,WS,hsz,e0,e1,e4,e7,e9,e10,hlt,iC,Int.toNat_natCast,Nat.mul_one,p3,p4,hy69])
    exact cont (0,0) _ _ ⟨Yb,by simp +decide only [go_sem,hsz,e1,Nat.add_zero],Yg,Yi,Yr,YA,Yb,hxw,hws,gw,hx0,hn0,by omega,by simp,by simp⟩
   ·(rw [WR];simp +decide only [go_sem,WS,hsz,e0,e1,e4,e7,e9,e10,hlt])
    exact cont (0,0) _ _ ⟨Yb,by simp +decide only [go_sem,hsz,e1,Nat.add_zero],Yg,Yi,Yr,YA,Yb,hxw,hws,gw,hx0,hn0,by omega,by simp,by simp⟩
  have hC1:=(List.getElem?_eq_some_iff.1 h69).1
  have hlt:(C:Int) < ((l.length:Nat):Int):=Ya
  obtain ⟨neg2,hneg2⟩:∃ neg2,neg2=decide (l[C+1]? =some 175):=⟨_,rfl⟩
  obtain ⟨A2,hA2⟩:∃ A2,A2=C+1+(if neg2 then 1 else 0):=⟨_,rfl⟩
  have hiA:hi (l.drop (C+1))=(if neg2 then 1 else 0):=by
   rw [Zju,hneg2]
   simp
  have hA2l:A2≤l.length:=by
   have:=Zpy (l:=l) (i:=C+1) Ya
   rw [hiA] at this
   omega
  obtain ⟨D2,hD2⟩:∃ D2,D2=digs (l.drop A2):=⟨_,rfl⟩
  have hAD2:A2+D2.length≤l.length:=by rw [hD2];exact ZbO hA2l
  have hexp:Zcv (l.drop C)=if D2.length=0∨3 < D2.length then none else some (A2 - C+D2.length):=by
   have e1:1+hi ((l.drop C).drop 1)=A2 - C:=by rw [List.drop_drop,hiA];omega
   unfold Zcv
   rw [List.getElem?_drop,Nat.add_zero,h69,if_pos rfl,e1,List.drop_drop,show C+(A2 - C)=A2 by omega,← hD2]
  have hexpN:ZjA (l.drop C)=if neg2 then - ((dec (dbs D2):Nat):Int) else ((dec (dbs D2):Nat):Int):=by
   have e1:1+hi ((l.drop C).drop 1)=A2 - C:=by rw [List.drop_drop,hiA];omega
   unfold ZjA
   rw [List.getElem?_drop,Nat.add_zero,h69,if_pos rfl,e1,List.drop_drop,List.drop_drop,show C+(A2 - C)=A2 by omega,← hD2,hiA]
   cases neg2<;>rfl
  obtain ⟨b',o',cs',p1,p2,p3,p4⟩:=t3.one h69
  cases p1
  have i5:IntKind.i64.wrap ((C:Int)+1)=((C+1:Nat):Int):=Yd
  (rw [WR];simp +decide only [go_sem,WS,hsz,e0,e1,e4,e7,e9,e10,hlt,iC,Int.toNat_natCast,Nat.mul_one,p3,p4])
  (rw [WR];simp +decide only [go_sem,WS,hsz,e0,e1,e4,e7,e9,e10,i5])
  refine ZhK (J:=fun e w'=>e.size=151∧e.get 0= .slice (some ⟨b,o,none⟩) l.length big∧e.get 1= .int .i64 ((C+1:Nat):Int)∧e.get 4= .pointer (some ⟨h.size,0,none⟩)∧e.get 7= .bool neg∧e.get 9= .string (text (dbs D++dbs T)) ∧
   e.get 10= .int .i64 ((T.length:Nat):Int)∧e.get 11= .int .i64 0∧e.get 12= .bool neg2∧w'=w) YB ?_ ?_
  ·by_cases hl1:((C+1:Nat):Int) < ((l.length:Nat):Int)
   case neg =>
    have hn2:neg2=false:=by
     rw [hneg2,List.getElem?_eq_none Ya]
     rfl
    simp +decide only [go_sem,WR,WS,hsz,e0,e1,e4,e7,e9,e10,hl1,hn2]
   obtain ⟨y,hy⟩:∃ y,l[C+1]? =some y:=⟨_,List.getElem?_eq_getElem Ya⟩
   obtain ⟨b3,o3,cs3,r1,r2,r3,r4⟩:=t3.one hy
   cases r1
   rw [p3] at r3
   cases r3
   have i6:(0:Int)≤((C+1:Nat):Int):=Ya
   have hn2:neg2=decide (y=175):=by rw [hneg2,hy];simp
   simp +decide only [go_sem,WR,WS,hsz,e0,e1,e4,e7,e9,e10,hl1,i6,Int.toNat_natCast,Nat.mul_one,p3,r4,hn2]
  rintro e w' ⟨hsz,e0,e1,e4,e7,e9,e10,e11,e12,rfl⟩
  simp +decide only [go_sem,WS]
  (rw [WR];simp +decide only [go_sem,WS,hsz,e12])
  refine ZiU (J:=fun e w2=>e.size=151∧e.get 0= .slice (some ⟨b,o,none⟩) l.length big∧e.get 1= .int .i64 (A2:Int)∧e.get 4= .pointer (some ⟨h.size,0,none⟩)∧e.get 7= .bool neg∧e.get 9= .string (text (dbs D++dbs T)) ∧
   e.get 10= .int .i64 ((T.length:Nat):Int)∧e.get 11= .int .i64 0∧e.get 12= .bool neg2∧w2=w') YB rfl ?_ ?_ ?_
  ·intro hn
   have i6:IntKind.i64.wrap (((C+1:Nat):Int)+1)=(A2:Int):=by rw [wrap_i64 Ya Ya,hA2,hn];simp
   simp +decide only [go_sem,WR,WS,hsz,e0,e1,e4,e7,e9,e10,e11,e12,i6]
  ·intro hn
   have i6:((C+1:Nat):Int)=(A2:Int):=by rw [hA2,hn];simp
   simp +decide only [go_sem,WR,WS,hsz,e0,e1,e4,e7,e9,e10,e11,e12,i6]
  rintro e w2 ⟨hsz,e0,e1,e4,e7,e9,e10,e11,e12,rfl⟩
  simp +decide only [go_sem,WS]
  (rw [WR];simp +decide only [go_sem,WS,hsz,e0,e1])
  refine Zaa Kok hxw.1 (Zg7 l A2 _ t3 Ya hA2l) fun r w3 x3 hr=> ?_
  subst hr
  rw [← hD2]
  have hx3:=hxw.trans x3
  have t4:=t.ext hx3
  have z3:w3.get h.size=_:=(x3.2 _ hws).trans gw
  by_cases hbad:D2.length=0∨3 < D2.length
  ·rw [if_pos hbad] at hexp
   have fin:∀ w4:Heap,Ext w3 w4→∃ wd,w4.set h.size (.cells [.bool false,.string (text (ds 0)),.string (text (ds 1))] 3)=wd∧wd.get h.size= .cells [.bool false,.string (text (ds 0)),.string (text (ds 1))] 3∧w4.get h.size= .cells [.bool false,.string ByteArray.empty,.string ByteArray.empty] 3:=by
    intro w4 x4
    obtain ⟨wd,ed,xd,hsd,gd,kd⟩:=put1 (hx3.trans x4) jj (.cells [.bool false,.string (text (ds 0)),.string (text (ds 1))] 3)
    exact ⟨wd,ed,gd,(x4.2 _ (by have:=x3.1;omega)).trans z3⟩
   by_cases hb0:D2.length=0
   ·have m1:((D2.length:Nat):Int)=0:=by omega
    simp +decide only [go_sem,WR,WS,hsz,e0,e1,e4,e7,e9,e10,e11,e12,m1]
    refine Zaa Kok hx3.1 (Zbq w3) fun r w4 x4 hr=> ?_
    subst hr
    obtain ⟨wd,ed,gd,z4⟩:=fin w4 x4
    simp +decide only [go_sem,WR,WS,numA,hsz,e0,e1,e4,e7,z4,jj,ed,gd]
    exact .inl (by rw [hexp])
   ·have m1:¬ ((D2.length:Nat):Int)=0:=by omega
    have m2:(3:Int) < ((D2.length:Nat):Int):=Ya
    simp +decide only [go_sem,WR,WS,hsz,e0,e1,e4,e7,e9,e10,e11,e12,m1,m2]
    refine Zaa Kok hx3.1 (Zbq w3) fun r w4 x4 hr=> ?_
    subst hr
    obtain ⟨wd,ed,gd,z4⟩:=fin w4 x4
    simp +decide only [go_sem,WR,WS,numA,hsz,e0,e1,e4,e7,z4,jj,ed,gd]
    exact .inl (by rw [hexp])
  rw [if_neg hbad] at hexp
  have m1:¬ ((D2.length:Nat):Int)=0:=Ya
  have m2:¬ (3:Int) < ((D2.length:Nat):Int):=Ya
  simp +decide only [go_sem,WS,hsz,e0,e1,e4,e7,e9,e10,e11,e12]
  (rw [WR];simp +decide only [go_sem,WS,hsz,e0,e1,e4,e7,e9,e10,e11,e12,m1,m2])
  (rw [WR];simp +decide only [go_sem,WS,hsz,e0,e1,e4,e7,e9,e10,e11,e12])
  have hD2d:∀ j,Digs (dbs (D2.take j)):=by
   intro j u hu
   have:=Zcw (l.drop A2)
   rw [← hD2] at this
   refine this u ?_
   simp only [dbs,List.mem_map] at hu ⊢
   obtain ⟨y,hy,rfl⟩:=hu
   exact ⟨y,List.mem_of_mem_take hy,rfl⟩
  have hD2b:∀ j,j≤D2.length→dec (dbs (D2.take j)) < 1000:=by
   intro j hj
   have h1:=dec_lt (hD2d j)
   rw [ZaA,List.length_take] at h1
   have h2:10 ^ min j D2.length≤10 ^ 3:=Nat.pow_le_pow_right Ya Ya
   omega
  refine Zah (α:=Nat) (fun j e w4=>j≤D2.length∧e.size=151∧w4=w3∧e.get 0= .slice (some ⟨b,o,none⟩) l.length big∧e.get 1= .int .i64 (A2:Int)∧e.get 4= .pointer (some ⟨h.size,0,none⟩)∧e.get 7= .bool neg∧e.get 9= .string (text (dbs D++dbs T)) ∧
   e.get 10= .int .i64 ((T.length:Nat):Int)∧e.get 11= .int .i64 ((dec (dbs (D2.take j)):Nat):Int)∧e.get 12= .bool neg2∧e.get 13= .int .i64 ((D2.length:Nat):Int)∧e.get 14= .int .i64 (j:Int)) (fun j=>D2.length - j) 0 ?_ ?_
  ·exact ⟨Nat.zero_le _,Yb,rfl,Yf,Yk,Yg,Yi,Yr,YA,by simp +decide only [go_sem,hsz,e11];rfl,Yy,Yb,by simp +decide only [go_sem,hsz];rfl⟩
  ·rintro j e w4 ⟨hj,hsz,rfl,e0,e1,e4,e7,e9,e10,e11,e12,e13,e14⟩ next
   by_cases hjl:j < D2.length
   ·obtain ⟨y,hy,hdy⟩:=ZhP (p:=isD) (l:=l.drop A2) (k:=j) (by rw [← digs,← hD2];exact hjl)
    have hyD:D2[j]? =some y:=by
     have h1:(digs (l.drop A2))[j]? =(l.drop A2)[j]? :=by
      show ((l.drop A2).takeWhile isD)[j]? =_
      rw [← Zdt (p:=isD) (l.drop A2),List.getElem?_take,if_pos (by rw [← digs,← hD2];exact hjl)]
     rw [hD2,h1]
     exact hy
    rw [List.getElem?_drop] at hy
    simp only [isD,Bool.and_eq_true,decide_eq_true_eq] at hdy
    obtain ⟨b3,o3,cs3,r1,r2,r3,r4⟩:=t4.one hy
    cases r1
    have hyl:=(List.getElem?_eq_some_iff.1 hy).1
    have hb3:=hD2b j hj
    have hjl':(j:Int) < ((D2.length:Nat):Int):=Ya
    have k1:IntKind.i64.wrap ((A2:Int)+(j:Int))=((A2+j:Nat):Int):=Yd
    have k2:(0:Int)≤((A2+j:Nat):Int):=Ya
    have k3:((A2+j:Nat):Int) < ((l.length:Nat):Int):=Ya
    have k4:IntKind.i32.wrap (y - 48)=y - 48:=wrap_i32 Ya Ya
    have k5:IntKind.i64.wrap (y - 48)=y - 48:=wrap_i64 Ya Ya
    have k6:IntKind.i64.wrap (((dec (dbs (D2.take j)):Nat):Int)*10)=((dec (dbs (D2.take j)):Nat):Int)*10:=wrap_i64 Ya Ya
    have k7:IntKind.i64.wrap (((dec (dbs (D2.take j)):Nat):Int)*10+(y - 48))=((dec (dbs (D2.take (j+1))):Nat):Int):=by
     rw [wrap_i64 Ya Ya]
     obtain ⟨hjg,hyg⟩:=List.getElem?_eq_some_iff.1 hyD
     rw [List.take_succ_eq_append_getElem hjg,hyg,Zq4]
     have:dbs [y]=[UInt8.ofNat y.toNat]:=rfl
     have e:y.toNat < 256:=Ya
     rw [this,Zbx,UInt8.toNat_ofNat_of_lt' Yaf]
     omega
    have k8:IntKind.i64.wrap ((j:Int)+1)=((j+1:Nat):Int):=Yd
    simp +decide only [go_sem,WR,WS,hsz,e0,e1,e4,e7,e9,e10,e11,e12,e13,e14,hjl',k1,k2,k3,Int.toNat_natCast,Nat.mul_one,r3,r4,k4,k5,k6,k7,k8]
    exact next (j+1) _ _ ⟨by omega,Yb,rfl,Yf,Yk,Yg,Yi,Yr,YA,Yb,Yy,Yw,Yb⟩ Ya
   ·have hjj:j=D2.length:=by omega
    subst hjj
    have hjl':¬ ((D2.length:Nat):Int) < ((D2.length:Nat):Int):=Ya
    rw [List.take_length] at e11
    have hb3:=hD2b D2.length (Nat.le_refl _)
    rw [List.take_length] at hb3
    have k9:IntKind.i64.wrap ((A2:Int)+((D2.length:Nat):Int))=((C+(A2 - C+D2.length):Nat):Int):=Yd
    simp +decide only [go_sem,WS]
    (rw [WR];simp +decide only [go_sem,WS,hsz,e13,e14,hjl'])
    (rw [WR];simp +decide only [go_sem,WS,hsz,e12])
    cases neg2 with
    | true =>
      have k10:IntKind.i64.wrap (0 - ((dec (dbs D2):Nat):Int))= - ((dec (dbs D2):Nat):Int):=Yd
      simp +decide only [go_sem,WS]
      (rw [WR];simp +decide only [go_sem,WS,hsz,e11,k10])
      (rw [WR];simp +decide only [go_sem,WS,hsz,e1,e13,k9])
      exact cont (A2 - C+D2.length, - ((dec (dbs D2):Nat):Int)) _ _ ⟨Yb,Yb,Yg,Yi,Yr,YA,Yb,hx3,by have:=x3.1;omega,z3,hexp,hexpN,by simp only;omega,by simp only;omega,by simp only;omega⟩
    | false =>
      simp +decide only [go_sem,WS]
      (rw [WR];simp +decide only [go_sem,WS,hsz,e1,e13,k9])
      exact cont (A2 - C+D2.length,((dec (dbs D2):Nat):Int)) _ _ ⟨Yb,Yb,Yg,Yi,Yr,YA,YD,hx3,by have:=x3.1;omega,z3,hexp,hexpN,by simp only;omega,by simp only;omega,by simp only;omega⟩
 rintro ⟨k,n⟩ e w ⟨hsz,e1,e4,e7,e9,e10,e11,hxw,hws,gw,hxs,hxn,hCk,hn1,hn2⟩
 simp only at e1 e11 hxs hxn hCk hn1 hn2
 rw [hxs,hxn]
 simp only
 rw [if_neg hor]
 have hsub:IntKind.i64.wrap (n - ((T.length:Nat):Int))=n - ((T.length:Nat):Int):=wrap_i64 Ya Ya
 have hDT0:dbs D++dbs T≠[]:=by
  intro hh
  rw [hh] at hDTl
  simp at hDTl
  omega
 have hds:(ds N0).length≤200:=by
  refine Zkr (Nat.lt_of_lt_of_le hN0' (Nat.pow_le_pow_right Ya Ya)) Ya
 simp +decide only [go_sem,WR,WS,hsz,e1,e4,e7,e9,e10,e11]
 refine Zaa Kok hxw.1 (of_run neg hDTd hDT0 Ya w) fun r w4 x4 hr=> ?_
 subst hr
 rw [← hN0]
 simp +decide only [go_sem,WR,WS,hsz]
 refine Zaa Kok (hxw.trans x4).1 (ZdQ _ N0 w4) fun r w5 x5 hr=> ?_
 subst hr
 simp +decide only [go_sem,WR,WS,hsz,e1,e4,e7,e9,e10,e11,hsub]
 refine Zaa Kok (hxw.trans (x4.trans x5)).1 (ZiY _ N0 1 (n - ((T.length:Nat):Int)) w5 Ya Ya (by rw [Zfa];simp) Ya Ya) fun r w6 x6 hr=> ?_
 have hr':r=ratN (neg,N0,n - ((T.length:Nat):Int)):=by
  unfold ratN
  simp only [scM,scK]
  have hbb:((neg && decide (N0≠0)) && decide (N0≠0))=(neg && decide (N0≠0)):=by cases neg<;>cases decide (N0≠0)<;>rfl
  by_cases hnn:0≤n - ((T.length:Nat):Int)
  ·rw [if_pos hnn] at hr ⊢
   rw [if_pos hnn,hr,hbb,Nat.gcd_one_right,Nat.div_one,Nat.div_one]
  ·rw [if_neg hnn] at hr ⊢
   rw [if_neg hnn,hr,hbb,Nat.one_mul]
 subst hr'
 have x06:=hxw.trans (x4.trans (x5.trans x6))
 have z6:w6.get h.size=_:=((x4.trans (x5.trans x6)).2 _ hws).trans gw
 have hCk':i+(C - i+k)=C+k:=by
  have:i≤C:=by rw [hC,hB,hA];omega
  omega
 have hCi:D.length+T.length≤C - i:=by
  rw [hC,hB,hA]
  cases p with
  | false =>
    have:T=[]:=hT
    simp [this]
    omega
  | true=>simp;omega
 unfold ratN
 generalize (neg && decide (N0≠0))=sg
 generalize scM N0 (n - ((T.length:Nat):Int))=M
 generalize scK N0 (n - ((T.length:Nat):Int))=M2
 obtain ⟨wd,ed,xd,hsd,gd,kd⟩:=put1 x06 jj (.cells [.bool sg,.string (text (ds M)),.string (text (ds M2))] 3)
 simp +decide only [go_sem,WR,WS,numA,hsz,e1,e4,e7,z6,jj,ed,gd]
 exact .inr ⟨_,rfl,by omega,by omega,by rw [hCk']⟩
end Go.Proofs.YtachkofbmodnnaaGreat.R6
