/- Proved here: parts of the way to CTokenCuts (CN14 CN15 CN16 CN17 CN18 CN19 CR2); no condition beyond those that each theorem names. -/
import Derived.Test.YtjlaenglmdpboaaGreatK9
set_option linter.unusedSimpArgs false
set_option linter.unusedVariables false
namespace Go.Proofs.YtjlaenglmdpboaaGreat.N14
open Go Go.Im Go.Im.Limbs Go.Proofs Go.RowKit Hd N1 N2 N10 N11 N12 N13
set_option maxRecDepth 100000
theorem pow_dig {n N:Nat} (h:n < N):(dig (10 ^ n)).length≤N:=dig_ten (Nat.pow_lt_pow_right (by omega) h)
theorem dig_mul {m k a b:Nat} (h1:(dig m).length≤a) (h2:(dig k).length≤b):(dig (m*k)).length≤a+b:=by
 rw [dig_length] at *
 rw [Nat.pow_add]
 have h3:m*k≤m*B ^ b:=Nat.mul_le_mul_left _ (Nat.le_of_lt h2)
 have h4:m*B ^ b < B ^ a*B ^ b:=Nat.mul_lt_mul_of_pos_right h1 (Nat.pow_pos B_pos)
 omega
theorem gcd_quo {m k:Nat} (hk:k≠0):m / Nat.gcd m k≠0↔m≠0:=by
 have hg:0 < Nat.gcd m k:=Nat.pos_of_ne_zero fun h0=>hk (Nat.eq_zero_of_gcd_eq_zero_right h0)
 constructor
 ·rintro h rfl
  simp at h
 ·intro h h0
  have h2:=Nat.div_mul_cancel (Nat.gcd_dvd_left m k)
  rw [h0,Nat.zero_mul] at h2
  exact h h2.symm
set_option maxHeartbeats 4000000 in
theorem rtimes_run (h:Heap) {v p2 q2:Value} {m k m2 k2 b:Nat} {s t:Bool} (hv:RatV h v m s k) (hb:b < h.size) (hg:h.get b= .cells [p2,.bool t,q2] 3) (hp2:NatV h (.agg #[p2]) m2) (hq2:NatV h (.agg #[q2]) k2)
  (hk:k≠0) (hk2:k2≠0) (l1:(dig m).length≤200000000) (l2:(dig k).length≤200000000) (l3:(dig m2).length≤200000000) (l4:(dig k2).length≤200000000) :
  Runs K 142 #[v,.slice (some ⟨b,0,none⟩) 1 1] h fun r w=>RatV w r (m*m2 / Nat.gcd (m*m2) (k*k2)) ((s != t) && decide (m*m2≠0)) (k*k2 / Nat.gcd (m*m2) (k*k2)):=by
 obtain ⟨p,q,rfl,hp,hq⟩:=hv
 obtain ⟨a,n,c,rfl⟩:=natv_slice hp
 obtain ⟨a',n',c',rfl⟩:=natv_slice hq
 obtain ⟨a2,n2,c2,rfl⟩:=natv_slice hp2
 obtain ⟨a2',n2',c2',rfl⟩:=natv_slice hq2
 refine Runs.of Kok (Does.intro rfl (by decide +kernel) Tryz.func142 rfl ?_)
 obtain ⟨w0,e0,x0,hs0,z0,z1⟩:=lay2 h (.cells [.slice a n c,.bool s,.slice a' n' c'] 3) (.cells [.slice none 0 0,.bool false,.slice none 0 0] 3)
 have j1:h.size≤h.size+1:=by omega
 simp +decide only [go_sem,WR,WS,e0]
 rw [W_round]
 have hg0:w0.get b=_:=(x0.2 _ hb).trans hg
 obtain ⟨w1,e1,x1,hs1,g1⟩:=lay1 w0 (.cells [.slice none 0 0,.bool false,.slice none 0 0] 3)
 have k1:h.size≤w0.size:=by omega
 have hg1:w1.get b=_:=(x1.2 _ (by omega)).trans hg0
 obtain ⟨w2,e2,x2,hs2,g2,k2'⟩:=put1 (x0.trans x1) k1 (.cells [.slice a2 n2 c2,.bool t,.slice a2' n2' c2'] 3)
 have z0:w2.get h.size=_:=(k2' _ (by omega)).trans ((x1.2 _ (by omega)).trans z0)
 have z1:w2.get (h.size+1)=_:=(k2' _ (by omega)).trans ((x1.2 _ (by omega)).trans z1)
 have up:∀ {v:Value} {M:Nat},NatV h v M→NatV w2 v M:=fun H=>((H.ext x0).ext x1).over g1 (by rfl) (by rfl) hs2 g2 k2'
 have np:=up hp
 have nq:=up hq
 have np2:=up hp2
 have nq2:=up hq2
 obtain ⟨w3,e3,x3,hs3,g3⟩:=lay1 w2 (.cells [.slice a2 n2 c2,.bool t] 2)
 simp +decide only [go_sem,WR,WS,e1,hg0,g1,k1,e2,z0,g2,e3]
 refine W_call Kok (by omega) (itimes_run w3 (m:=m) (s:=s) (b:=w2.size) ⟨_,rfl,np.ext x3⟩ (by omega) g3 (np2.ext x3) (by omega) (by omega)) fun r w4 x4 hr4=> ?_
 obtain ⟨pt,rfl,hpt⟩:=hr4
 have z0:w4.get h.size=_:=(x4.2 _ (by omega)).trans ((x3.2 _ (by omega)).trans z0)
 have g2':w4.get w0.size=_:=(x4.2 _ (by omega)).trans ((x3.2 _ (by omega)).trans g2)
 have x34:=x3.trans x4
 simp +decide only [go_sem,WR,WS,z0]
 refine W_call Kok (by have:=x34.1;omega) (under_run w4 (m:=m) (s:=s) ⟨_,_,rfl,np.ext x34,nq.ext x34⟩ hk) fun r w5 x5 hr5=> ?_
 obtain ⟨pu,rfl,hpu⟩:=hr5
 have g2':w5.get w0.size=_:=(x5.2 _ (by have:=x34.1;omega)).trans g2'
 have x35:=x34.trans x5
 simp +decide only [go_sem,WR,WS,g2']
 refine W_call Kok (by have:=x35.1;omega) (under_run w5 (m:=m2) (s:=t) ⟨_,_,rfl,np2.ext x35,nq2.ext x35⟩ hk2) fun r w6 x6 hr6=> ?_
 obtain ⟨pv,rfl,hpv⟩:=hr6
 obtain ⟨av,nv,cv,rfl⟩:=natv_slice hpv
 obtain ⟨w7,e7,x7,hs7,g7⟩:=lay1 w6 (.cells [.slice av nv cv,.bool false] 2)
 have x36:=x35.trans x6
 have x37:=x36.trans x7
 simp +decide only [go_sem,WR,WS,e7]
 refine W_call Kok (by have:=x36.1;omega) (itimes_run w7 (m:=k) (s:=false) (b:=w6.size) ⟨_,rfl,hpu.ext (x6.trans x7)⟩ (by omega) g7 (hpv.ext x7) (by omega) (by omega)) fun r w8 x8 hr8=> ?_
 obtain ⟨pw,rfl,hpw⟩:=hr8
 have x38:=x37.trans x8
 simp +decide only [go_sem,WR,WS]
 have hkk:k*k2≠0:=Nat.mul_ne_zero hk hk2
 refine W_call Kok (by have:=x38.1;omega) (new_run w8 (m:=m*m2) (k:=k*k2) ⟨_,rfl,hpt.ext (x5.trans (x6.trans (x7.trans x8)))⟩ ⟨_,rfl,hpw⟩ hkk (Nat.le_trans (dig_mul l1 l3) (by omega)) (Nat.le_trans (dig_mul l2 l4) (by omega))) fun r w9 x9 hr9=> ?_
 obtain ⟨qr,rfl,hqr⟩:=hr9
 have hsg:((((s != t) && decide (m*m2≠0)) != ((false != false) && decide (k*k2≠0))) && decide (m*m2 / Nat.gcd (m*m2) (k*k2)≠0))=((s != t) && decide (m*m2≠0)):=by
  have hx:=gcd_quo (m:=m*m2) hkk
  by_cases h0:m*m2=0
  ·simp [h0]
  ·have h1:=hx.2 h0
   simp [h0,h1]
 rw [hsg] at hqr
 obtain ⟨pr,qq,rfl,hpr,hqq⟩:=hqr
 obtain ⟨a9,n9,c9,rfl⟩:=natv_slice hpr
 obtain ⟨a9',n9',c9',rfl⟩:=natv_slice hqq
 have x39:=x38.trans x9
 have z0:w9.get h.size= .cells [.slice a n c,.bool s,.slice a' n' c'] 3:=(((x5.trans (x6.trans (x7.trans (x8.trans x9)))).2 _ (by have:=x34.1;omega))).trans z0
 have z1:w9.get (h.size+1)=_:=(x39.2 _ (by omega)).trans z1
 obtain ⟨wa,ea,xa,hsa,ga,ka⟩:=put1 (x2.trans x39) (Nat.le_refl h.size) (.cells [.slice a9 n9 c9,.bool ((s != t) && decide (m*m2≠0)),.slice a9' n9' c9'] 3)
 have z1:wa.get (h.size+1)=_:=(ka _ (by omega)).trans z1
 obtain ⟨wb,eb,xb,hsb,gb,kb⟩:=put1 xa j1 (.cells [.slice a9 n9 c9,.bool ((s != t) && decide (m*m2≠0)),.slice a9' n9' c9'] 3)
 have i1:IntKind.i64.wrap (0+1)=1:=wrap_i64 (by omega) (by omega)
 generalize hbs:((s != t) && decide (m*m2≠0))=bs at *
 simp +decide only [go_sem,WR,WS,z0,Nat.le_refl,ea,i1]
 rw [W_round]
 simp +decide only [go_sem,WR,WS,ga,z1,j1,eb,gb]
 exact ⟨_,_,rfl,(hpr.over z0 (by rfl) (by rfl) hsa ga ka).over z1 (by rfl) (by rfl) hsb gb kb,(hqq.over z0 (by rfl) (by rfl) hsa ga ka).over z1 (by rfl) (by rfl) hsb gb kb⟩
set_option maxHeartbeats 4000000 in
theorem by_run (h:Heap) {v u:Value} {m k m2 k2:Nat} {s:Bool} (hv:RatV h v m s k) (hu:RatV h u m2 false k2)
  (hk:k≠0) (hk2:k2≠0) (hm2:m2≠0) (l1:(dig m).length≤200000000) (l2:(dig k).length≤200000000) (l3:(dig m2).length≤200000000) (l4:(dig k2).length≤200000000) :
  Runs K 143 #[v,u] h fun r w=>∃ q,r= .tuple #[q,.bool true]∧RatV w q (m*k2 / Nat.gcd (m*k2) (k*m2)) (s && decide (m*k2≠0)) (k*m2 / Nat.gcd (m*k2) (k*m2)):=by
 obtain ⟨p,q,rfl,hp,hq⟩:=hv
 obtain ⟨a,n,c,rfl⟩:=natv_slice hp
 obtain ⟨a',n',c',rfl⟩:=natv_slice hq
 obtain ⟨p2,q2,rfl,hp2,hq2⟩:=hu
 obtain ⟨a2,n2,c2,rfl⟩:=natv_slice hp2
 obtain ⟨a2',n2',c2',rfl⟩:=natv_slice hq2
 refine Runs.of Kok (Does.intro rfl (by decide +kernel) Tryz.func143 rfl ?_)
 obtain ⟨w2,e0,x0,hs0,z0,z1,z2⟩:=lay3 h (.cells [.slice a n c,.bool s,.slice a' n' c'] 3) (.cells [.slice a2 n2 c2,.bool false,.slice a2' n2' c2'] 3) (.cells [.slice none 0 0,.bool false,.slice none 0 0] 3)
 have j2:h.size≤h.size+2:=by omega
 have np:=hp.ext x0
 have nq:=hq.ext x0
 have np2:=hp2.ext x0
 have nq2:=hq2.ext x0
 simp +decide only [go_sem,WR,WS,e0,z0,z1]
 refine W_call Kok (by omega) (under_run w2 (m:=m2) (s:=false) ⟨_,_,rfl,np2,nq2⟩ hk2) fun r w3 x3 hr3=> ?_
 obtain ⟨pv,rfl,hpv⟩:=hr3
 obtain ⟨av,nv,cv,rfl⟩:=natv_slice hpv
 obtain ⟨w4,e4,x4,hs4,g4⟩:=lay1 w3 (.cells [.slice av nv cv,.bool false] 2)
 have x34:=x3.trans x4
 simp +decide only [go_sem,WR,WS,e4]
 refine W_call Kok (by have:=x3.1;omega) (itimes_run w4 (m:=m) (s:=s) (b:=w3.size) ⟨_,rfl,np.ext x34⟩ (by omega) g4 (hpv.ext x4) (by omega) (by omega)) fun r w5 x5 hr5=> ?_
 obtain ⟨pt,rfl,hpt⟩:=hr5
 have x35:=x34.trans x5
 have z0:w5.get h.size=_:=(x35.2 _ (by omega)).trans z0
 have z1:w5.get (h.size+1)=_:=(x35.2 _ (by omega)).trans z1
 simp +decide only [go_sem,WR,WS,z0]
 refine W_call Kok (by have:=x35.1;omega) (under_run w5 (m:=m) (s:=s) ⟨_,_,rfl,np.ext x35,nq.ext x35⟩ hk) fun r w6 x6 hr6=> ?_
 obtain ⟨pu,rfl,hpu⟩:=hr6
 have x36:=x35.trans x6
 have z1:w6.get (h.size+1)=_:=(x6.2 _ (by have:=x35.1;omega)).trans z1
 obtain ⟨w7,e7,x7,hs7,g7⟩:=lay1 w6 (.cells [.slice a2 n2 c2,.bool false] 2)
 have x37:=x36.trans x7
 simp +decide only [go_sem,WR,WS,z1,e7]
 refine W_call Kok (by have:=x36.1;omega) (itimes_run w7 (m:=k) (s:=false) (b:=w6.size) ⟨_,rfl,hpu.ext x7⟩ (by omega) g7 (np2.ext x37) (by omega) (by omega)) fun r w8 x8 hr8=> ?_
 obtain ⟨pw,rfl,hpw⟩:=hr8
 have x38:=x37.trans x8
 simp +decide only [go_sem,WR,WS]
 have hkk:k*m2≠0:=Nat.mul_ne_zero hk hm2
 refine W_call Kok (by have:=x38.1;omega) (new_run w8 (m:=m*k2) (k:=k*m2) ⟨_,rfl,hpt.ext (x6.trans (x7.trans x8))⟩ ⟨_,rfl,hpw⟩ hkk (Nat.le_trans (dig_mul l1 l4) (by omega)) (Nat.le_trans (dig_mul l2 l3) (by omega))) fun r w9 x9 hr9=> ?_
 obtain ⟨qr,rfl,hqr⟩:=hr9
 have hsg:((((s != false) && decide (m*k2≠0)) != ((false != false) && decide (k*m2≠0))) && decide (m*k2 / Nat.gcd (m*k2) (k*m2)≠0))=(s && decide (m*k2≠0)):=by
  have hx:=gcd_quo (m:=m*k2) hkk
  by_cases h0:m*k2=0
  ·simp [h0]
  ·have h1:=hx.2 h0
   simp [h0,h1]
 rw [hsg] at hqr
 obtain ⟨pr,qq,rfl,hpr,hqq⟩:=hqr
 obtain ⟨a9,n9,c9,rfl⟩:=natv_slice hpr
 obtain ⟨a9',n9',c9',rfl⟩:=natv_slice hqq
 have x39:=x38.trans x9
 have z2:w9.get (h.size+2)=_:=(x39.2 _ (by omega)).trans z2
 generalize hbs:(s && decide (m*k2≠0))=bs at *
 obtain ⟨wa,ea,xa,hsa,ga,ka⟩:=put1 (x0.trans x39) j2 (.cells [.slice a9 n9 c9,.bool bs,.slice a9' n9' c9'] 3)
 simp +decide only [go_sem,WR,WS,z2,j2,ea,ga]
 exact ⟨_,rfl,_,_,rfl,hpr.over z2 (by rfl) (by rfl) hsa ga ka,hqq.over z2 (by rfl) (by rfl) hsa ga ka⟩
def scM (m:Nat) (e:Int):Nat:=if 0≤e then m*10 ^ e.toNat else m / Nat.gcd m (10 ^ (-e).toNat)
def scK (m:Nat) (e:Int):Nat:=if 0≤e then 1 else 10 ^ (-e).toNat / Nat.gcd m (10 ^ (-e).toNat)
set_option maxHeartbeats 4000000 in
theorem scaled_run (h:Heap) {v:Value} {m:Nat} {s:Bool} {e:Int} (hv:RatV h v m s 1) (hs:s=true→m≠0) (l1:(dig m).length≤100000000) (he1: -2000≤e) (he2:e≤2000) :
  Runs K 120 #[v,.int .i64 e] h fun r w=>RatV w r (scM m e) s (scK m e):=by
 obtain ⟨p,q,rfl,hp,hq⟩:=hv
 obtain ⟨a,n,c,rfl⟩:=natv_slice hp
 obtain ⟨a',n',c',rfl⟩:=natv_slice hq
 have l10:∀ n,n≤2000→(dig (10 ^ n)).length≤2001:=fun n hn=>pow_dig (by omega)
 refine Runs.of Kok (Does.intro rfl (by decide +kernel) Tryz.func120 rfl ?_)
 obtain ⟨w0,e0,x0,hs0,z0,z1⟩:=lay2 h (.cells [.slice a n c,.bool s,.slice a' n' c'] 3) (.cells [.slice none 0 0,.bool false,.slice none 0 0] 3)
 have j1:h.size≤h.size+1:=by omega
 have i1:IntKind.i64.wrap (0 - e)=0 - e:=wrap_i64 (by omega) (by omega)
 obtain ⟨g,hg⟩:∃ g:Nat,g=(max e (0 - e)).toNat:=⟨_,rfl⟩
 have i2:max e (0 - e)=(g:Int):=by omega
 simp +decide only [go_sem,WR,WS,e0,i1,i2]
 refine W_call Kok (by omega) (ten_run g w0 (by omega)) fun r w1 x1 hr=> ?_
 simp +decide only [go_sem,WR,WS]
 refine W_call Kok (by have:=x1.1;omega) (wof_run w1 false hr) fun r w2 x2 hr=> ?_
 simp +decide only [go_sem,WR,WS]
 refine W_call Kok (by have:=x1.1;have:=x2.1;omega) (whole_run w2 hr) fun r w3 x3 hr=> ?_
 obtain ⟨p3,q3,rfl,hp3,hq3⟩:=hr
 obtain ⟨a3,n3,c3,rfl⟩:=natv_slice hp3
 obtain ⟨a3',n3',c3',rfl⟩:=natv_slice hq3
 have x13:=x1.trans (x2.trans x3)
 have hx3:=x0.trans x13
 obtain ⟨w4,e4,x4,hs4,g4⟩:=lay1 w3 (.cells [.slice none 0 0,.bool false,.slice none 0 0] 3)
 have t3:w0.size≤w3.size:=x13.1
 have k3:h.size≤w3.size:=by omega
 obtain ⟨w5,e5,x5,hs5,g5,k5⟩:=put1 (hx3.trans x4) k3 (.cells [.slice a3 n3 c3,.bool false,.slice a3' n3' c3'] 3)
 have up:∀ {v:Value} {M:Nat},NatV w3 v M→NatV w5 v M:=fun H=>(H.ext x4).over g4 (by rfl) (by rfl) hs5 g5 k5
 have np:=up ((hp.ext x0).ext x13)
 have nq:=up ((hq.ext x0).ext x13)
 have np3:=up hp3
 have nq3:=up hq3
 have z0:w5.get h.size=_:=(k5 _ (by omega)).trans ((x4.2 _ (by omega)).trans ((x13.2 _ (by omega)).trans z0))
 have z1:w5.get (h.size+1)=_:=(k5 _ (by omega)).trans ((x4.2 _ (by omega)).trans ((x13.2 _ (by omega)).trans z1))
 have fin:∀ (w:Heap) {u:Value} {M K':Nat},Ext w5 w→RatV w u M s K'→∃ aa nn cc a2 n2 c2 wd,u= .agg #[.slice aa nn cc,.bool s,.slice a2 n2 c2]∧w.set (h.size+1) (.cells [.slice aa nn cc,.bool s,.slice a2 n2 c2] 3)=wd∧w.get (h.size+1)= .cells [.slice none 0 0,.bool false,.slice none 0 0] 3∧wd.get (h.size+1)= .cells [.slice aa nn cc,.bool s,.slice a2 n2 c2] 3∧RatV wd u M s K':=by
  intro w u M K' hx hu
  obtain ⟨pp,qq,rfl,hpp,hqq⟩:=hu
  obtain ⟨aa,nn,cc,rfl⟩:=natv_slice hpp
  obtain ⟨a2,n2,c2,rfl⟩:=natv_slice hqq
  have z1:w.get (h.size+1)=_:=(hx.2 _ (by omega)).trans z1
  obtain ⟨wd,ed,xd,hsd,gd,kd⟩:=put1 (x5.trans hx) j1 (.cells [.slice aa nn cc,.bool s,.slice a2 n2 c2] 3)
  exact ⟨aa,nn,cc,a2,n2,c2,wd,rfl,ed,z1,gd,_,_,rfl,hpp.over z1 (by rfl) (by rfl) hsd gd kd,hqq.over z1 (by rfl) (by rfl) hsd gd kd⟩
 have hsm:∀ M,M≠0→(s && decide (m*M≠0))=s:=by
  intro M hM
  cases s with
  | false=>rfl
  | true =>
    have:=Nat.mul_ne_zero (hs rfl) hM
    simp [this]
 have h10:10 ^ g≠0:=by have:0 < 10 ^ g:=Nat.pow_pos (by omega);omega
 by_cases hpos:(0:Int)≤e
 ·obtain ⟨w6,e6,x6,hs6,g6⟩:=lay1 w5 (.cells [.slice a3 n3 c3,.bool false,.slice a3' n3' c3'] 3)
  simp +decide only [go_sem,WR,WS,Bool.false_and,e4,g4,k3,e5,hpos,z0,g5,e6]
  refine W_call Kok (by have:=x5.1;omega) (rtimes_run w6 (m:=m) (k:=1) (s:=s) (b:=w5.size) ⟨_,_,rfl,np.ext x6,nq.ext x6⟩ (by omega) g6 (np3.ext x6) (nq3.ext x6) (by omega) (by omega) (by omega) (Nat.le_trans (dig_length.2 (show 1 < B ^ 1 by rw [B_eq];omega)) (by omega)) (Nat.le_trans (l10 g (by omega)) (by omega)) (Nat.le_trans (dig_length.2 (show 1 < B ^ 1 by rw [B_eq];omega)) (by omega))) fun r w7 x7 hr=> ?_
  have eg:e.toNat=g:=by omega
  have hM:m*10 ^ g / Nat.gcd (m*10 ^ g) (1*1)=scM m e:=by
   rw [scM,if_pos hpos,eg,Nat.mul_one,Nat.gcd_one_right,Nat.div_one]
  have hK:1*1 / Nat.gcd (m*10 ^ g) (1*1)=scK m e:=by
   rw [scK,if_pos hpos,Nat.mul_one,Nat.gcd_one_right]
  rw [hM,hK,Bool.bne_false,hsm _ h10] at hr
  obtain ⟨aa,nn,cc,a2,n2,c2,wd,rfl,ed,zz1,gd,hfin⟩:=fin w7 (x6.trans x7) hr
  simp +decide only [go_sem,WR,WS,zz1,j1,ed,gd]
  exact hfin
 ·simp +decide only [go_sem,WR,WS,Bool.false_and,e4,g4,k3,e5,hpos,z0,g5]
  refine W_call Kok (by have:=x5.1;omega) (by_run w5 (m:=m) (k:=1) (s:=s) ⟨_,_,rfl,np,nq⟩ ⟨_,_,rfl,np3,nq3⟩ (by omega) (by omega) h10 (by omega) (Nat.le_trans (dig_length.2 (show 1 < B ^ 1 by rw [B_eq];omega)) (by omega)) (Nat.le_trans (l10 g (by omega)) (by omega)) (Nat.le_trans (dig_length.2 (show 1 < B ^ 1 by rw [B_eq];omega)) (by omega))) fun r w7 x7 hr=> ?_
  obtain ⟨qv,rfl,hqv⟩:=hr
  have eg:(-e).toNat=g:=by omega
  have hM:m*1 / Nat.gcd (m*1) (1*10 ^ g)=scM m e:=by
   rw [scM,if_neg hpos,eg,Nat.mul_one,Nat.one_mul]
  have hK:1*10 ^ g / Nat.gcd (m*1) (1*10 ^ g)=scK m e:=by
   rw [scK,if_neg hpos,eg,Nat.mul_one,Nat.one_mul]
  rw [hM,hK,hsm 1 (by omega)] at hqv
  obtain ⟨pp,qq,rfl,hpp,hqq⟩:=hqv
  obtain ⟨aa,nn,cc,rfl⟩:=natv_slice hpp
  obtain ⟨a2,n2,c2,rfl⟩:=natv_slice hqq
  obtain ⟨w8,e8,x8,hs8,g8⟩:=lay1 w7 (.cells [.slice none 0 0,.bool false,.slice none 0 0] 3)
  have k7:h.size≤w7.size:=by have:=x7.1;have:=x5.1;omega
  obtain ⟨w9,e9,x9,hs9,g9,k9⟩:=put1 (x5.trans (x7.trans x8)) k7 (.cells [.slice aa nn cc,.bool s,.slice a2 n2 c2] 3)
  have zz1:w9.get (h.size+1)= .cells [.slice none 0 0,.bool false,.slice none 0 0] 3:=(k9 _ (by have:=x7.1;omega)).trans ((x8.2 _ (by have:=x7.1;omega)).trans ((x7.2 _ (by omega)).trans z1))
  obtain ⟨wd,ed,xd,hsd,gd,kd⟩:=put1 x9 j1 (.cells [.slice aa nn cc,.bool s,.slice a2 n2 c2] 3)
  simp +decide only [go_sem,WR,WS,e8,g8,k7,e9,g9,zz1,j1,ed,gd]
  exact ⟨_,_,rfl,((hpp.ext x8).over g8 (by rfl) (by rfl) hs9 g9 k9).over zz1 (by rfl) (by rfl) hsd gd kd,((hqq.ext x8).over g8 (by rfl) (by rfl) hs9 g9 k9).over zz1 (by rfl) (by rfl) hsd gd kd⟩
end Go.Proofs.YtjlaenglmdpboaaGreat.N14
namespace Go.Proofs.YtjlaenglmdpboaaGreat.N15
open Go Go.Im Go.Im.Limbs Go.Im.Lexing Go.Proofs Go.RowKit Hd N1 N11 N12 N13 N14
set_option maxRecDepth 100000
theorem in_run (s:ByteArray) (l:List Int) (c:Int) (h:Heap) (hd:decB s 0 l=true):Runs K 87 #[.string s,.int .i32 c] h fun r _=>r= .bool (l.elem c):=by
 refine Runs.of Kok (Does.intro rfl (by decide +kernel) Tryz.func87 rfl ?_)
 obtain ⟨w0,e0,x0,hs0,z0⟩:=lay1 h (.siter s 0)
 simp +decide only [go_sem,WR,WS,e0]
 refine W_loop (α:=Nat × List Int) (fun k e w=>e.size=15∧Ext h w∧h.size < w.size∧w.get h.size= .siter s k.1∧e.get 1= .int .i32 c∧e.get 8= .pointer (some ⟨h.size,0,none⟩)∧decB s k.1 k.2=true∧l.elem c=k.2.elem c) (fun k=>k.2.length) (0,l) ?_ ?_
 ·exact ⟨by simp +decide only [go_sem],x0,by omega,z0,by simp +decide only [go_sem],by simp +decide only [go_sem],hd,rfl⟩
 ·rintro ⟨pos,l'⟩ e w ⟨hsz,hxw,hws,g0,e1,e8,hdec,hl⟩ next
  simp only at g0 hdec hl
  cases l' with
  | nil =>
    simp only [decB,decide_eq_true_eq] at hdec
    simp +decide only [go_sem,WR,WS,hsz,e1,e8,g0,inxt_end (Nat.le_refl _) hdec,hl]
    rfl
  | cons x l' =>
    simp only [decB,Bool.and_eq_true,decide_eq_true_eq] at hdec
    obtain ⟨⟨d1,d2⟩,d3⟩:=hdec
    obtain ⟨w1,e1',x1,hs1,g1,k1⟩:=put1 hxw (Nat.le_refl _) (.siter s (pos+(Utf8.decode s pos).2))
    by_cases hx:x=c
    ·simp +decide only [go_sem,WR,WS,hsz,e1,e8,g0,inxt_more (Nat.le_refl _) d1,d2,e1',hx,hl]
     simp
    ·simp +decide only [go_sem,WR,WS,hsz,e1,e8,g0,inxt_more (Nat.le_refl _) d1,d2,e1',hx]
     refine next (pos+(Utf8.decode s pos).2,l') _ _ ⟨by simp +decide only [go_sem,hsz],x1,by omega,g1,by simp +decide only [go_sem,hsz,e1],by simp +decide only [go_sem,hsz,e8],d3,?_⟩ (by simp)
     simp only [hl,List.elem_cons]
     have:(c == x)=false:=by simp;exact fun hh=>hx hh.symm
     rw [this]
theorem kind_run (c:Int) (h:Heap):Runs K 67 #[.int .i32 c] h fun r _=>r= .int .i64 (kindOf c):=by
 refine Runs.of Kok (Does.intro rfl (by decide +kernel) Tryz.func67 rfl ?_)
 by_cases h32:c=32
 ·subst h32
  simp +decide only [go_sem,WR,WS]
  rfl
 simp +decide only [go_sem,WR,WS]
 rw [decide_eq_false h32,Wc_false,W_seq]
 refine W_cut (J:=fun e w=>e.size=55∧e.get 0= .int .i32 c∧e.get 6= .bool (isL c)∧w=h) (by simp only [straight,KD];rfl) ?_ ?_
 ·by_cases a1:97≤c
  ·by_cases a2:c≤122
   ·have il:isL c=true:=by simp [isL];omega
    simp +decide only [go_sem,WR,WS,a1,a2,il]
   ·have a3:65≤c:=by omega
    have a4:¬ c≤90:=by omega
    have a5:¬ c=95:=by omega
    have il:isL c=decide (c=8710):=by simp [isL,a2,a4,a5]
    by_cases a6:c=8710
    ·simp +decide only [go_sem,WR,WS,a1,a2,a3,a4,a5,a6,il]
     rfl
    ·simp +decide only [go_sem,WR,WS,a1,a2,a3,a4,a5,a6,il]
  ·by_cases a3:65≤c
   ·by_cases a4:c≤90
    ·have il:isL c=true:=by simp [isL];omega
     simp +decide only [go_sem,WR,WS,a1,a3,a4,il]
    ·have a6:¬ c=8710:=by omega
     have il:isL c=decide (c=95):=by simp [isL,a1,a4,a6]
     by_cases a5:c=95
     ·simp +decide only [go_sem,WR,WS,a1,a3,a4,a5,il]
      rfl
     ·simp +decide only [go_sem,WR,WS,a1,a3,a4,a5,a6,il]
   ·have a5:¬ c=95:=by omega
    have a6:¬ c=8710:=by omega
    have il:isL c=false:=by simp [isL,a1,a3,a5,a6]
    simp +decide only [go_sem,WR,WS,a1,a3,a5,a6,il]
 rintro e w ⟨hsz,e0,e6,rfl⟩
 cases hl:isL c with
 | true =>
   rw [hl] at e6
   simp +decide only [go_sem,WR,WS,hsz,e0,e6]
   simp only [kindOf,h32,hl,if_true,if_false]
   rfl
 | false =>
 rw [hl] at e6
 rw [W_cond,Env.eval_tmp,e6,Wc_false,W_seq]
 refine W_cut (J:=fun e w'=>e.size=55∧e.get 0= .int .i32 c∧e.get 29= .bool (isD c || decide (c=175))∧w'=w) (by simp only [straight,KD];rfl) ?_ ?_
 ·by_cases a1:48≤c
  ·by_cases a2:c≤57
   ·have il:isD c=true:=by simp [isD,a1,a2]
    simp +decide only [go_sem,WR,WS,hsz,e0,a1,a2,il]
   ·have il:isD c=false:=by simp [isD,a2]
    by_cases a3:c=175
    ·simp +decide only [go_sem,WR,WS,hsz,e0,a1,a2,il,a3]
    ·simp +decide only [go_sem,WR,WS,hsz,e0,a1,a2,il,a3]
  ·have il:isD c=false:=by simp [isD,a1]
   have a3:¬ c=175:=by omega
   simp +decide only [go_sem,WR,WS,hsz,e0,a1,il,a3]
 rintro e w' ⟨hsz,e0,e29,rfl⟩
 cases hd:(isD c || decide (c=175)) with
 | true =>
   rw [hd] at e29
   simp +decide only [go_sem,WR,WS,hsz,e0,e29]
   simp only [kindOf,h32,hl,hd,if_true,if_false,Bool.false_eq_true]
   rfl
 | false =>
 rw [hd] at e29
 simp +decide only [go_sem,WR,WS,hsz,e0,e29]
 refine W_call Kok (Nat.le_refl _) (in_run _ t4 c _ (by decide +kernel)) fun r w1 x1 hr=> ?_
 subst hr
 cases h4:t4.elem c with
 | true =>
   simp +decide only [go_sem,WR,WS,hsz,e0]
   simp only [kindOf,h32,hl,hd,h4,if_true,if_false,Bool.false_eq_true]
   rfl
 | false =>
 simp +decide only [go_sem,WR,WS,hsz,e0]
 refine W_call Kok (by have:=x1.1;omega) (in_run _ t5 c _ (by decide +kernel)) fun r w2 x2 hr=> ?_
 subst hr
 cases h5:t5.elem c with
 | true =>
   simp +decide only [go_sem,WR,WS,hsz,e0]
   simp only [kindOf,h32,hl,hd,h4,h5,if_true,if_false,Bool.false_eq_true]
   rfl
 | false =>
 simp +decide only [go_sem,WR,WS,hsz,e0]
 refine W_call Kok (by have:=x1.1;have:=x2.1;omega) (in_run _ t6 c _ (by decide +kernel)) fun r w3 x3 hr=> ?_
 subst hr
 cases h6:t6.elem c with
 | true =>
   simp +decide only [go_sem,WR,WS,hsz,e0]
   simp only [kindOf,h32,hl,hd,h4,h5,h6,if_true,if_false,Bool.false_eq_true]
   rfl
 | false =>
 simp +decide only [go_sem,WR,WS,hsz,e0]
 refine W_call Kok (by have:=x1.1;have:=x2.1;have:=x3.1;omega) (in_run _ t7 c _ (by decide +kernel)) fun r w4 x4 hr=> ?_
 subst hr
 cases h7:t7.elem c with
 | true =>
   simp +decide only [go_sem,WR,WS,hsz,e0]
   simp only [kindOf,h32,hl,hd,h4,h5,h6,h7,if_true,if_false,Bool.false_eq_true]
   rfl
 | false =>
 simp +decide only [go_sem,WR,WS,hsz,e0]
 refine W_call Kok (by have:=x1.1;have:=x2.1;have:=x3.1;have:=x4.1;omega) (in_run _ t8 c _ (by decide +kernel)) fun r w5 x5 hr=> ?_
 subst hr
 cases h8:t8.elem c with
 | true =>
   simp +decide only [go_sem,WR,WS,hsz,e0]
   simp only [kindOf,h32,hl,hd,h4,h5,h6,h7,h8,if_true,if_false,Bool.false_eq_true]
   rfl
 | false =>
   simp +decide only [go_sem,WR,WS,hsz,e0]
   simp only [kindOf,h32,hl,hd,h4,h5,h6,h7,h8,if_true,if_false,Bool.false_eq_true]
   rfl
theorem word_run (c:Int) (h:Heap):Runs K 92 #[.int .i32 c] h fun r _=>r= .bool (isW c):=by
 refine Runs.of Kok (Does.intro rfl (by decide +kernel) Tryz.func92 rfl ?_)
 simp +decide only [go_sem,WR,WS]
 refine W_call Kok (Nat.le_refl _) (kind_run c h) fun r w1 x1 hr=> ?_
 subst hr
 by_cases h2:kindOf c=2
 ·have h2':((kindOf c:Nat):Int)=2:=by omega
  simp +decide only [go_sem,WR,WS,h2']
  simp [isW,h2]
 ·have h2':¬ ((kindOf c:Nat):Int)=2:=by omega
  by_cases a1:48≤c
  ·simp +decide only [go_sem,WR,WS,h2',a1]
   simp [isW,h2,isD,a1]
  ·simp +decide only [go_sem,WR,WS,h2',a1]
   simp [isW,h2,isD,a1]
theorem name_run (l:List Int) {v:Value} (h:Heap) (t:Tx h v l) (hm:l.length≤1099511627776):Runs K 93 #[v] h fun r _=>r= .bool (nameOK l):=by
 obtain ⟨a,c,rfl⟩:=t.open
 refine Runs.of Kok (Does.intro rfl (by decide +kernel) Tryz.func93 rfl ?_)
 by_cases h0:((l.length:Nat):Int)=0
 ·have:¬ 1≤l.length:=by omega
  simp +decide only [go_sem,WR,WS,h0]
  simp [nameOK,this]
 by_cases h24:(24:Int) < ((l.length:Nat):Int)
 ·have:¬ l.length≤24:=by omega
  simp +decide only [go_sem,WR,WS,h0,h24]
  simp [nameOK,this]
 obtain ⟨x,hx⟩:∃ x,l[0]? =some x:=⟨_,List.getElem?_eq_getElem (by omega)⟩
 obtain ⟨b,o,cs,e1,e2,e3,e4⟩:=t.one hx
 cases e1
 have p0:(0:Int) < ((l.length:Nat):Int):=by omega
 have e4':cs[o]? =some (.int .i32 x):=e4
 simp +decide only [go_sem,WR,WS,h0,h24,e3,e4',p0]
 refine W_call Kok (Nat.le_refl _) (kind_run x h) fun r w1 x1 hr=> ?_
 subst hr
 by_cases h2:kindOf x=2
 case neg =>
  have h2':¬ ((kindOf x:Nat):Int)=2:=by omega
  simp +decide only [go_sem,WR,WS,h2']
  simp [nameOK,hx,h2]
 have h2':((kindOf x:Nat):Int)=2:=by omega
 have hbase:nameOK l=l.all isW:=by
  have q1:1≤l.length:=by omega
  have q2:l.length≤24:=by omega
  simp only [nameOK,hx,q1,q2,h2,decide_true,Bool.true_and]
 rw [hbase]
 simp +decide only [go_sem,WR,WS,h2']
 refine W_loop (α:=Nat) (fun i e w=>i≤l.length∧e.size=30∧Ext h w∧e.get 20= .slice (some ⟨b,o,none⟩) l.length big∧e.get 21= .int .i64 ((l.length:Nat):Int)∧e.get 22= .int .i64 (i:Int)∧(l.take i).all isW=true) (fun i=>l.length - i) 0 ?_ ?_
 ·exact ⟨Nat.zero_le _,by simp +decide only [go_sem],x1,by simp +decide only [go_sem],by simp +decide only [go_sem],by simp +decide only [go_sem];rfl,by simp⟩
 ·rintro i e w ⟨hi,hsz,hxw,e20,e21,e22,hall⟩ next
  by_cases hil:(i:Int) < ((l.length:Nat):Int)
  case neg =>
   have:l.all isW=true:=by rw [List.take_of_length_le (by omega)] at hall;exact hall
   simp +decide only [go_sem,WR,WS,hsz,e20,e21,e22,hil,this]
  obtain ⟨y,hy⟩:∃ y,l[i]? =some y:=⟨_,List.getElem?_eq_getElem (by omega)⟩
  obtain ⟨b',o',cs',q1,q2,q3,q4⟩:=(t.ext hxw).one hy
  cases q1
  have i0:(0:Int)≤(i:Int):=by omega
  have i1:IntKind.i64.wrap ((i:Int)+1)=((i+1:Nat):Int):=by rw [wrap_i64 (by omega) (by omega)];omega
  simp +decide only [go_sem,WR,WS,hsz,e20,e21,e22,hil,i0,Int.toNat_natCast,Nat.mul_one,q3,q4]
  refine W_call Kok hxw.1 (word_run y w) fun r w2 x2 hr=> ?_
  subst hr
  cases hw:isW y with
  | false =>
    have:l.all isW=false:=by
     rw [List.all_eq_false]
     exact ⟨y,List.mem_of_getElem? hy,by simp [hw]⟩
    simp +decide only [go_sem,WR,WS,hsz,e20,e21,e22,this]
  | true =>
    simp +decide only [go_sem,WR,WS,hsz,e20,e21,e22,i1]
    refine next (i+1) _ _ ⟨by omega,by simp +decide only [go_sem,hsz],hxw.trans x2,by simp +decide only [go_sem,hsz,e20],by simp +decide only [go_sem,hsz,e21],by simp +decide only [go_sem,hsz],?_⟩ (by omega)
    rw [List.take_add_one,List.all_append,hall,hy]
    simp [hw]
end Go.Proofs.YtjlaenglmdpboaaGreat.N15
namespace Go.Im
section
variable {K:Cfg} {low:Nat} {f:FuncId} {fs:List Fr}
theorem Wc_cut {b:Bool} {A B:Code} {e:Env} {h:Heap} {Q J:Env→Heap→Prop} (hA:straight K f A=true) (hB:straight K f B=true) (H1:b=true→W K low f [.code A] e h J) (H2:b=false→W K low f [.code B] e h J) (H3:∀ e h,J e h→W K low f fs e h Q):Wc K low f (.bool b) A B fs e h Q:=by
 cases b with
 | true=>exact W_cut hA (H1 rfl) H3
 | false=>exact W_cut hB (H2 rfl) H3
end
end Go.Im
namespace Go.Im.Lexing
theorem tw_lt {p:Int→Bool}:∀ {l:List Int} {k:Nat},k < (l.takeWhile p).length→∃ c,l[k]? =some c∧p c=true
 | [],k,h=>by simp at h
 | x::l,k,h=>by
   rw [List.takeWhile_cons] at h
   split at h
   ·rename_i hp
    cases k with
    | zero=>exact ⟨x,rfl,hp⟩
    | succ k=>simpa using tw_lt (l:=l) (k:=k) (by simpa using h)
   ·simp at h
theorem tw_end {p:Int→Bool}:∀ {l:List Int} {c:Int},l[(l.takeWhile p).length]? =some c→p c=false
 | [],c,h=>by simp at h
 | x::l,c,h=>by
   rw [List.takeWhile_cons] at h
   split at h
   ·rename_i hp
    exact tw_end (l:=l) (by simpa using h)
   ·rename_i hp
    simp at h
    subst h
    simpa using hp
theorem tw_take {p:Int→Bool} (l:List Int):l.take (l.takeWhile p).length=l.takeWhile p:=by
 have:=List.takeWhile_prefix p (l:=l)
 exact (List.prefix_iff_eq_take.1 this).symm
theorem tw_le {p:Int→Bool} (l:List Int):(l.takeWhile p).length≤l.length:=(List.takeWhile_prefix p).length_le
theorem digs_mem {s:List Int} {c:Int} (h:c ∈ digs s):48≤c∧c≤57:=by
 unfold digs at h
 have h2:=List.all_eq_true.1 (List.all_takeWhile (p:=isD) (l:=s)) c h
 simp [isD] at h2
 exact h2
def dbs (l:List Int):List UInt8:=l.map fun c=>UInt8.ofNat c.toNat
theorem dbs_length (l:List Int):(dbs l).length=l.length:=by simp [dbs]
theorem encode_digit {c:Int} (h1:48≤c) (h2:c≤57):Utf8.encode c=text [UInt8.ofNat c.toNat]:=by
 have:c=48∨c=49∨c=50∨c=51∨c=52∨c=53∨c=54∨c=55∨c=56∨c=57:=by omega
 rcases this with rfl | rfl | rfl | rfl | rfl | rfl | rfl | rfl | rfl | rfl<;>rfl
theorem runes_fold:∀ (l:List Int) (a:List UInt8),(∀ c ∈ l,48≤c∧c≤57)→l.foldl (fun r n=>r++Utf8.encode n) (text a)=text (a++dbs l)
 | [],a,_=>by simp [dbs]
 | c::l,a,h=>by
   have hc:=h c (by simp)
   rw [List.foldl_cons,encode_digit hc.1 hc.2,text_append,runes_fold l _ fun d hd=>h d (by simp [hd])]
   simp [dbs]
theorem runes_digits {l:List Int} (h:∀ c ∈ l,48≤c∧c≤57):runesBytes l=text (dbs l):=by
 exact (runes_fold l [] h).trans (by simp)
end Go.Im.Lexing
namespace Go.Proofs.YtjlaenglmdpboaaGreat.N16
open Go Go.Im Go.Im.Limbs Go.Im.Lexing Go.Proofs Go.RowKit Hd N1 N11 N12 N13 N14 N15
set_option maxRecDepth 100000
theorem digs_Digs (s:List Int):Digs (dbs (digs s)):=by
 intro b hb
 simp only [dbs,List.mem_map] at hb
 obtain ⟨c,hc,rfl⟩:=hb
 have:=digs_mem hc
 have e:c.toNat < 256:=by omega
 rw [UInt8.toNat_ofNat_of_lt' (by simpa using e)]
 omega
theorem digit_run (c:Int) (h:Heap):Runs K 88 #[.int .i32 c] h fun r _=>r= .bool (isD c):=by
 refine Runs.of Kok (Does.intro rfl (by decide +kernel) Tryz.func88 rfl ?_)
 by_cases a1:48≤c
 ·simp +decide only [go_sem,WR,WS,a1]
  simp [isD,a1]
 ·simp +decide only [go_sem,WR,WS,a1]
  simp [isD,a1]
theorem begins_run (l:List Int) (i:Nat) {v:Value} (h:Heap) (t:Tx h v l) (hm:l.length≤1099511627776) (hi:i≤l.length):Runs K 68 #[v,.int .i64 (i:Int)] h fun r _=>r= .bool (begins (l.drop i)):=by
 obtain ⟨a,c,rfl⟩:=t.open
 refine Runs.of Kok (Does.intro rfl (by decide +kernel) Tryz.func68 rfl ?_)
 have i0:¬ (i:Int) < 0:=by omega
 have i0':(0:Int)≤(i:Int):=by omega
 by_cases hil:((l.length:Nat):Int)≤(i:Int)
 ·have:begins (l.drop i)=false:=by
   rw [List.drop_of_length_le (by omega)]
   rfl
  simp +decide only [go_sem,WR,WS,i0,hil,this]
 obtain ⟨x,hx⟩:∃ x,l[i]? =some x:=⟨_,List.getElem?_eq_getElem (by omega)⟩
 obtain ⟨b,o,cs,q1,q2,q3,q4⟩:=t.one hx
 cases q1
 have hil':(i:Int) < ((l.length:Nat):Int):=by omega
 have b0:(l.drop i)[0]? =some x:=by rw [List.getElem?_drop];exact hx
 have b1:(l.drop i)[1]? =l[i+1]? :=by rw [List.getElem?_drop]
 simp +decide only [go_sem,WR,WS,i0,i0',hil,hil',Int.toNat_natCast,Nat.mul_one,q3,q4]
 refine W_call Kok (Nat.le_refl _) (digit_run x h) fun r w x1 hr=> ?_
 subst hr
 obtain ⟨b',o',cs',q1,q2,q3,q4⟩:=(t.ext x1).one hx
 cases q1
 have i2:IntKind.i64.wrap ((i:Int)+1)=((i+1:Nat):Int):=by rw [wrap_i64 (by omega) (by omega)];omega
 cases hd:isD x with
 | true =>
   have:begins (l.drop i)=true:=by simp [begins,b0,hd]
   simp +decide only [go_sem,WR,WS,this]
 | false =>
 by_cases h175:x=175
 ·have:begins (l.drop i)=true:=by simp [begins,b0,h175]
  simp +decide only [go_sem,WR,WS,i0',hil',Int.toNat_natCast,Nat.mul_one,q3,q4,h175,this]
 by_cases h46:x=46
 case neg =>
  have:begins (l.drop i)=false:=by simp [begins,b0,hd,h175,h46]
  simp +decide only [go_sem,WR,WS,i0',hil',Int.toNat_natCast,Nat.mul_one,q3,q4,h175,h46,this]
 by_cases hl2:((i+1:Nat):Int) < ((l.length:Nat):Int)
 case neg =>
  have hnone:l[i+1]? =none:=List.getElem?_eq_none (by omega)
  have:begins (l.drop i)=false:=by simp [begins,b0,b1,hd,h175,h46,hnone,show isD 46=false from rfl]
  simp +decide only [go_sem,WR,WS,i0',hil',Int.toNat_natCast,Nat.mul_one,q3,q4,h175,h46,i2,hl2,this]
 obtain ⟨y,hy⟩:∃ y,l[i+1]? =some y:=⟨_,List.getElem?_eq_getElem (by omega)⟩
 obtain ⟨b2,o2,cs2,p1,p2,p3,p4⟩:=(t.ext x1).one hy
 cases p1
 rw [q3] at p3
 cases p3
 have i3:(0:Int)≤((i+1:Nat):Int):=by omega
 simp +decide only [go_sem,WR,WS,i0',hil',Int.toNat_natCast,Nat.mul_one,q3,q4,h175,h46,i2,hl2,i3,p4]
 refine W_call Kok x1.1 (digit_run y w) fun r w2 x2 hr=> ?_
 subst hr
 simp +decide only [go_sem,WR,WS]
 simp [begins,b0,b1,hy,hd,h175,h46,show isD 46=false from rfl]
theorem digits_run (l:List Int) (i:Nat) {v:Value} (h:Heap) (t:Tx h v l) (hne:l≠[]) (hm:l.length≤1099511627776) (hi:i≤l.length) :
  Runs K 117 #[v,.int .i64 (i:Int)] h fun r _=>r= .tuple #[.string (text (dbs (digs (l.drop i)))),.int .i64 ((i+(digs (l.drop i)).length:Nat):Int)]:=by
 obtain ⟨a,c,rfl⟩:=t.open
 refine Runs.of Kok (Does.intro rfl (by decide +kernel) Tryz.func117 rfl ?_)
 obtain ⟨D,hD⟩:∃ D,D=digs (l.drop i):=⟨_,rfl⟩
 rw [← hD]
 have hDl:i+D.length≤l.length:=by
  have:=tw_le (p:=isD) (l.drop i)
  rw [List.length_drop] at this
  rw [hD]
  unfold digs
  omega
 simp +decide only [go_sem,WR,WS]
 refine W_loop (α:=Nat) (fun k e w=>k≤D.length∧e.size=27∧Ext h w∧e.get 0= .slice a l.length c∧e.get 1= .int .i64 (i:Int)∧e.get 6= .int .i64 ((i+k:Nat):Int)) (fun k=>D.length - k) 0 ?_ ?_
 ·exact ⟨Nat.zero_le _,by simp +decide only [go_sem],Ext.refl h,by simp +decide only [go_sem],by simp +decide only [go_sem],by simp +decide only [go_sem]⟩
 ·rintro k e w ⟨hk,hsz,hxw,e0,e1,e6⟩ next
  by_cases hkl:k < D.length
  ·obtain ⟨x,hx,hdx⟩:=tw_lt (p:=isD) (l:=l.drop i) (k:=k) (by rw [← digs,← hD];exact hkl)
   rw [List.getElem?_drop] at hx
   have hil:=(List.getElem?_eq_some_iff.1 hx).1
   have hil':((i+k:Nat):Int) < ((l.length:Nat):Int):=by omega
   have i0:(0:Int)≤((i+k:Nat):Int):=by omega
   have i1:IntKind.i64.wrap (((i+k:Nat):Int)+1)=((i+(k+1):Nat):Int):=by rw [wrap_i64 (by omega) (by omega)];omega
   obtain ⟨b,o,cs,q1,q2,q3,q4⟩:=(t.ext hxw).one hx
   cases q1
   simp +decide only [go_sem,WR,WS,hsz,e0,e1,e6,hil',i0,Int.toNat_natCast,Nat.mul_one,q3,q4]
   refine W_call Kok hxw.1 (digit_run x w) fun r w2 x2 hr=> ?_
   subst hr
   simp +decide only [go_sem,WR,WS,hsz,e0,e1,e6,hdx,i1]
   exact next (k+1) _ _ ⟨by omega,by simp +decide only [go_sem,hsz],hxw.trans x2,by simp +decide only [go_sem,hsz,e0],by simp +decide only [go_sem,hsz,e1],by simp +decide only [go_sem,hsz]⟩ (by omega)
  ·have hkD:k=D.length:=by omega
   subst hkD
   obtain ⟨a',c1,c2,c3⟩:=(t.ext hxw).cut hne (lo:=i) (hi:=i+D.length) (by omega) hDl
   have hcut:(l.drop i).take (i+D.length - i)=D:=by
    rw [Nat.add_sub_cancel_left,hD]
    exact tw_take _
   have hrb:runesBytes D=text (dbs D):=runes_digits fun c hc=>digs_mem (by rw [← hD];exact hc)
   rw [hcut] at c3
   by_cases hil:((i+D.length:Nat):Int) < ((l.length:Nat):Int)
   case neg =>
    simp +decide only [go_sem,WR,WS,hsz,e0,e1,e6,hil,c1,c3,icvs_rv,hrb]
   obtain ⟨x,hx⟩:∃ x,l[i+D.length]? =some x:=⟨_,List.getElem?_eq_getElem (by omega)⟩
   have hdx:isD x=false:=by
    refine tw_end (l:=l.drop i) ?_
    rw [List.getElem?_drop,← digs,← hD]
    exact hx
   have i0:(0:Int)≤((i+D.length:Nat):Int):=by omega
   obtain ⟨b,o,cs,q1,q2,q3,q4⟩:=(t.ext hxw).one hx
   cases q1
   simp +decide only [go_sem,WR,WS,hsz,e0,e1,e6,hil,i0,Int.toNat_natCast,Nat.mul_one,q3,q4]
   refine W_call Kok hxw.1 (digit_run x w) fun r w2 x2 hr=> ?_
   subst hr
   obtain ⟨a2,c1,c2,c3⟩:=(t.ext (hxw.trans x2)).cut hne (lo:=i) (hi:=i+D.length) (by omega) hDl
   rw [hcut] at c3
   simp +decide only [go_sem,WR,WS,hsz,e0,e1,e6,hdx,c1,c3,icvs_rv,hrb]
theorem hi_drop (l:List Int) (i:Nat):hi (l.drop i)=if l[i]? =some 175 then 1 else 0:=by
 unfold hi
 rw [List.getElem?_drop,Nat.add_zero]
theorem hi_len {l:List Int} {i:Nat} (h:i≤l.length):i+hi (l.drop i)≤l.length:=by
 rw [hi_drop]
 split
 ·rename_i hh
  have:=(List.getElem?_eq_some_iff.1 hh).1
  omega
 ·omega
theorem digs_len {l:List Int} {i:Nat} (h:i≤l.length):i+(digs (l.drop i)).length≤l.length:=by
 have:=tw_le (p:=isD) (l.drop i)
 rw [List.length_drop] at this
 unfold digs
 omega
end Go.Proofs.YtjlaenglmdpboaaGreat.N16
namespace Go.Proofs.YtjlaenglmdpboaaGreat.N17
open Go Go.Im Go.Im.Limbs Go.Im.Lexing Go.Proofs Go.RowKit Hd N1 N10 N11 N12 N13 N14 N15 N16
set_option maxRecDepth 100000
theorem parse_any (t:List UInt8) (h:Heap) (ht:Digs t) (hl:t.length≤2000):Runs K 119 #[.string (text t)] h fun r w=>∃ a n c,r= .tuple #[.agg #[.slice a n c],.bool (decide (t≠[]))]∧NatV w (.agg #[.slice a n c]) (dec t):=by
 by_cases h0:t=[]
 ·subst h0
  refine (parse_none h).mono fun r w ⟨hx,q,h1,h2⟩=> ?_
  obtain ⟨a,n,c,rfl,h3⟩:=h2
  exact ⟨hx,a,n,c,by simpa using h1,⟨a,n,c,rfl,h3⟩⟩
 ·refine (parse_run t h ht h0 hl).mono fun r w ⟨hx,q,h1,h2⟩=> ?_
  obtain ⟨a,n,c,rfl,h3⟩:=h2
  exact ⟨hx,a,n,c,by simpa [h0] using h1,⟨a,n,c,rfl,h3⟩⟩
theorem pt_drop (l:List Int) (i:Nat):pt (l.drop i)=if l[i]? =some 46 then 1 else 0:=by
 unfold pt
 rw [List.getElem?_drop,Nat.add_zero]
theorem readS_eq {l:List Int} {i A B C:Nat} {D T:List Int} {neg p:Bool} (hn:neg=decide (l[i]? =some 175)) (hA:A=i+if neg then 1 else 0) (hD:D=digs (l.drop A)) (hB:B=A+D.length) (hp:p=decide (l[B]? =some 46)) (hT:T=if p then digs (l.drop (B+1)) else []) (hC:C=B+if p then 1+T.length else 0) :
  readS (l.drop i)=if p=true∧T=[] then none else match expoS (l.drop C) with
   | none=>none
   | some k=>if D.length+T.length=0∨200 < D.length+T.length then none else some (C - i+k):=by
 have e1:hi (l.drop i)=if neg then 1 else 0:=by
  unfold hi
  rw [List.getElem?_drop,hn]
  simp
 have e2:i+hi (l.drop i)=A:=by rw [e1,hA]
 have e3:pt (l.drop B)=if p then 1 else 0:=by
  rw [pt_drop,hp]
  simp
 unfold readS
 simp only [List.drop_drop]
 rw [e2,← hD,← Nat.add_assoc,e2,← hB,e3]
 cases p with
 | false =>
   have hT':T=[]:=hT
   subst hT'
   simp only [Bool.false_eq_true,if_false,Nat.add_zero,false_and,List.length_nil] at hC ⊢
   have:i+(hi (l.drop i)+D.length)=C:=by omega
   simp only [Nat.zero_ne_one,if_false,false_and,Nat.add_zero,this]
   cases expoS (l.drop C) with
   | none=>rfl
   | some k=>simp only [show hi (l.drop i)+D.length+k=C - i+k by omega]
 | true =>
   have hT':T=digs (l.drop (B+1)):=hT
   simp only [if_true,true_and] at hC ⊢
   have q1:i+(hi (l.drop i)+D.length+1)=B+1:=by omega
   rw [q1,← hT']
   have q2:i+(hi (l.drop i)+D.length+1+T.length)=C:=by omega
   rw [q2]
   by_cases h0:T=[]
   ·simp [h0]
   ·rw [if_neg (by simpa using h0),if_neg h0]
    cases expoS (l.drop C) with
    | none=>rfl
    | some k=>simp only [show hi (l.drop i)+D.length+1+T.length+k=C - i+k by omega]
end Go.Proofs.YtjlaenglmdpboaaGreat.N17
namespace Go.Proofs.YtjlaenglmdpboaaGreat.N18
open Go Go.Im Go.Im.Limbs Go.Im.Lexing Go.Proofs Go.RowKit Hd N1 N10 N11 N12 N13 N14 N15 N16 N17
set_option maxRecDepth 100000
def Arr5 (l:List Value):Prop:=∃ a n c b a2 n2 c2 a3 n3 c3 m,l=[.slice a n c,.bool b,.slice a2 n2 c2,.slice a3 n3 c3,.bool m]
theorem num_run (h:Heap) {v:Value} {m:Nat} {s:Bool} {d:Nat} (hv:RatV h v m s d):Runs K 90 #[v] h fun r _=>∃ l,r= .agg l.toArray∧Arr5 l:=by
 obtain ⟨p,q,rfl,hp,hq⟩:=hv
 obtain ⟨a,n,c,rfl⟩:=natv_slice hp
 obtain ⟨a',n',c',rfl⟩:=natv_slice hq
 refine Runs.of Kok (Does.intro rfl (by decide +kernel) Tryz.func90 rfl ?_)
 simp +decide only [go_sem,WR,WS]
 exact ⟨_,rfl,_,_,_,_,_,_,_,_,_,_,_,rfl⟩
theorem count_one (n:Nat) (h:Heap) {b:Nat} (hg:h.get b= .cells [.int .i64 (n:Int)] 1) (h0:0 < n) (hn:n≤4096):Runs K 123 #[.slice (some ⟨b,0,none⟩) 1 1] h fun r _=>r= .tuple #[.int .i64 (n:Int),.bool true]:=by
 refine Runs.of Kok (Does.intro rfl (by decide +kernel) Tryz.func123 rfl ?_)
 have q1:¬ (n:Int) < 0:=by omega
 have q2:IntKind.i64.wrap ((4096:Int).tdiv 1)=4096:=rfl
 have q3:¬ (4096:Int) < (n:Int):=by omega
 have q4:¬ (n:Int)=0:=by omega
 have q5:max (1:Int) (n:Int)=(n:Int):=by omega
 have q6:IntKind.i64.wrap (1*(n:Int))=(n:Int):=by rw [wrap_i64 (by omega) (by omega)];omega
 have q7:IntKind.i64.wrap (0+1)=1:=rfl
 simp +decide only [go_sem,WR,WS]
 rw [W_round]
 simp +decide only [go_sem,WR,WS,hg,q1,ibinop_quo (show (1:Int)≠0 by omega),q2,q3,q4,q5,q6,q7]
 rw [W_round]
 simp +decide only [go_sem,WR,WS,hg]
end Go.Proofs.YtjlaenglmdpboaaGreat.N18
namespace Go.Proofs.YtjlaenglmdpboaaGreat.N19
open Go Go.Im Go.Im.Limbs Go.Im.Lexing Go.Proofs Go.RowKit Hd N1 N10 N13 N15 N16 N17 N18
set_option maxRecDepth 100000
abbrev XT:Type:=(Nat × Tk) × List Value
def tc4 (t:Nat × Tk):List Value:=[.int .i64 (t.2.kind:Int),.int .i64 (t.1:Int),.string (runesBytes t.2.word),.int .i32 t.2.sign]
def xcs (xs:List XT):List Value:=xs.flatMap fun (x:XT)=>tc4 x.1++x.2
theorem xcs_append (xs ys:List XT):xcs (xs++ys)=xcs xs++xcs ys:=by simp [xcs]
theorem xcs_one (x:XT):xcs [x]=tc4 x.1++x.2:=by simp [xcs]
end Go.Proofs.YtjlaenglmdpboaaGreat.N19
namespace Go.Proofs.YtjlaenglmdpboaaGreat.R2
open Go Go.Im Go.Im.Limbs Go.Im.Dec Go.Proofs Go.RowKit Hd N12 N18 N19 R1
set_option maxRecDepth 100000
theorem sub_step {a b i d bw bw' V:Nat} (hv:V+b%10 ^ i=a%10 ^ i+bw*10 ^ i) (hd:d+b / 10 ^ i%10+bw=a / 10 ^ i%10+10*bw') :
  V+d*10 ^ i+b%10 ^ (i+1)=a%10 ^ (i+1)+bw'*10 ^ (i+1):=by
 rw [mod_step,mod_step,Nat.pow_succ]
 generalize a / 10 ^ i%10=x at *
 generalize b / 10 ^ i%10=y at *
 generalize a%10 ^ i=u at *
 generalize b%10 ^ i=v at *
 generalize 10 ^ i=P at *
 grind
theorem app_one {low:Nat} {h w:Heap} (hlow:low≤h.size) (x:Ext h w) {n d:Nat} {v:Value} {l:List Nat} (H:Own h.size w 1 v n (iv l)) (hn:n≤1000000) :
  ∃ w',iapp low w 1 8 v 1 (some [.int .i64 (d:Int)])=some (.slice (some ⟨w.size,0,none⟩) (n+1) big,w')∧Own h.size w' 1 (.slice (some ⟨w.size,0,none⟩) (n+1) big) (n+1) (iv (l++[d]))∧w'.size=w.size+1∧Ext h w':=by
 have:=own_app2 (low:=low) (bytes:=8) (k:=1) (new:=[.int .i64 (d:Int)]) hlow x H (by omega) (by omega) (by rfl) (by omega) (by omega)
 rw [iv_append]
 exact this
theorem sub_run (a b:Nat) (h:Heap) (hba:b≤a) (hl:(ds a).length≤900000):Runs K 171 #[.string (text (ds a)),.string (text (ds b))] h fun r _=>r= .string (text (ds (a - b))):=by
 refine Runs.of Kok (Does.intro rfl (by decide +kernel) Tryz.func171 rfl ?_)
 have hlb:=ds_mono hba
 simp +decide only [go_sem,WR,WS]
 refine W_loop (α:=Nat × List Nat × Nat × Value) (fun k e w=>k.1≤(ds a).length∧e.size=34∧Ext h w∧e.get 0= .string (text (ds a))∧e.get 1= .string (text (ds b))∧e.get 5=k.2.2.2∧Own h.size w 1 k.2.2.2 k.1 (iv k.2.1) ∧
  e.get 6= .int .i64 (k.2.2.1:Int)∧e.get 7= .int .i64 (k.1:Int)∧k.2.1.length=k.1∧(∀ d ∈ k.2.1,d≤9)∧k.2.2.1≤1∧v10 k.2.1+b%10 ^ k.1=a%10 ^ k.1+k.2.2.1*10 ^ k.1) (fun k=>(ds a).length - k.1) (0,[],0,.slice none 0 0) ?_ ?_
 ·exact ⟨Nat.zero_le _,by simp +decide only [go_sem],Ext.refl h,by simp +decide only [go_sem],by simp +decide only [go_sem],by simp +decide only [go_sem],Own.nil _ _ _,by simp +decide only [go_sem];rfl,by simp +decide only [go_sem];rfl,rfl,by simp,by simp,by simp [v10,Nat.mod_one]⟩
 ·rintro ⟨i,l,bw,v⟩ e w ⟨hi,hsz,hxw,e0,e1,e5,own,e6,e7,hll,hl9,hbw,hval⟩ next
  simp only at hi e5 own e6 e7 hll hl9 hbw hval
  by_cases hc:(i:Int) < (((ds a).length:Nat):Int)
  ·simp +decide only [go_sem,WR,WS,hsz,e0,e1,e5,e6,e7,hc]
   refine W_call Kok hxw.1 (digit_run (ds a) i w (ds_digs a) (by omega)) fun r w1 x1 hr=> ?_
   subst hr
   simp +decide only [go_sem,WR,WS,hsz,e0,e1,e5,e6,e7]
   refine W_call Kok (hxw.trans x1).1 (digit_run (ds b) i w1 (ds_digs b) (by omega)) fun r w2 x2 hr=> ?_
   subst hr
   rw [dgt_ds,dgt_ds]
   have p1:a / 10 ^ i%10≤9:=by omega
   have p2:b / 10 ^ i%10≤9:=by omega
   have own2:=(own.ext x1).ext x2
   have x02:=hxw.trans (x1.trans x2)
   have i1:IntKind.i64.wrap ((i:Int)+1)=((i+1:Nat):Int):=by rw [wrap_i64 (by omega) (by omega)];omega
   by_cases hneg:a / 10 ^ i%10 < b / 10 ^ i%10+bw
   ·obtain ⟨d,hd⟩:∃ d,d=a / 10 ^ i%10+10 - (b / 10 ^ i%10+bw):=⟨_,rfl⟩
    have j1:IntKind.i64.wrap (IntKind.i64.wrap (((a / 10 ^ i%10:Nat):Int) - ((b / 10 ^ i%10:Nat):Int)) - (bw:Int))=(d:Int) - 10:=by rw [wrap_i64 (x:=_ - ((b / 10 ^ i%10:Nat):Int)) (by omega) (by omega),wrap_i64 (by omega) (by omega)];omega
    have j2:(d:Int) - 10 < 0:=by omega
    have j3:IntKind.i64.wrap ((d:Int) - 10+10)=(d:Int):=by rw [wrap_i64 (by omega) (by omega)];omega
    obtain ⟨w3,e3,x3,hs3,g3⟩:=lay1 w2 (.cells [.int .i64 (d:Int)] 1)
    obtain ⟨w4,e4,own4,hs4,x4⟩:=app_one (low:=h.size) (d:=d) (Nat.le_refl _) (x02.trans x3) (own2.ext x3) (by omega)
    simp +decide only [go_sem,WR,WS,hsz,e0,e1,e5,e6,e7,j1,j2,j3,e3,g3,e4,i1]
    refine next (i+1,l++[d],1,_) _ _ ⟨by simp only;omega,by simp +decide only [go_sem,hsz],x4,by simp +decide only [go_sem,hsz,e0],by simp +decide only [go_sem,hsz,e1],by simp +decide only [go_sem,hsz],own4,by simp +decide only [go_sem,hsz];rfl,by simp +decide only [go_sem,hsz],by simp [hll],?_,Nat.le_refl _,?_⟩ (by simp only;omega)
    ·intro x hx
     rcases List.mem_append.1 hx with hx | hx
     ·exact hl9 x hx
     ·rw [List.mem_singleton] at hx;omega
    ·simp only
     rw [v10_snoc,hll]
     exact sub_step hval (by omega)
   ·obtain ⟨d,hd⟩:∃ d,d=a / 10 ^ i%10 - (b / 10 ^ i%10+bw):=⟨_,rfl⟩
    have j1:IntKind.i64.wrap (IntKind.i64.wrap (((a / 10 ^ i%10:Nat):Int) - ((b / 10 ^ i%10:Nat):Int)) - (bw:Int))=(d:Int):=by rw [wrap_i64 (x:=_ - ((b / 10 ^ i%10:Nat):Int)) (by omega) (by omega),wrap_i64 (by omega) (by omega)];omega
    have j2:¬ (d:Int) < 0:=by omega
    obtain ⟨w3,e3,x3,hs3,g3⟩:=lay1 w2 (.cells [.int .i64 (d:Int)] 1)
    obtain ⟨w4,e4,own4,hs4,x4⟩:=app_one (low:=h.size) (d:=d) (Nat.le_refl _) (x02.trans x3) (own2.ext x3) (by omega)
    simp +decide only [go_sem,WR,WS,hsz,e0,e1,e5,e6,e7,j1,j2,e3,g3,e4,i1]
    refine next (i+1,l++[d],0,_) _ _ ⟨by simp only;omega,by simp +decide only [go_sem,hsz],x4,by simp +decide only [go_sem,hsz,e0],by simp +decide only [go_sem,hsz,e1],by simp +decide only [go_sem,hsz],own4,by simp +decide only [go_sem,hsz];rfl,by simp +decide only [go_sem,hsz],by simp [hll],?_,Nat.zero_le _,?_⟩ (by simp only;omega)
    ·intro x hx
     rcases List.mem_append.1 hx with hx | hx
     ·exact hl9 x hx
     ·rw [List.mem_singleton] at hx;omega
    ·simp only
     rw [v10_snoc,hll]
     exact sub_step hval (by omega)
  ·have hii:i=(ds a).length:=by omega
   obtain ⟨ad,c,rfl⟩:=own.shape
   simp +decide only [go_sem,WR,WS,hsz,e0,e1,e5,e6,e7,hc]
   refine W_call Kok hxw.1 (written_ds l w own.sl hl9 (by omega)) fun r w1 x1 hr=> ?_
   subst hr
   have m1:a%10 ^ i=a:=mod_full (by omega)
   have m2:b%10 ^ i=b:=mod_full (by omega)
   have m3:=v10_lt hl9
   rw [hll] at m3
   rw [m1,m2] at hval
   have hb0:bw=0:=by
    rcases Nat.eq_zero_or_pos bw with h0 | h0
    ·exact h0
    ·have:bw=1:=by omega
     subst this
     omega
   subst hb0
   have hfin:v10 l=a - b:=by omega
   simp +decide only [go_sem,WR,WS,hsz,hfin]
theorem mul_step {os:List Nat} {b i j p o cy V:Nat} (ho:os[i+j]? =some o) (hv:v10 os+cy*10 ^ (i+j)=V+p*(b%10 ^ j)*10 ^ i) :
  v10 (os.set (i+j) ((o+p*(b / 10 ^ j%10)+cy)%10))+(o+p*(b / 10 ^ j%10)+cy) / 10*10 ^ (i+(j+1))=V+p*(b%10 ^ (j+1))*10 ^ i:=by
 have h1:=v10_set ((o+p*(b / 10 ^ j%10)+cy)%10) ho
 rw [mod_step]
 generalize b / 10 ^ j%10=q at *
 generalize hS:v10 (os.set (i+j) ((o+p*q+cy)%10))=S at *
 generalize b%10 ^ j=r at *
 have h2:(o+p*q+cy)%10+10*((o+p*q+cy) / 10)=o+p*q+cy:=Nat.mod_add_div _ _
 rw [show i+(j+1)=(i+j)+1 by omega,Nat.pow_succ]
 rw [Nat.pow_add] at *
 generalize (o+p*q+cy)%10=d at *
 generalize (o+p*q+cy) / 10=c at *
 generalize 10 ^ i=P at *
 generalize 10 ^ j=Q at *
 generalize v10 os=T at *
 have h3:=congrArg (·*(P*Q)) h2
 simp only [Nat.add_mul] at h3
 have e1:c*(P*Q*10)=10*c*(P*Q):=by rw [Nat.mul_comm (P*Q) 10,← Nat.mul_assoc,Nat.mul_comm c 10]
 have e2:p*(r+q*Q)*P=p*r*P+p*q*(P*Q):=by
  rw [Nat.mul_add,Nat.add_mul,← Nat.mul_assoc,Nat.mul_comm P Q,Nat.mul_assoc (p*q) Q P]
 rw [e1,e2]
 omega
theorem mk_zero64 {sz N:Nat} (h:N≤1099511627776):imk sz 1 8 [.int .i64 0] (N:Int) (N:Int)=some (.slice (some ⟨sz,0,none⟩) N N,some (.cells (iv (List.replicate N 0)) 1)):=by
 rw [imk_ok (by omega) (by omega) (by omega) (by omega)]
 simp [iv,List.flatten_replicate_singleton]
theorem iv_put {l:List Nat} {k:Nat} (h:k < l.length) (d:Nat):(iv l).take k++[.int .i64 (d:Int)]++(iv l).drop (k+1)=iv (l.set k d):=by
 rw [put_one (by rw [iv_length];exact h),iv_set]
theorem mul_run (a b:Nat) (h:Heap) (hla:(ds a).length≤200000) (hlb:(ds b).length≤200000):Runs K 166 #[.string (text (ds a)),.string (text (ds b))] h fun r _=>r= .string (text (ds (a*b))):=by
 refine Runs.of Kok (Does.intro rfl (by decide +kernel) Tryz.func166 rfl ?_)
 obtain ⟨la,hla'⟩:∃ la,la=(ds a).length:=⟨_,rfl⟩
 obtain ⟨lb,hlb'⟩:∃ lb,lb=(ds b).length:=⟨_,rfl⟩
 have i1:IntKind.i64.wrap (IntKind.i64.wrap ((la:Int)+(lb:Int))+1)=((la+lb+1:Nat):Int):=by rw [wrap_i64 (x:=(la:Int)+(lb:Int)) (by omega) (by omega),wrap_i64 (by omega) (by omega)];omega
 have m1:=mk_zero64 (sz:=h.size) (N:=la+lb+1) (by omega)
 obtain ⟨w1,e1',x1,hs1,g1⟩:=lay1 h (.cells (iv (List.replicate (la+lb+1) 0)) 1)
 have halt:a < 10 ^ la:=by rw [hla'];exact ds_lt_pow a
 have hblt:b < 10 ^ lb:=by rw [hlb'];exact ds_lt_pow b
 simp +decide only [go_sem,WR,WS,← hla',← hlb',i1,m1,e1']
 refine W_loop (α:=Nat × List Nat) (fun k e w=>k.1≤la∧e.size=60∧Ext h w∧h.size < w.size∧e.get 0= .string (text (ds a))∧e.get 1= .string (text (ds b))∧e.get 5= .slice (some ⟨h.size,0,none⟩) (la+lb+1) (la+lb+1) ∧
  e.get 6= .int .i64 (k.1:Int)∧w.get h.size= .cells (iv k.2) 1∧k.2.length=la+lb+1∧(∀ d ∈ k.2,d≤9)∧v10 k.2=a%10 ^ k.1*b) (fun k=>la - k.1) (0,List.replicate (la+lb+1) 0) ?_ ?_
 ·refine ⟨Nat.zero_le _,by simp +decide only [go_sem],x1,by omega,by simp +decide only [go_sem],by simp +decide only [go_sem],by simp +decide only [go_sem],by simp +decide only [go_sem];rfl,g1,by simp,?_,by simp [v10_zero,Nat.mod_one]⟩
  intro d hd
  have:=List.eq_of_mem_replicate hd
  omega
 ·rintro ⟨i,os⟩ e w ⟨hi,hsz,hxw,hws,e0,e1,e5,e6,gw,hol,ho9,hval⟩ next
  simp only at hi e6 gw hol ho9 hval
  by_cases hc:(i:Int) < (la:Int)
  ·obtain ⟨p,hp⟩:∃ p,p=a / 10 ^ i%10:=⟨_,rfl⟩
   have hp9:p≤9:=by omega
   simp +decide only [go_sem,WR,WS,← hla',← hlb',hsz,e0,e1,e5,e6,hc]
   refine W_loop (α:=Nat × List Nat × Nat) (fun k e w=>e.size=60∧Ext h w∧h.size < w.size∧e.get 0= .string (text (ds a))∧e.get 1= .string (text (ds b))∧e.get 5= .slice (some ⟨h.size,0,none⟩) (la+lb+1) (la+lb+1) ∧
    e.get 6= .int .i64 (i:Int)∧e.get 7= .int .i64 (k.2.2:Int)∧e.get 8= .int .i64 (k.1:Int)∧w.get h.size= .cells (iv k.2.1) 1∧k.2.1.length=la+lb+1∧(∀ d ∈ k.2.1,d≤9)∧k.2.2≤9∧k.1≤la+lb+1 ∧
    v10 k.2.1+k.2.2*10 ^ (i+k.1)=a%10 ^ i*b+p*(b%10 ^ k.1)*10 ^ i) (fun k=>la+lb+1 - k.1) (0,os,0) ?_ ?_
   ·exact ⟨by simp +decide only [go_sem,hsz],hxw,hws,by simp +decide only [go_sem,hsz,e0],by simp +decide only [go_sem,hsz,e1],by simp +decide only [go_sem,hsz,e5],by simp +decide only [go_sem,hsz,e6],by simp +decide only [go_sem,hsz];rfl,by simp +decide only [go_sem,hsz];rfl,gw,hol,ho9,by simp,by simp,by simp [hval,Nat.mod_one]⟩
   ·rintro ⟨j,os2,cy⟩ e2 w2 ⟨hsz,hxw,hws,e0,e1,e5,e6,e7,e8,gw,hol,ho9,hcy,hjl,hval⟩ next2
    simp only at e7 e8 gw hol ho9 hcy hjl hval
    by_cases hfin:lb≤j∧cy=0
    ·obtain ⟨hlbj,rfl⟩:=hfin
     have q1:¬ (j:Int) < (lb:Int):=by omega
     have q2:¬ (0:Int) < ((0:Nat):Int):=by omega
     have i2:IntKind.i64.wrap ((i:Int)+1)=((i+1:Nat):Int):=by rw [wrap_i64 (by omega) (by omega)];omega
     simp +decide only [go_sem,WR,WS,← hla',← hlb',hsz,e0,e1,e5,e6,e7,e8,q1,q2,i2]
     refine next (i+1,os2) _ _ ⟨by simp only;omega,by simp +decide only [go_sem,hsz],hxw,hws,by simp +decide only [go_sem,hsz,e0],by simp +decide only [go_sem,hsz,e1],by simp +decide only [go_sem,hsz,e5],by simp +decide only [go_sem,hsz],gw,hol,ho9,?_⟩ (by simp only;omega)
     simp only
     have hbm:b%10 ^ j=b:=mod_full (by omega)
     rw [hbm,Nat.zero_mul,Nat.add_zero] at hval
     rw [hval,mod_step,← hp,Nat.add_mul,Nat.mul_assoc,Nat.mul_assoc,Nat.mul_comm b]
    ·obtain ⟨q,hq⟩:∃ q,q=b / 10 ^ j%10:=⟨_,rfl⟩
     have hq9:q≤9:=by omega
     have hij:i+j < la+lb:=by
      by_cases hjb:j < lb
      ·omega
      ·have hcy1:1≤cy:=by omega
       have hbm:b%10 ^ j=b:=mod_full (by omega)
       rw [hbm] at hval
       have t1:a%10 ^ i*b+p*b*10 ^ i=a%10 ^ (i+1)*b:=by rw [mod_step,← hp,Nat.add_mul,Nat.mul_assoc,Nat.mul_assoc,Nat.mul_comm b]
       have t2:a%10 ^ (i+1)*b≤a*b:=Nat.mul_le_mul_right _ (Nat.mod_le _ _)
       have t3:a*b < 10 ^ (la+lb):=by rw [Nat.pow_add];exact Nat.mul_lt_mul_of_lt_of_lt halt hblt
       have t4:1*10 ^ (i+j)≤cy*10 ^ (i+j):=Nat.mul_le_mul_right _ hcy1
       exact (Nat.pow_lt_pow_iff_right (a:=10) (by omega)).1 (by omega)
     obtain ⟨o,ho⟩:∃ o,os2[i+j]? =some o:=⟨_,List.getElem?_eq_getElem (by omega)⟩
     have ho':=ho9 o (List.mem_of_getElem? ho)
     have hpq:p*q≤81:=Nat.mul_le_mul hp9 hq9
     have j1:IntKind.i64.wrap ((i:Int)+(j:Int))=((i+j:Nat):Int):=by rw [wrap_i64 (by omega) (by omega)];omega
     have j2:(0:Int)≤((i+j:Nat):Int):=by omega
     have j3:((i+j:Nat):Int) < ((la+lb+1:Nat):Int):=by omega
     have j4:IntKind.i64.wrap ((p:Int)*(q:Int))=((p*q:Nat):Int):=by rw [← Int.natCast_mul,wrap_i64 (by omega) (by omega)]
     have j5:IntKind.i64.wrap (IntKind.i64.wrap ((o:Int)+((p*q:Nat):Int))+(cy:Int))=((o+p*q+cy:Nat):Int):=by
      rw [wrap_i64 (x:=(o:Int)+((p*q:Nat):Int)) (by omega) (by omega),wrap_i64 (by omega) (by omega)]
      omega
     obtain ⟨t,ht⟩:∃ t,t=o+p*q+cy:=⟨_,rfl⟩
     have j6:((t:Nat):Int).tmod 10=((t%10:Nat):Int):=by rw [Int.tmod_eq_emod_of_nonneg (by omega)];omega
     have j7:IntKind.i64.wrap (((t:Nat):Int).tdiv 10)=((t / 10:Nat):Int):=by rw [Int.tdiv_eq_ediv_of_nonneg (by omega),wrap_i64 (by omega) (by omega)];omega
     have j8:IntKind.i64.wrap ((j:Int)+1)=((j+1:Nat):Int):=by rw [wrap_i64 (by omega) (by omega)];omega
     have j9:¬ (10:Int)=0:=by omega
     have j10:h.size≤h.size:=Nat.le_refl _
     have k1:i+j+1≤(iv os2).length:=by rw [iv_length];omega
     have hput:=iv_put (l:=os2) (k:=i+j) (by omega) (t%10)
     have hcond:∀ (X:Prop),(((j:Int) < (lb:Int))→X)→(¬ ((j:Int) < (lb:Int))→(0:Int) < (cy:Int)→X)→X:=by
      intro X a1 a2
      by_cases hh:(j:Int) < (lb:Int)
      ·exact a1 hh
      ·exact a2 hh (by omega)
     have hset:∀ d ∈ os2.set (i+j) (t%10),d≤9:=by
      intro d hd
      rcases List.mem_or_eq_of_mem_set hd with hd | hd
      ·exact ho9 d hd
      ·omega
     have hstep:=mul_step (p:=p) ho hval
     rw [← hq,← ht] at hstep
     refine hcond _ (fun c1=> ?_) (fun c1 c2=> ?_)
     ·simp +decide only [go_sem,WR,WS,← hla',← hlb',hsz,e0,e1,e5,e6,e7,e8,c1,j1,j2,j3,gw,iv_get ho,Nat.mul_one,Nat.zero_add,Int.toNat_natCast]
      refine W_call Kok hxw.1 (digit_run (ds a) i w2 (ds_digs a) (by omega)) fun r w3 x3 hr=> ?_
      subst hr
      rw [dgt_ds,← hp]
      simp +decide only [go_sem,WR,WS,hsz,e0,e1,e5,e6,e7,e8]
      refine W_call Kok (hxw.trans x3).1 (digit_run (ds b) j w3 (ds_digs b) (by omega)) fun r w4 x4 hr=> ?_
      subst hr
      rw [dgt_ds,← hq]
      have gw4:w4.get h.size= .cells (iv os2) 1:=((x3.trans x4).2 _ hws).trans gw
      obtain ⟨w5,e5',x5,hs5,g5,k5⟩:=put1 (hxw.trans (x3.trans x4)) (Nat.le_refl _) (.cells (iv (os2.set (i+j) (t%10))) 1)
      simp +decide only [go_sem,WR,WS,hsz,e0,e1,e5,e6,e7,e8,j1,j2,j3,j4,j5,← ht,j6,j7,j8,j9,j10,gw4,k1,Nat.mul_one,Nat.zero_add,Int.toNat_natCast,hput,e5']
      have:=(x3.trans x4).1
      exact next2 (j+1,os2.set (i+j) (t%10),t / 10) _ _ ⟨by simp +decide only [go_sem,hsz],x5,by omega,by simp +decide only [go_sem,hsz,e0],by simp +decide only [go_sem,hsz,e1],by simp +decide only [go_sem,hsz,e5],by simp +decide only [go_sem,hsz,e6],by simp +decide only [go_sem,hsz],by simp +decide only [go_sem,hsz],g5,by simp [hol],hset,by simp only;omega,by simp only;omega,hstep⟩ (by simp only;omega)
     ·simp +decide only [go_sem,WR,WS,← hla',← hlb',hsz,e0,e1,e5,e6,e7,e8,c1,c2,j1,j2,j3,gw,iv_get ho,Nat.mul_one,Nat.zero_add,Int.toNat_natCast]
      refine W_call Kok hxw.1 (digit_run (ds a) i w2 (ds_digs a) (by omega)) fun r w3 x3 hr=> ?_
      subst hr
      rw [dgt_ds,← hp]
      simp +decide only [go_sem,WR,WS,hsz,e0,e1,e5,e6,e7,e8]
      refine W_call Kok (hxw.trans x3).1 (digit_run (ds b) j w3 (ds_digs b) (by omega)) fun r w4 x4 hr=> ?_
      subst hr
      rw [dgt_ds,← hq]
      have gw4:w4.get h.size= .cells (iv os2) 1:=((x3.trans x4).2 _ hws).trans gw
      obtain ⟨w5,e5',x5,hs5,g5,k5⟩:=put1 (hxw.trans (x3.trans x4)) (Nat.le_refl _) (.cells (iv (os2.set (i+j) (t%10))) 1)
      simp +decide only [go_sem,WR,WS,hsz,e0,e1,e5,e6,e7,e8,j1,j2,j3,j4,j5,← ht,j6,j7,j8,j9,j10,gw4,k1,Nat.mul_one,Nat.zero_add,Int.toNat_natCast,hput,e5']
      have:=(x3.trans x4).1
      exact next2 (j+1,os2.set (i+j) (t%10),t / 10) _ _ ⟨by simp +decide only [go_sem,hsz],x5,by omega,by simp +decide only [go_sem,hsz,e0],by simp +decide only [go_sem,hsz,e1],by simp +decide only [go_sem,hsz,e5],by simp +decide only [go_sem,hsz,e6],by simp +decide only [go_sem,hsz],by simp +decide only [go_sem,hsz],g5,by simp [hol],hset,by simp only;omega,by simp only;omega,hstep⟩ (by simp only;omega)
  ·have hii:i=la:=by omega
   simp +decide only [go_sem,WR,WS,← hla',← hlb',hsz,e0,e1,e5,e6,hc]
   refine W_call Kok hxw.1 (written_ds os w (a:=some ⟨h.size,0,none⟩) (n:=la+lb+1) (c:=la+lb+1) (Sl.made hws gw (by rw [iv_length];omega) (by simp only [big];omega)) ho9 (by omega)) fun r w1 x1 hr=> ?_
   subst hr
   have m1:a%10 ^ i=a:=mod_full (by omega)
   rw [m1] at hval
   simp +decide only [go_sem,WR,WS,hsz,hval]
end Go.Proofs.YtjlaenglmdpboaaGreat.R2
