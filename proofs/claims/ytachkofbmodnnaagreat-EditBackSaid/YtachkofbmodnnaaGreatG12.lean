/- Proved here: parts of the way to BEditBack (BN14 BN15 BN16 BN17); no condition beyond those that each theorem names. -/
import Derived.Test.YtachkofbmodnnaaGreatG11
set_option linter.unusedSimpArgs false
set_option linter.unusedVariables false
namespace Go.Proofs.YtachkofbmodnnaaGreat.N14
open Go Go.Im Go.Im.Limbs Go.Proofs Go.RowKit Hd N1 N2 N10 N11 N12 N13
set_option maxRecDepth 100000
theorem Zqa {n N:Nat} (h:n < N):(dig (10 ^ n)).length≤N:=ZhD (Nat.pow_lt_pow_right Ya h)
theorem ZhE {m k a b:Nat} (h1:(dig m).length≤a) (h2:(dig k).length≤b):(dig (m*k)).length≤a+b:=by
 rw [Zaz] at *
 rw [Nat.pow_add]
 have h3:m*k≤m*B ^ b:=Nat.mul_le_mul_left _ (Nat.le_of_lt h2)
 have h4:m*B ^ b < B ^ a*B ^ b:=Nat.mul_lt_mul_of_pos_right h1 (Nat.pow_pos ZdP)
 omega
theorem Zhz {m k:Nat} (hk:k≠0):m / Nat.gcd m k≠0↔m≠0:=by
 have hg:0 < Nat.gcd m k:=Nat.pos_of_ne_zero fun h0=>hk (Nat.eq_zero_of_gcd_eq_zero_right h0)
 constructor
 ·rintro h rfl
  simp at h
 ·intro h h0
  have h2:=Nat.div_mul_cancel (Nat.gcd_dvd_left m k)
  rw [h0,Nat.zero_mul] at h2
  exact h h2.symm
set_option maxHeartbeats 4000000 in
theorem ZkK (h:Heap) {v p2 q2:Value} {m k m2 k2 b:Nat} {s t:Bool} (hv:RatV h v m s k) (hb:b < h.size) (hg:h.get b= .cells [p2,.bool t,q2] 3) (hp2:NatV h (.agg #[p2]) m2) (hq2:NatV h (.agg #[q2]) k2)
  (hk:k≠0) (hk2:k2≠0) (l1:(dig m).length≤200000000) (l2:(dig k).length≤200000000) (l3:(dig m2).length≤200000000) (l4:(dig k2).length≤200000000) :
  Runs K 155 #[v,.slice (some ⟨b,0,none⟩) 1 1] h fun r w=>RatV w r (m*m2 / Nat.gcd (m*m2) (k*k2)) ((s != t) && decide (m*m2≠0)) (k*k2 / Nat.gcd (m*m2) (k*k2)):=by
 obtain ⟨p,q,rfl,hp,hq⟩:=hv
 obtain ⟨a,n,c,rfl⟩:=Zaf hp
 obtain ⟨a',n',c',rfl⟩:=Zaf hq
 obtain ⟨a2,n2,c2,rfl⟩:=Zaf hp2
 obtain ⟨a2',n2',c2',rfl⟩:=Zaf hq2
 refine Runs.of Kok (Does.intro rfl Ye Tryz.func155 rfl ?_)
 obtain ⟨w0,e0,x0,hs0,z0,z1⟩:=lay2 h (.cells [.slice a n c,.bool s,.slice a' n' c'] 3) (.cells [.slice none 0 0,.bool false,.slice none 0 0] 3)
 have j1:h.size≤h.size+1:=Ya
 simp +decide only [go_sem,WR,WS,e0]
 rw [Za8]
 have hg0:w0.get b=_:=(x0.2 _ hb).trans hg
 obtain ⟨w1,e1,x1,hs1,g1⟩:=lay1 w0 (.cells [.slice none 0 0,.bool false,.slice none 0 0] 3)
 have k1:h.size≤w0.size:=Ya
 have hg1:w1.get b=_:=(x1.2 _ Ya).trans hg0
 obtain ⟨w2,e2,x2,hs2,g2,k2'⟩:=put1 (x0.trans x1) k1 (.cells [.slice a2 n2 c2,.bool t,.slice a2' n2' c2'] 3)
 have z0:w2.get h.size=_:=(k2' _ Ya).trans ((x1.2 _ Ya).trans z0)
 have z1:w2.get (h.size+1)=_:=(k2' _ Ya).trans ((x1.2 _ Ya).trans z1)
 have up:∀ {v:Value} {M:Nat},NatV h v M→NatV w2 v M:=fun H=>((H.ext x0).ext x1).over g1 Yn Yn hs2 g2 k2'
 have np:=up hp
 have nq:=up hq
 have np2:=up hp2
 have nq2:=up hq2
 obtain ⟨w3,e3,x3,hs3,g3⟩:=lay1 w2 (.cells [.slice a2 n2 c2,.bool t] 2)
 simp +decide only [go_sem,WR,WS,e1,hg0,g1,k1,e2,z0,g2,e3]
 refine Zaa Kok Ya (Zdi w3 (m:=m) (s:=s) (b:=w2.size) ⟨_,rfl,np.ext x3⟩ Ya g3 (np2.ext x3) Ya Ya) fun r w4 x4 hr4=> ?_
 obtain ⟨pt,rfl,hpt⟩:=hr4
 have z0:w4.get h.size=_:=(x4.2 _ Ya).trans ((x3.2 _ Ya).trans z0)
 have g2':w4.get w0.size=_:=(x4.2 _ Ya).trans ((x3.2 _ Ya).trans g2)
 have x34:=x3.trans x4
 simp +decide only [go_sem,WR,WS,z0]
 refine Zaa Kok (by have:=x34.1;omega) (Zci w4 (m:=m) (s:=s) ⟨_,_,rfl,np.ext x34,nq.ext x34⟩ hk) fun r w5 x5 hr5=> ?_
 obtain ⟨pu,rfl,hpu⟩:=hr5
 have g2':w5.get w0.size=_:=(x5.2 _ (by have:=x34.1;omega)).trans g2'
 have x35:=x34.trans x5
 simp +decide only [go_sem,WR,WS,g2']
 refine Zaa Kok (by have:=x35.1;omega) (Zci w5 (m:=m2) (s:=t) ⟨_,_,rfl,np2.ext x35,nq2.ext x35⟩ hk2) fun r w6 x6 hr6=> ?_
 obtain ⟨pv,rfl,hpv⟩:=hr6
 obtain ⟨av,nv,cv,rfl⟩:=Zaf hpv
 obtain ⟨w7,e7,x7,hs7,g7⟩:=lay1 w6 (.cells [.slice av nv cv,.bool false] 2)
 have x36:=x35.trans x6
 have x37:=x36.trans x7
 simp +decide only [go_sem,WR,WS,e7]
 refine Zaa Kok (by have:=x36.1;omega) (Zdi w7 (m:=k) (s:=false) (b:=w6.size) ⟨_,rfl,hpu.ext (x6.trans x7)⟩ Ya g7 (hpv.ext x7) Ya Ya) fun r w8 x8 hr8=> ?_
 obtain ⟨pw,rfl,hpw⟩:=hr8
 have x38:=x37.trans x8
 simp +decide only [go_sem,WR,WS]
 have hkk:k*k2≠0:=Nat.mul_ne_zero hk hk2
 refine Zaa Kok (by have:=x38.1;omega) (ZfU w8 (m:=m*m2) (k:=k*k2) ⟨_,rfl,hpt.ext (x5.trans (x6.trans (x7.trans x8)))⟩ ⟨_,rfl,hpw⟩ hkk (Nat.le_trans (ZhE l1 l3) Ya) (Nat.le_trans (ZhE l2 l4) Ya)) fun r w9 x9 hr9=> ?_
 obtain ⟨qr,rfl,hqr⟩:=hr9
 have hsg:((((s != t) && decide (m*m2≠0)) != ((false != false) && decide (k*k2≠0))) && decide (m*m2 / Nat.gcd (m*m2) (k*k2)≠0))=((s != t) && decide (m*m2≠0)):=by
  have hx:=Zhz (m:=m*m2) hkk
  by_cases h0:m*m2=0
  ·simp [h0]
  ·have h1:=hx.2 h0
   simp [h0,h1]
 rw [hsg] at hqr
 obtain ⟨pr,qq,rfl,hpr,hqq⟩:=hqr
 obtain ⟨a9,n9,c9,rfl⟩:=Zaf hpr
 obtain ⟨a9',n9',c9',rfl⟩:=Zaf hqq
 have x39:=x38.trans x9
 have z0:w9.get h.size= .cells [.slice a n c,.bool s,.slice a' n' c'] 3:=(((x5.trans (x6.trans (x7.trans (x8.trans x9)))).2 _ (by have:=x34.1;omega))).trans z0
 have z1:w9.get (h.size+1)=_:=(x39.2 _ Ya).trans z1
 obtain ⟨wa,ea,xa,hsa,ga,ka⟩:=put1 (x2.trans x39) (Nat.le_refl h.size) (.cells [.slice a9 n9 c9,.bool ((s != t) && decide (m*m2≠0)),.slice a9' n9' c9'] 3)
 have z1:wa.get (h.size+1)=_:=(ka _ Ya).trans z1
 obtain ⟨wb,eb,xb,hsb,gb,kb⟩:=put1 xa j1 (.cells [.slice a9 n9 c9,.bool ((s != t) && decide (m*m2≠0)),.slice a9' n9' c9'] 3)
 have i1:IntKind.i64.wrap (0+1)=1:=wrap_i64 Ya Ya
 generalize hbs:((s != t) && decide (m*m2≠0))=bs at *
 simp +decide only [go_sem,WR,WS,z0,Nat.le_refl,ea,i1]
 rw [Za8]
 simp +decide only [go_sem,WR,WS,ga,z1,j1,eb,gb]
 exact ⟨_,_,rfl,(hpr.over z0 Yn Yn hsa ga ka).over z1 Yn Yn hsb gb kb,(hqq.over z0 Yn Yn hsa ga ka).over z1 Yn Yn hsb gb kb⟩
set_option maxHeartbeats 4000000 in
theorem Ztf (h:Heap) {v u:Value} {m k m2 k2:Nat} {s:Bool} (hv:RatV h v m s k) (hu:RatV h u m2 false k2)
  (hk:k≠0) (hk2:k2≠0) (hm2:m2≠0) (l1:(dig m).length≤200000000) (l2:(dig k).length≤200000000) (l3:(dig m2).length≤200000000) (l4:(dig k2).length≤200000000) :
  Runs K 156 #[v,u] h fun r w=>∃ q,r= .tuple #[q,.bool true]∧RatV w q (m*k2 / Nat.gcd (m*k2) (k*m2)) (s && decide (m*k2≠0)) (k*m2 / Nat.gcd (m*k2) (k*m2)):=by
 obtain ⟨p,q,rfl,hp,hq⟩:=hv
 obtain ⟨a,n,c,rfl⟩:=Zaf hp
 obtain ⟨a',n',c',rfl⟩:=Zaf hq
 obtain ⟨p2,q2,rfl,hp2,hq2⟩:=hu
 obtain ⟨a2,n2,c2,rfl⟩:=Zaf hp2
 obtain ⟨a2',n2',c2',rfl⟩:=Zaf hq2
 refine Runs.of Kok (Does.intro rfl Ye Tryz.func156 rfl ?_)
 obtain ⟨w2,e0,x0,hs0,z0,z1,z2⟩:=lay3 h (.cells [.slice a n c,.bool s,.slice a' n' c'] 3) (.cells [.slice a2 n2 c2,.bool false,.slice a2' n2' c2'] 3) (.cells [.slice none 0 0,.bool false,.slice none 0 0] 3)
 have j2:h.size≤h.size+2:=Ya
 have np:=hp.ext x0
 have nq:=hq.ext x0
 have np2:=hp2.ext x0
 have nq2:=hq2.ext x0
 simp +decide only [go_sem,WR,WS,e0,z0,z1]
 refine Zaa Kok Ya (Zci w2 (m:=m2) (s:=false) ⟨_,_,rfl,np2,nq2⟩ hk2) fun r w3 x3 hr3=> ?_
 obtain ⟨pv,rfl,hpv⟩:=hr3
 obtain ⟨av,nv,cv,rfl⟩:=Zaf hpv
 obtain ⟨w4,e4,x4,hs4,g4⟩:=lay1 w3 (.cells [.slice av nv cv,.bool false] 2)
 have x34:=x3.trans x4
 simp +decide only [go_sem,WR,WS,e4]
 refine Zaa Kok (by have:=x3.1;omega) (Zdi w4 (m:=m) (s:=s) (b:=w3.size) ⟨_,rfl,np.ext x34⟩ Ya g4 (hpv.ext x4) Ya Ya) fun r w5 x5 hr5=> ?_
 obtain ⟨pt,rfl,hpt⟩:=hr5
 have x35:=x34.trans x5
 have z0:w5.get h.size=_:=(x35.2 _ Ya).trans z0
 have z1:w5.get (h.size+1)=_:=(x35.2 _ Ya).trans z1
 simp +decide only [go_sem,WR,WS,z0]
 refine Zaa Kok (by have:=x35.1;omega) (Zci w5 (m:=m) (s:=s) ⟨_,_,rfl,np.ext x35,nq.ext x35⟩ hk) fun r w6 x6 hr6=> ?_
 obtain ⟨pu,rfl,hpu⟩:=hr6
 have x36:=x35.trans x6
 have z1:w6.get (h.size+1)=_:=(x6.2 _ (by have:=x35.1;omega)).trans z1
 obtain ⟨w7,e7,x7,hs7,g7⟩:=lay1 w6 (.cells [.slice a2 n2 c2,.bool false] 2)
 have x37:=x36.trans x7
 simp +decide only [go_sem,WR,WS,z1,e7]
 refine Zaa Kok (by have:=x36.1;omega) (Zdi w7 (m:=k) (s:=false) (b:=w6.size) ⟨_,rfl,hpu.ext x7⟩ Ya g7 (np2.ext x37) Ya Ya) fun r w8 x8 hr8=> ?_
 obtain ⟨pw,rfl,hpw⟩:=hr8
 have x38:=x37.trans x8
 simp +decide only [go_sem,WR,WS]
 have hkk:k*m2≠0:=Nat.mul_ne_zero hk hm2
 refine Zaa Kok (by have:=x38.1;omega) (ZfU w8 (m:=m*k2) (k:=k*m2) ⟨_,rfl,hpt.ext (x6.trans (x7.trans x8))⟩ ⟨_,rfl,hpw⟩ hkk (Nat.le_trans (ZhE l1 l4) Ya) (Nat.le_trans (ZhE l2 l3) Ya)) fun r w9 x9 hr9=> ?_
 obtain ⟨qr,rfl,hqr⟩:=hr9
 have hsg:((((s != false) && decide (m*k2≠0)) != ((false != false) && decide (k*m2≠0))) && decide (m*k2 / Nat.gcd (m*k2) (k*m2)≠0))=(s && decide (m*k2≠0)):=by
  have hx:=Zhz (m:=m*k2) hkk
  by_cases h0:m*k2=0
  ·simp [h0]
  ·have h1:=hx.2 h0
   simp [h0,h1]
 rw [hsg] at hqr
 obtain ⟨pr,qq,rfl,hpr,hqq⟩:=hqr
 obtain ⟨a9,n9,c9,rfl⟩:=Zaf hpr
 obtain ⟨a9',n9',c9',rfl⟩:=Zaf hqq
 have x39:=x38.trans x9
 have z2:w9.get (h.size+2)=_:=(x39.2 _ Ya).trans z2
 generalize hbs:(s && decide (m*k2≠0))=bs at *
 obtain ⟨wa,ea,xa,hsa,ga,ka⟩:=put1 (x0.trans x39) j2 (.cells [.slice a9 n9 c9,.bool bs,.slice a9' n9' c9'] 3)
 simp +decide only [go_sem,WR,WS,z2,j2,ea,ga]
 exact ⟨_,rfl,_,_,rfl,hpr.over z2 Yn Yn hsa ga ka,hqq.over z2 Yn Yn hsa ga ka⟩
def scM (m:Nat) (e:Int):Nat:=if 0≤e then m*10 ^ e.toNat else m / Nat.gcd m (10 ^ (-e).toNat)
def scK (m:Nat) (e:Int):Nat:=if 0≤e then 1 else 10 ^ (-e).toNat / Nat.gcd m (10 ^ (-e).toNat)
set_option maxHeartbeats 4000000 in
theorem ZkJ (h:Heap) {v:Value} {m:Nat} {s:Bool} {e:Int} (hv:RatV h v m s 1) (hs:s=true→m≠0) (l1:(dig m).length≤100000000) (he1: -2000≤e) (he2:e≤2000) :
  Runs K 138 #[v,.int .i64 e] h fun r w=>RatV w r (scM m e) s (scK m e):=by
 obtain ⟨p,q,rfl,hp,hq⟩:=hv
 obtain ⟨a,n,c,rfl⟩:=Zaf hp
 obtain ⟨a',n',c',rfl⟩:=Zaf hq
 have l10:∀ n,n≤2000→(dig (10 ^ n)).length≤2001:=fun n hn=>Zqa Ya
 refine Runs.of Kok (Does.intro rfl Ye Tryz.func138 rfl ?_)
 obtain ⟨w0,e0,x0,hs0,z0,z1⟩:=lay2 h (.cells [.slice a n c,.bool s,.slice a' n' c'] 3) (.cells [.slice none 0 0,.bool false,.slice none 0 0] 3)
 have j1:h.size≤h.size+1:=Ya
 have i1:IntKind.i64.wrap (0 - e)=0 - e:=wrap_i64 Ya Ya
 obtain ⟨g,hg⟩:∃ g:Nat,g=(max e (0 - e)).toNat:=⟨_,rfl⟩
 have i2:max e (0 - e)=(g:Int):=Ya
 simp +decide only [go_sem,WR,WS,e0,i1,i2]
 refine Zaa Kok Ya (ZpV g w0 Ya) fun r w1 x1 hr=> ?_
 simp +decide only [go_sem,WR,WS]
 refine Zaa Kok (by have:=x1.1;omega) (ZfA w1 false hr) fun r w2 x2 hr=> ?_
 simp +decide only [go_sem,WR,WS]
 refine Zaa Kok (by have:=x1.1;have:=x2.1;omega) (ZdQ w2 hr) fun r w3 x3 hr=> ?_
 obtain ⟨p3,q3,rfl,hp3,hq3⟩:=hr
 obtain ⟨a3,n3,c3,rfl⟩:=Zaf hp3
 obtain ⟨a3',n3',c3',rfl⟩:=Zaf hq3
 have x13:=x1.trans (x2.trans x3)
 have hx3:=x0.trans x13
 obtain ⟨w4,e4,x4,hs4,g4⟩:=lay1 w3 (.cells [.slice none 0 0,.bool false,.slice none 0 0] 3)
 have t3:w0.size≤w3.size:=x13.1
 have k3:h.size≤w3.size:=Ya
 obtain ⟨w5,e5,x5,hs5,g5,k5⟩:=put1 (hx3.trans x4) k3 (.cells [.slice a3 n3 c3,.bool false,.slice a3' n3' c3'] 3)
 have up:∀ {v:Value} {M:Nat},NatV w3 v M→NatV w5 v M:=fun H=>(H.ext x4).over g4 Yn Yn hs5 g5 k5
 have np:=up ((hp.ext x0).ext x13)
 have nq:=up ((hq.ext x0).ext x13)
 have np3:=up hp3
 have nq3:=up hq3
 have z0:w5.get h.size=_:=(k5 _ Ya).trans ((x4.2 _ Ya).trans ((x13.2 _ Ya).trans z0))
 have z1:w5.get (h.size+1)=_:=(k5 _ Ya).trans ((x4.2 _ Ya).trans ((x13.2 _ Ya).trans z1))
 have fin:∀ (w:Heap) {u:Value} {M K':Nat},Ext w5 w→RatV w u M s K'→∃ aa nn cc a2 n2 c2 wd,u= .agg #[.slice aa nn cc,.bool s,.slice a2 n2 c2]∧w.set (h.size+1) (.cells [.slice aa nn cc,.bool s,.slice a2 n2 c2] 3)=wd∧w.get (h.size+1)= .cells [.slice none 0 0,.bool false,.slice none 0 0] 3∧wd.get (h.size+1)= .cells [.slice aa nn cc,.bool s,.slice a2 n2 c2] 3∧RatV wd u M s K':=by
  intro w u M K' hx hu
  obtain ⟨pp,qq,rfl,hpp,hqq⟩:=hu
  obtain ⟨aa,nn,cc,rfl⟩:=Zaf hpp
  obtain ⟨a2,n2,c2,rfl⟩:=Zaf hqq
  have z1:w.get (h.size+1)=_:=(hx.2 _ Ya).trans z1
  obtain ⟨wd,ed,xd,hsd,gd,kd⟩:=put1 (x5.trans hx) j1 (.cells [.slice aa nn cc,.bool s,.slice a2 n2 c2] 3)
  exact ⟨aa,nn,cc,a2,n2,c2,wd,rfl,ed,z1,gd,_,_,rfl,hpp.over z1 Yn Yn hsd gd kd,hqq.over z1 Yn Yn hsd gd kd⟩
 have hsm:∀ M,M≠0→(s && decide (m*M≠0))=s:=by
  intro M hM
  cases s with
  | false=>rfl
  | true =>
    have:=Nat.mul_ne_zero (hs rfl) hM
    simp [this]
 have h10:10 ^ g≠0:=by have:0 < 10 ^ g:=Nat.pow_pos Ya;omega
 by_cases hpos:(0:Int)≤e
 ·obtain ⟨w6,e6,x6,hs6,g6⟩:=lay1 w5 (.cells [.slice a3 n3 c3,.bool false,.slice a3' n3' c3'] 3)
  simp +decide only [go_sem,WR,WS,Bool.false_and,e4,g4,k3,e5,hpos,z0,g5,e6]
  refine Zaa Kok (by have:=x5.1;omega) (ZkK w6 (m:=m) (k:=1) (s:=s) (b:=w5.size) ⟨_,_,rfl,np.ext x6,nq.ext x6⟩ Ya g6 (np3.ext x6) (nq3.ext x6) Ya Ya Ya (Nat.le_trans (Zaz.2 (show 1 < B ^ 1 by rw [B_eq];omega)) Ya) (Nat.le_trans (l10 g Ya) Ya) (Nat.le_trans (Zaz.2 (show 1 < B ^ 1 by rw [B_eq];omega)) Ya)) fun r w7 x7 hr=> ?_
  have eg:e.toNat=g:=Ya
  have hM:m*10 ^ g / Nat.gcd (m*10 ^ g) (1*1)=scM m e:=by
   rw [scM,if_pos hpos,eg,Nat.mul_one,Nat.gcd_one_right,Nat.div_one]
  have hK:1*1 / Nat.gcd (m*10 ^ g) (1*1)=scK m e:=by
   rw [scK,if_pos hpos,Nat.mul_one,Nat.gcd_one_right]
  rw [hM,hK,Bool.bne_false,hsm _ h10] at hr
  obtain ⟨aa,nn,cc,a2,n2,c2,wd,rfl,ed,zz1,gd,hfin⟩:=fin w7 (x6.trans x7) hr
  simp +decide only [go_sem,WR,WS,zz1,j1,ed,gd]
  exact hfin
 ·simp +decide only [go_sem,WR,WS,Bool.false_and,e4,g4,k3,e5,hpos,z0,g5]
  refine Zaa Kok (by have:=x5.1;omega) (Ztf w5 (m:=m) (k:=1) (s:=s) ⟨_,_,rfl,np,nq⟩ ⟨_,_,rfl,np3,nq3⟩ Ya Ya h10 Ya (Nat.le_trans (Zaz.2 (show 1 < B ^ 1 by rw [B_eq];omega)) Ya) (Nat.le_trans (l10 g Ya) Ya) (Nat.le_trans (Zaz.2 (show 1 < B ^ 1 by rw [B_eq];omega)) Ya)) fun r w7 x7 hr=> ?_
  obtain ⟨qv,rfl,hqv⟩:=hr
  have eg:(-e).toNat=g:=Ya
  have hM:m*1 / Nat.gcd (m*1) (1*10 ^ g)=scM m e:=by
   rw [scM,if_neg hpos,eg,Nat.mul_one,Nat.one_mul]
  have hK:1*10 ^ g / Nat.gcd (m*1) (1*10 ^ g)=scK m e:=by
   rw [scK,if_neg hpos,eg,Nat.mul_one,Nat.one_mul]
  rw [hM,hK,hsm 1 Ya] at hqv
  obtain ⟨pp,qq,rfl,hpp,hqq⟩:=hqv
  obtain ⟨aa,nn,cc,rfl⟩:=Zaf hpp
  obtain ⟨a2,n2,c2,rfl⟩:=Zaf hqq
  obtain ⟨w8,e8,x8,hs8,g8⟩:=lay1 w7 (.cells [.slice none 0 0,.bool false,.slice none 0 0] 3)
  have k7:h.size≤w7.size:=by have:=x7.1;have:=x5.1;omega
  obtain ⟨w9,e9,x9,hs9,g9,k9⟩:=put1 (x5.trans (x7.trans x8)) k7 (.cells [.slice aa nn cc,.bool s,.slice a2 n2 c2] 3)
  have zz1:w9.get (h.size+1)= .cells [.slice none 0 0,.bool false,.slice none 0 0] 3:=(k9 _ (by have:=x7.1;omega)).trans ((x8.2 _ (by have:=x7.1;omega)).trans ((x7.2 _ Ya).trans z1))
  obtain ⟨wd,ed,xd,hsd,gd,kd⟩:=put1 x9 j1 (.cells [.slice aa nn cc,.bool s,.slice a2 n2 c2] 3)
  simp +decide only [go_sem,WR,WS,e8,g8,k7,e9,g9,zz1,j1,ed,gd]
  exact ⟨_,_,rfl,((hpp.ext x8).over g8 Yn Yn hs9 g9 k9).over zz1 Yn Yn hsd gd kd,((hqq.ext x8).over g8 Yn Yn hs9 g9 k9).over zz1 Yn Yn hsd gd kd⟩
end Go.Proofs.YtachkofbmodnnaaGreat.N14
namespace Go.Proofs.YtachkofbmodnnaaGreat.N15
open Go Go.Im Go.Im.Limbs Go.Im.Lexing Go.Proofs Go.RowKit Hd N1 N11 N12 N13 N14
set_option maxRecDepth 100000
theorem Ziv (s:ByteArray) (l:List Int) (c:Int) (h:Heap) (hd:decB s 0 l=true):Runs K 115 #[.string s,.int .i32 c] h fun r _=>r= .bool (l.elem c):=by
 refine Runs.of Kok (Does.intro rfl Ye Tryz.func115 rfl ?_)
 obtain ⟨w0,e0,x0,hs0,z0⟩:=lay1 h (.siter s 0)
 simp +decide only [go_sem,WR,WS,e0]
 refine Zah (α:=Nat × List Int) (fun k e w=>e.size=15∧Ext h w∧h.size < w.size∧w.get h.size= .siter s k.1∧e.get 1= .int .i32 c∧e.get 8= .pointer (some ⟨h.size,0,none⟩)∧decB s k.1 k.2=true∧l.elem c=k.2.elem c) (fun k=>k.2.length) (0,l) ?_ ?_
 ·exact ⟨Yc,x0,by omega,z0,Yc,Yc,hd,rfl⟩
 ·rintro ⟨pos,l'⟩ e w ⟨hsz,hxw,hws,g0,e1,e8,hdec,hl⟩ next
  simp only at g0 hdec hl
  cases l' with
  | nil =>
    simp only [decB,decide_eq_true_eq] at hdec
    simp +decide only [go_sem,WR,WS,hsz,e1,e8,g0,Zos (Nat.le_refl _) hdec,hl]
    rfl
  | cons x l' =>
    simp only [decB,Bool.and_eq_true,decide_eq_true_eq] at hdec
    obtain ⟨⟨d1,d2⟩,d3⟩:=hdec
    obtain ⟨w1,e1',x1,hs1,g1,k1⟩:=put1 hxw (Nat.le_refl _) (.siter s (pos+(Utf8.decode s pos).2))
    by_cases hx:x=c
    ·simp +decide only [go_sem,WR,WS,hsz,e1,e8,g0,Zit (Nat.le_refl _) d1,d2,e1',hx,hl]
     simp
    ·simp +decide only [go_sem,WR,WS,hsz,e1,e8,g0,Zit (Nat.le_refl _) d1,d2,e1',hx]
     refine next (pos+(Utf8.decode s pos).2,l') _ _ ⟨Yb,x1,by omega,g1,Yk,Yu,d3,?_⟩ Yp
     simp only [hl,List.elem_cons]
     have:(c == x)=false:=by simp;exact fun hh=>hx hh.symm
     rw [this]
theorem Zfm (c:Int) (h:Heap):Runs K 90 #[.int .i32 c] h fun r _=>r= .int .i64 (kindOf c):=by
 refine Runs.of Kok (Does.intro rfl Ye Tryz.func90 rfl ?_)
 by_cases h32:c=32
 ·subst h32
  simp +decide only [go_sem,WR,WS]
  rfl
 simp +decide only [go_sem,WR,WS]
 rw [decide_eq_false h32,ZkC,Zo0]
 refine ZhK (J:=fun e w=>e.size=55∧e.get 0= .int .i32 c∧e.get 6= .bool (isL c)∧w=h) YB ?_ ?_
 ·by_cases a1:97≤c
  ·by_cases a2:c≤122
   ·have il:isL c=true:=by simp [isL];omega
    simp +decide only [go_sem,WR,WS,a1,a2,il]
   ·have a3:65≤c:=by omega
    have a4:¬ c≤90:=Ya
    have a5:¬ c=95:=Ya
    have il:isL c=decide (c=8710):=by simp [isL,a2,a4,a5]
    by_cases a6:c=8710
    ·simp +decide only [go_sem,WR,WS,a1,a2,a3,a4,a5,a6,il]
     rfl
    ·simp +decide only [go_sem,WR,WS,a1,a2,a3,a4,a5,a6,il]
  ·by_cases a3:65≤c
   ·by_cases a4:c≤90
    ·have il:isL c=true:=by simp [isL];omega
     simp +decide only [go_sem,WR,WS,a1,a3,a4,il]
    ·have a6:¬ c=8710:=by omega
     have il:isL c=decide (c=95):=by simp [isL,a1,a4,a6]
     by_cases a5:c=95
     ·simp +decide only [go_sem,WR,WS,a1,a3,a4,a5,il]
      rfl
     ·simp +decide only [go_sem,WR,WS,a1,a3,a4,a5,a6,il]
   ·have a5:¬ c=95:=by omega
    have a6:¬ c=8710:=Ya
    have il:isL c=false:=by simp [isL,a1,a3,a5,a6]
    simp +decide only [go_sem,WR,WS,a1,a3,a5,a6,il]
 rintro e w ⟨hsz,e0,e6,rfl⟩
 cases hl:isL c with
 | true =>
   rw [hl] at e6
   simp +decide only [go_sem,WR,WS,hsz,e0,e6]
   simp only [kindOf,h32,hl,if_true,if_false]
   rfl
 | false =>
 rw [hl] at e6
 rw [ZnG,Env.ZoN,e6,ZkC,Zo0]
 refine ZhK (J:=fun e w'=>e.size=55∧e.get 0= .int .i32 c∧e.get 29= .bool (isD c || decide (c=175))∧w'=w) YB ?_ ?_
 ·by_cases a1:48≤c
  ·by_cases a2:c≤57
   ·have il:isD c=true:=by simp [isD,a1,a2]
    simp +decide only [go_sem,WR,WS,hsz,e0,a1,a2,il]
   ·have il:isD c=false:=by simp [isD,a2]
    by_cases a3:c=175
    ·simp +decide only [go_sem,WR,WS,hsz,e0,a1,a2,il,a3]
    ·simp +decide only [go_sem,WR,WS,hsz,e0,a1,a2,il,a3]
  ·have il:isD c=false:=by simp [isD,a1]
   have a3:¬ c=175:=Ya
   simp +decide only [go_sem,WR,WS,hsz,e0,a1,il,a3]
 rintro e w' ⟨hsz,e0,e29,rfl⟩
 cases hd:(isD c || decide (c=175)) with
 | true =>
   rw [hd] at e29
   simp +decide only [go_sem,WR,WS,hsz,e0,e29]
   simp only [kindOf,h32,hl,hd,if_true,if_false,Bool.false_eq_true]
   rfl
 | false =>
 rw [hd] at e29
 simp +decide only [go_sem,WR,WS,hsz,e0,e29]
 refine Zaa Kok (Nat.le_refl _) (Ziv _ t4 c _ Ye) fun r w1 x1 hr=> ?_
 subst hr
 cases h4:t4.elem c with
 | true =>
   simp +decide only [go_sem,WR,WS,hsz,e0]
   simp only [kindOf,h32,hl,hd,h4,if_true,if_false,Bool.false_eq_true]
   rfl
 | false =>
 simp +decide only [go_sem,WR,WS,hsz,e0]
 refine Zaa Kok (by have:=x1.1;omega) (Ziv _ t5 c _ Ye) fun r w2 x2 hr=> ?_
 subst hr
 cases h5:t5.elem c with
 | true =>
   simp +decide only [go_sem,WR,WS,hsz,e0]
   simp only [kindOf,h32,hl,hd,h4,h5,if_true,if_false,Bool.false_eq_true]
   rfl
 | false =>
 simp +decide only [go_sem,WR,WS,hsz,e0]
 refine Zaa Kok (by have:=x1.1;have:=x2.1;omega) (Ziv _ t6 c _ Ye) fun r w3 x3 hr=> ?_
 subst hr
 cases h6:t6.elem c with
 | true =>
   simp +decide only [go_sem,WR,WS,hsz,e0]
   simp only [kindOf,h32,hl,hd,h4,h5,h6,if_true,if_false,Bool.false_eq_true]
   rfl
 | false =>
 simp +decide only [go_sem,WR,WS,hsz,e0]
 refine Zaa Kok (by have:=x1.1;have:=x2.1;have:=x3.1;omega) (Ziv _ t7 c _ Ye) fun r w4 x4 hr=> ?_
 subst hr
 cases h7:t7.elem c with
 | true =>
   simp +decide only [go_sem,WR,WS,hsz,e0]
   simp only [kindOf,h32,hl,hd,h4,h5,h6,h7,if_true,if_false,Bool.false_eq_true]
   rfl
 | false =>
 simp +decide only [go_sem,WR,WS,hsz,e0]
 refine Zaa Kok (by have:=x1.1;have:=x2.1;have:=x3.1;have:=x4.1;omega) (Ziv _ t8 c _ Ye) fun r w5 x5 hr=> ?_
 subst hr
 cases h8:t8.elem c with
 | true =>
   simp +decide only [go_sem,WR,WS,hsz,e0]
   simp only [kindOf,h32,hl,hd,h4,h5,h6,h7,h8,if_true,if_false,Bool.false_eq_true]
   rfl
 | false =>
   simp +decide only [go_sem,WR,WS,hsz,e0]
   simp only [kindOf,h32,hl,hd,h4,h5,h6,h7,h8,if_true,if_false,Bool.false_eq_true]
   rfl
theorem Zg1 (c:Int) (h:Heap):Runs K 120 #[.int .i32 c] h fun r _=>r= .bool (isW c):=by
 refine Runs.of Kok (Does.intro rfl Ye Tryz.func120 rfl ?_)
 simp +decide only [go_sem,WR,WS]
 refine Zaa Kok (Nat.le_refl _) (Zfm c h) fun r w1 x1 hr=> ?_
 subst hr
 by_cases h2:kindOf c=2
 ·have h2':((kindOf c:Nat):Int)=2:=by omega
  simp +decide only [go_sem,WR,WS,h2']
  simp [isW,h2]
 ·have h2':¬ ((kindOf c:Nat):Int)=2:=by omega
  by_cases a1:48≤c
  ·simp +decide only [go_sem,WR,WS,h2',a1]
   simp [isW,h2,isD,a1]
  ·simp +decide only [go_sem,WR,WS,h2',a1]
   simp [isW,h2,isD,a1]
theorem Zd5 (l:List Int) {v:Value} (h:Heap) (t:Tx h v l) (hm:l.length≤1099511627776):Runs K 121 #[v] h fun r _=>r= .bool (Zat l):=by
 obtain ⟨a,c,rfl⟩:=t.open
 refine Runs.of Kok (Does.intro rfl Ye Tryz.func121 rfl ?_)
 by_cases h0:((l.length:Nat):Int)=0
 ·have:¬ 1≤l.length:=by omega
  simp +decide only [go_sem,WR,WS,h0]
  simp [Zat,this]
 by_cases h24:(24:Int) < ((l.length:Nat):Int)
 ·have:¬ l.length≤24:=by omega
  simp +decide only [go_sem,WR,WS,h0,h24]
  simp [Zat,this]
 obtain ⟨x,hx⟩:∃ x,l[0]? =some x:=⟨_,List.getElem?_eq_getElem Ya⟩
 obtain ⟨b,o,cs,e1,e2,e3,e4⟩:=t.one hx
 cases e1
 have p0:(0:Int) < ((l.length:Nat):Int):=Ya
 have e4':cs[o]? =some (.int .i32 x):=e4
 simp +decide only [go_sem,WR,WS,h0,h24,e3,e4',p0]
 refine Zaa Kok (Nat.le_refl _) (Zfm x h) fun r w1 x1 hr=> ?_
 subst hr
 by_cases h2:kindOf x=2
 case neg =>
  have h2':¬ ((kindOf x:Nat):Int)=2:=Ya
  simp +decide only [go_sem,WR,WS,h2']
  simp [Zat,hx,h2]
 have h2':((kindOf x:Nat):Int)=2:=Ya
 have hbase:Zat l=l.all isW:=by
  have q1:1≤l.length:=Ya
  have q2:l.length≤24:=Ya
  simp only [Zat,hx,q1,q2,h2,decide_true,Bool.true_and]
 rw [hbase]
 simp +decide only [go_sem,WR,WS,h2']
 refine Zah (α:=Nat) (fun i e w=>i≤l.length∧e.size=30∧Ext h w∧e.get 20= .slice (some ⟨b,o,none⟩) l.length big∧e.get 21= .int .i64 ((l.length:Nat):Int)∧e.get 22= .int .i64 (i:Int)∧(l.take i).all isW=true) (fun i=>l.length - i) 0 ?_ ?_
 ·exact ⟨Nat.zero_le _,Yc,x1,Yc,Yc,by simp +decide only [go_sem];rfl,by simp⟩
 ·rintro i e w ⟨hi,hsz,hxw,e20,e21,e22,hall⟩ next
  by_cases hil:(i:Int) < ((l.length:Nat):Int)
  case neg =>
   have:l.all isW=true:=by rw [List.take_of_length_le Ya] at hall;exact hall
   simp +decide only [go_sem,WR,WS,hsz,e20,e21,e22,hil,this]
  obtain ⟨y,hy⟩:∃ y,l[i]? =some y:=⟨_,List.getElem?_eq_getElem Ya⟩
  obtain ⟨b',o',cs',q1,q2,q3,q4⟩:=(t.ext hxw).one hy
  cases q1
  have i0:(0:Int)≤(i:Int):=Ya
  have i1:IntKind.i64.wrap ((i:Int)+1)=((i+1:Nat):Int):=Yd
  simp +decide only [go_sem,WR,WS,hsz,e20,e21,e22,hil,i0,Int.toNat_natCast,Nat.mul_one,q3,q4]
  refine Zaa Kok hxw.1 (Zg1 y w) fun r w2 x2 hr=> ?_
  subst hr
  cases hw:isW y with
  | false =>
    have:l.all isW=false:=by
     rw [List.all_eq_false]
     exact ⟨y,List.mem_of_getElem? hy,by simp [hw]⟩
    simp +decide only [go_sem,WR,WS,hsz,e20,e21,e22,this]
  | true =>
    simp +decide only [go_sem,WR,WS,hsz,e20,e21,e22,i1]
    refine next (i+1) _ _ ⟨by omega,Yb,hxw.trans x2,by simp +decide only [go_sem,hsz,e20],Y1,Yb,?_⟩ Ya
    rw [List.take_add_one,List.all_append,hall,hy]
    simp [hw]
end Go.Proofs.YtachkofbmodnnaaGreat.N15
namespace Go.Im
section
variable {K:Cfg} {low:Nat} {f:FuncId} {fs:List Fr}
theorem ZiU {b:Bool} {A B:Code} {e:Env} {h:Heap} {Q J:Env→Heap→Prop} (hA:straight K f A=true) (hB:straight K f B=true) (H1:b=true→W K low f [.code A] e h J) (H2:b=false→W K low f [.code B] e h J) (H3:∀ e h,J e h→W K low f fs e h Q):Wc K low f (.bool b) A B fs e h Q:=by
 cases b with
 | true=>exact ZhK hA (H1 rfl) H3
 | false=>exact ZhK hB (H2 rfl) H3
end
end Go.Im
namespace Go.Im.Lexing
theorem ZhP {p:Int→Bool}:∀ {l:List Int} {k:Nat},k < (l.takeWhile p).length→∃ c,l[k]? =some c∧p c=true
 | [],k,h=>by simp at h
 | x::l,k,h=>by
   rw [List.takeWhile_cons] at h
   split at h
   ·rename_i hp
    cases k with
    | zero=>exact ⟨x,rfl,hp⟩
    | succ k=>simpa using ZhP (l:=l) (k:=k) YO
   ·simp at h
theorem ZfC {p:Int→Bool}:∀ {l:List Int} {c:Int},l[(l.takeWhile p).length]? =some c→p c=false
 | [],c,h=>by simp at h
 | x::l,c,h=>by
   rw [List.takeWhile_cons] at h
   split at h
   ·rename_i hp
    exact ZfC (l:=l) YO
   ·rename_i hp
    simp at h
    subst h
    simpa using hp
theorem Zdt {p:Int→Bool} (l:List Int):l.take (l.takeWhile p).length=l.takeWhile p:=by
 have:=List.takeWhile_prefix p (l:=l)
 exact (List.prefix_iff_eq_take.1 this).symm
theorem Zgh {p:Int→Bool} (l:List Int):(l.takeWhile p).length≤l.length:=(List.takeWhile_prefix p).length_le
theorem Zft {s:List Int} {c:Int} (h:c ∈ digs s):48≤c∧c≤57:=by
 unfold digs at h
 have h2:=List.all_eq_true.1 (List.all_takeWhile (p:=isD) (l:=s)) c h
 simp [isD] at h2
 exact h2
def dbs (l:List Int):List UInt8:=l.map fun c=>UInt8.ofNat c.toNat
theorem ZaA (l:List Int):(dbs l).length=l.length:=by simp [dbs]
theorem ZiI {c:Int} (h1:48≤c) (h2:c≤57):Utf8.encode c=text [UInt8.ofNat c.toNat]:=by
 have:c=48∨c=49∨c=50∨c=51∨c=52∨c=53∨c=54∨c=55∨c=56∨c=57:=by omega
 rcases this with rfl | rfl | rfl | rfl | rfl | rfl | rfl | rfl | rfl | rfl<;>rfl
theorem Zgy:∀ (l:List Int) (a:List UInt8),(∀ c ∈ l,48≤c∧c≤57)→l.foldl (fun r n=>r++Utf8.encode n) (text a)=text (a++dbs l)
 | [],a,_=>by simp [dbs]
 | c::l,a,h=>by
   have hc:=h c Yp
   rw [List.foldl_cons,ZiI hc.1 hc.2,Zdv,Zgy l _ fun d hd=>h d (by simp [hd])]
   simp [dbs]
theorem ZcP {l:List Int} (h:∀ c ∈ l,48≤c∧c≤57):runesBytes l=text (dbs l):=by
 exact (Zgy l [] h).trans Yp
end Go.Im.Lexing
namespace Go.Proofs.YtachkofbmodnnaaGreat.N16
open Go Go.Im Go.Im.Limbs Go.Im.Lexing Go.Proofs Go.RowKit Hd N1 N11 N12 N13 N14 N15
set_option maxRecDepth 100000
theorem Zcw (s:List Int):Digs (dbs (digs s)):=by
 intro b hb
 simp only [dbs,List.mem_map] at hb
 obtain ⟨c,hc,rfl⟩:=hb
 have:=Zft hc
 have e:c.toNat < 256:=Ya
 rw [UInt8.toNat_ofNat_of_lt' Yaf]
 omega
theorem Za3 (c:Int) (h:Heap):Runs K 116 #[.int .i32 c] h fun r _=>r= .bool (isD c):=by
 refine Runs.of Kok (Does.intro rfl Ye Tryz.func116 rfl ?_)
 by_cases a1:48≤c
 ·simp +decide only [go_sem,WR,WS,a1]
  simp [isD,a1]
 ·simp +decide only [go_sem,WR,WS,a1]
  simp [isD,a1]
theorem Zdl (l:List Int) (i:Nat) {v:Value} (h:Heap) (t:Tx h v l) (hm:l.length≤1099511627776) (hi:i≤l.length):Runs K 91 #[v,.int .i64 (i:Int)] h fun r _=>r= .bool (begins (l.drop i)):=by
 obtain ⟨a,c,rfl⟩:=t.open
 refine Runs.of Kok (Does.intro rfl Ye Tryz.func91 rfl ?_)
 have i0:¬ (i:Int) < 0:=Ya
 have i0':(0:Int)≤(i:Int):=Ya
 by_cases hil:((l.length:Nat):Int)≤(i:Int)
 ·have:begins (l.drop i)=false:=by
   rw [List.drop_of_length_le Ya]
   rfl
  simp +decide only [go_sem,WR,WS,i0,hil,this]
 obtain ⟨x,hx⟩:∃ x,l[i]? =some x:=⟨_,List.getElem?_eq_getElem Ya⟩
 obtain ⟨b,o,cs,q1,q2,q3,q4⟩:=t.one hx
 cases q1
 have hil':(i:Int) < ((l.length:Nat):Int):=Ya
 have b0:(l.drop i)[0]? =some x:=by rw [List.getElem?_drop];exact hx
 have b1:(l.drop i)[1]? =l[i+1]? :=by rw [List.getElem?_drop]
 simp +decide only [go_sem,WR,WS,i0,i0',hil,hil',Int.toNat_natCast,Nat.mul_one,q3,q4]
 refine Zaa Kok (Nat.le_refl _) (Za3 x h) fun r w x1 hr=> ?_
 subst hr
 obtain ⟨b',o',cs',q1,q2,q3,q4⟩:=(t.ext x1).one hx
 cases q1
 have i2:IntKind.i64.wrap ((i:Int)+1)=((i+1:Nat):Int):=Yd
 cases hd:isD x with
 | true =>
   have:begins (l.drop i)=true:=by simp [begins,b0,hd]
   simp +decide only [go_sem,WR,WS,this]
 | false =>
 by_cases h175:x=175
 ·have:begins (l.drop i)=true:=by simp [begins,b0,h175]
  simp +decide only [go_sem,WR,WS,i0',hil',Int.toNat_natCast,Nat.mul_one,q3,q4,h175,this]
 by_cases h46:x=46
 case neg =>
  have:begins (l.drop i)=false:=by simp [begins,b0,hd,h175,h46]
  simp +decide only [go_sem,WR,WS,i0',hil',Int.toNat_natCast,Nat.mul_one,q3,q4,h175,h46,this]
 by_cases hl2:((i+1:Nat):Int) < ((l.length:Nat):Int)
 case neg =>
  have hnone:l[i+1]? =none:=List.getElem?_eq_none Ya
  have:begins (l.drop i)=false:=by simp [begins,b0,b1,hd,h175,h46,hnone,show isD 46=false from rfl]
  simp +decide only [go_sem,WR,WS,i0',hil',Int.toNat_natCast,Nat.mul_one,q3,q4,h175,h46,i2,hl2,this]
 obtain ⟨y,hy⟩:∃ y,l[i+1]? =some y:=⟨_,List.getElem?_eq_getElem Ya⟩
 obtain ⟨b2,o2,cs2,p1,p2,p3,p4⟩:=(t.ext x1).one hy
 cases p1
 rw [q3] at p3
 cases p3
 have i3:(0:Int)≤((i+1:Nat):Int):=Ya
 simp +decide only [go_sem,WR,WS,i0',hil',Int.toNat_natCast,Nat.mul_one,q3,q4,h175,h46,i2,hl2,i3,p4]
 refine Zaa Kok x1.1 (Za3 y w) fun r w2 x2 hr=> ?_
 subst hr
 simp +decide only [go_sem,WR,WS]
 simp [begins,b0,b1,hy,hd,h175,h46,show isD 46=false from rfl]
theorem ZbS (l:List Int) (i:Nat) {v:Value} (h:Heap) (t:Tx h v l) (hne:l≠[]) (hm:l.length≤1099511627776) (hi:i≤l.length) :
  Runs K 135 #[v,.int .i64 (i:Int)] h fun r _=>r= .tuple #[.string (text (dbs (digs (l.drop i)))),.int .i64 ((i+(digs (l.drop i)).length:Nat):Int)]:=by
 obtain ⟨a,c,rfl⟩:=t.open
 refine Runs.of Kok (Does.intro rfl Ye Tryz.func135 rfl ?_)
 obtain ⟨D,hD⟩:∃ D,D=digs (l.drop i):=⟨_,rfl⟩
 rw [← hD]
 have hDl:i+D.length≤l.length:=by
  have:=Zgh (p:=isD) (l.drop i)
  rw [List.length_drop] at this
  rw [hD]
  unfold digs
  omega
 simp +decide only [go_sem,WR,WS]
 refine Zah (α:=Nat) (fun k e w=>k≤D.length∧e.size=27∧Ext h w∧e.get 0= .slice a l.length c∧e.get 1= .int .i64 (i:Int)∧e.get 6= .int .i64 ((i+k:Nat):Int)) (fun k=>D.length - k) 0 ?_ ?_
 ·exact ⟨Nat.zero_le _,Yc,Ext.refl h,Yc,Yc,Yc⟩
 ·rintro k e w ⟨hk,hsz,hxw,e0,e1,e6⟩ next
  by_cases hkl:k < D.length
  ·obtain ⟨x,hx,hdx⟩:=ZhP (p:=isD) (l:=l.drop i) (k:=k) (by rw [← digs,← hD];exact hkl)
   rw [List.getElem?_drop] at hx
   have hil:=(List.getElem?_eq_some_iff.1 hx).1
   have hil':((i+k:Nat):Int) < ((l.length:Nat):Int):=Ya
   have i0:(0:Int)≤((i+k:Nat):Int):=Ya
   have i1:IntKind.i64.wrap (((i+k:Nat):Int)+1)=((i+(k+1):Nat):Int):=Yd
   obtain ⟨b,o,cs,q1,q2,q3,q4⟩:=(t.ext hxw).one hx
   cases q1
   simp +decide only [go_sem,WR,WS,hsz,e0,e1,e6,hil',i0,Int.toNat_natCast,Nat.mul_one,q3,q4]
   refine Zaa Kok hxw.1 (Za3 x w) fun r w2 x2 hr=> ?_
   subst hr
   simp +decide only [go_sem,WR,WS,hsz,e0,e1,e6,hdx,i1]
   exact next (k+1) _ _ ⟨by omega,Yb,hxw.trans x2,Yf,Yk,Yb⟩ Ya
  ·have hkD:k=D.length:=by omega
   subst hkD
   obtain ⟨a',c1,c2,c3⟩:=(t.ext hxw).cut hne (lo:=i) (hi:=i+D.length) Ya hDl
   have hcut:(l.drop i).take (i+D.length - i)=D:=by
    rw [Nat.add_sub_cancel_left,hD]
    exact Zdt _
   have hrb:runesBytes D=text (dbs D):=ZcP fun c hc=>Zft (by rw [← hD];exact hc)
   rw [hcut] at c3
   by_cases hil:((i+D.length:Nat):Int) < ((l.length:Nat):Int)
   case neg =>
    simp +decide only [go_sem,WR,WS,hsz,e0,e1,e6,hil,c1,c3,Zb0,hrb]
   obtain ⟨x,hx⟩:∃ x,l[i+D.length]? =some x:=⟨_,List.getElem?_eq_getElem Ya⟩
   have hdx:isD x=false:=by
    refine ZfC (l:=l.drop i) ?_
    rw [List.getElem?_drop,← digs,← hD]
    exact hx
   have i0:(0:Int)≤((i+D.length:Nat):Int):=Ya
   obtain ⟨b,o,cs,q1,q2,q3,q4⟩:=(t.ext hxw).one hx
   cases q1
   simp +decide only [go_sem,WR,WS,hsz,e0,e1,e6,hil,i0,Int.toNat_natCast,Nat.mul_one,q3,q4]
   refine Zaa Kok hxw.1 (Za3 x w) fun r w2 x2 hr=> ?_
   subst hr
   obtain ⟨a2,c1,c2,c3⟩:=(t.ext (hxw.trans x2)).cut hne (lo:=i) (hi:=i+D.length) Ya hDl
   rw [hcut] at c3
   simp +decide only [go_sem,WR,WS,hsz,e0,e1,e6,hdx,c1,c3,Zb0,hrb]
theorem Zju (l:List Int) (i:Nat):hi (l.drop i)=if l[i]? =some 175 then 1 else 0:=by
 unfold hi
 rw [List.getElem?_drop,Nat.add_zero]
theorem Zpy {l:List Int} {i:Nat} (h:i≤l.length):i+hi (l.drop i)≤l.length:=by
 rw [Zju]
 split
 ·rename_i hh
  have:=(List.getElem?_eq_some_iff.1 hh).1
  omega
 ·omega
theorem ZbO {l:List Int} {i:Nat} (h:i≤l.length):i+(digs (l.drop i)).length≤l.length:=by
 have:=Zgh (p:=isD) (l.drop i)
 rw [List.length_drop] at this
 unfold digs
 omega
theorem ZoM (l:List Int) (i:Nat) {v:Value} (h:Heap) (t:Tx h v l) (hne:l≠[]) (hm:l.length≤1099511627776) (hi':i≤l.length) :
  Runs K 136 #[v,.int .i64 (i:Int)] h fun r _=>(Zcv (l.drop i)=none∧∃ x y,r= .tuple #[.int .i64 x,.int .i64 y,.bool false]) ∨
   ∃ k n,Zcv (l.drop i)=some k∧i+k≤l.length∧ -999≤n∧n≤999∧r= .tuple #[.int .i64 n,.int .i64 ((i+k:Nat):Int),.bool true]:=by
 obtain ⟨a,c,rfl⟩:=t.open
 refine Runs.of Kok (Does.intro rfl Ye Tryz.func136 rfl ?_)
 have i0:(0:Int)≤(i:Int):=Ya
 by_cases hil:((l.length:Nat):Int)≤(i:Int)
 ·have:Zcv (l.drop i)=some 0:=by
   rw [List.drop_of_length_le Ya]
   rfl
  simp +decide only [go_sem,WR,WS,hil]
  exact .inr ⟨0,0,this,by omega,by omega,by omega,rfl⟩
 have hil':(i:Int) < ((l.length:Nat):Int):=Ya
 obtain ⟨x,hx⟩:∃ x,l[i]? =some x:=⟨_,List.getElem?_eq_getElem Ya⟩
 obtain ⟨b,o,cs,q1,q2,q3,q4⟩:=t.one hx
 cases q1
 have b0:(l.drop i)[0]? =some x:=by rw [List.getElem?_drop];exact hx
 by_cases h69:x=69
 case neg =>
  have:Zcv (l.drop i)=some 0:=by
   unfold Zcv
   rw [b0,if_neg (by simpa using h69)]
  simp +decide only [go_sem,WR,WS,hil,hil',i0,Int.toNat_natCast,Nat.mul_one,q3,q4,h69]
  exact .inr ⟨0,0,this,by omega,by omega,by omega,rfl⟩
 subst h69
 have i1:IntKind.i64.wrap ((i:Int)+1)=((i+1:Nat):Int):=Yd
 obtain ⟨neg,hneg⟩:∃ neg,neg=decide (l[i+1]? =some 175):=⟨_,rfl⟩
 obtain ⟨A,hA⟩:∃ A,A=i+1+(if neg then 1 else 0):=⟨_,rfl⟩
 have hiA:hi (l.drop (i+1))=(if neg then 1 else 0):=by
  rw [Zju,hneg]
  simp
 have hAl:A≤l.length:=by
  have:=Zpy (l:=l) (i:=i+1) Ya
  rw [hiA] at this
  omega
 obtain ⟨D,hD⟩:∃ D,D=digs (l.drop A):=⟨_,rfl⟩
 have hAD:A+D.length≤l.length:=by rw [hD];exact ZbO hAl
 have hexp:Zcv (l.drop i)=if D.length=0∨3 < D.length then none else some (A - i+D.length):=by
  have e1:1+hi ((l.drop i).drop 1)=A - i:=by rw [List.drop_drop,hiA];omega
  unfold Zcv
  rw [b0,if_pos rfl,e1,List.drop_drop,show i+(A - i)=A by omega,← hD]
 rw [hexp]
 simp +decide only [go_sem,WS]
 (rw [WR];simp +decide only [go_sem,WS])
 (rw [WR];simp +decide only [go_sem,WS,hil,hil',i0,Int.toNat_natCast,Nat.mul_one,q3,q4])
 (rw [WR];simp +decide only [go_sem,WS,i1])
 refine ZhK (J:=fun e w=>e.size=73∧e.get 0= .slice (some ⟨b,o,none⟩) l.length big∧e.get 1= .int .i64 ((i+1:Nat):Int)∧e.get 7= .bool neg∧w=h) YB ?_ ?_
 ·by_cases hl1:((i+1:Nat):Int) < ((l.length:Nat):Int)
  case neg =>
   have:neg=false:=by
    rw [hneg,List.getElem?_eq_none Ya]
    rfl
   simp +decide only [go_sem,WR,WS,hl1,this]
  obtain ⟨y,hy⟩:∃ y,l[i+1]? =some y:=⟨_,List.getElem?_eq_getElem Ya⟩
  obtain ⟨b',o',cs',p1,p2,p3,p4⟩:=t.one hy
  cases p1
  rw [q3] at p3
  cases p3
  have i2:(0:Int)≤((i+1:Nat):Int):=Ya
  have:neg=decide (y=175):=by rw [hneg,hy];simp
  simp +decide only [go_sem,WR,WS,hl1,i2,Int.toNat_natCast,Nat.mul_one,q3,p4,this]
 rintro e w ⟨hsz,e0,e1,e7,rfl⟩
 simp +decide only [go_sem,WS]
 (rw [WR];simp +decide only [go_sem,WS,hsz,e0,e1,e7])
 refine ZiU (J:=fun e w'=>e.size=73∧e.get 0= .slice (some ⟨b,o,none⟩) l.length big∧e.get 1= .int .i64 (A:Int)∧e.get 7= .bool neg∧w'=w) YB rfl ?_ ?_ ?_
 ·intro hn
  have i2:IntKind.i64.wrap (((i+1:Nat):Int)+1)=(A:Int):=YZ
  simp +decide only [go_sem,WR,WS,hsz,e0,e1,e7,i2]
 ·intro hn
  have i2:((i+1:Nat):Int)=(A:Int):=by rw [hA,hn];simp
  simp +decide only [go_sem,WR,WS,hsz,e0,e1,e7,i2]
 rintro e w' ⟨hsz,e0,e1,e7,rfl⟩
 simp +decide only [go_sem,WR,WS,hsz,e0,e1]
 refine Zaa Kok (Nat.le_refl _) (ZbS l A _ t hne hm hAl) fun r w x1 hr=> ?_
 subst hr
 rw [← hD]
 by_cases hD0:D.length=0
 ·have hDn:D=[]:=List.eq_nil_of_length_eq_zero hD0
  subst hDn
  have c0:text (dbs [])=⟨#[]⟩:=rfl
  simp +decide only [go_sem,WR,WS,hsz,e0,e1,e7,c0]
  simp
 have c0:¬ text (dbs D)=⟨#[]⟩:=by
  intro hh
  have:=congrArg ByteArray.size hh
  rw [Zbt,ZaA] at this
  exact hD0 this
 by_cases hD3:(3:Int) < ((D.length:Nat):Int)
 ·simp +decide only [go_sem,WR,WS,hsz,e0,e1,e7,c0,ZaA,hD3]
  exact .inl ⟨by rw [if_pos (.inr Ya)],_,_,rfl⟩
 rw [if_neg Ya]
 obtain ⟨w2,e2',x2,hs2,z2⟩:=lay1 w (.cells (byteCells (dbs D)) 1)
 simp +decide only [go_sem,WR,WS,hsz,e0,e1,e7,c0,ZaA,hD3,e2']
 refine Zah (α:=Nat × Nat) (fun k e w'=>k.1≤D.length∧e.size=73∧w'=w2∧e.get 7= .bool neg∧e.get 9= .int .i64 ((A+D.length:Nat):Int)∧e.get 10= .int .i64 (k.2:Int)∧k.2 < 10 ^ k.1∧e.get 55= .slice (some ⟨w.size,0,none⟩) D.length big∧e.get 56= .int .i64 ((D.length:Nat):Int)∧e.get 57= .int .i64 (k.1:Int)) (fun k=>D.length - k.1) (0,0) ?_ ?_
 ·exact ⟨Nat.zero_le _,Yb,rfl,Yi,Yb,by simp +decide only [go_sem,hsz];rfl,by simp,Yb,Yb,by simp +decide only [go_sem,hsz];rfl⟩
 ·rintro ⟨k,n⟩ e w' ⟨hk,hsz,rfl,e7,e9,e10,hn,e55,e56,e57⟩ next
  simp only at hk e10 hn e57
  have hpk:10 ^ k≤10 ^ 3:=Nat.pow_le_pow_right Ya Ya
  by_cases hkn:(k:Int) < ((D.length:Nat):Int)
  ·obtain ⟨u,hu⟩:∃ u,(dbs D)[k]? =some u:=⟨_,List.getElem?_eq_getElem (by rw [ZaA];omega)⟩
   have hud:48≤u.toNat∧u.toNat≤57:=by
    have:=Zcw (l.drop A)
    rw [← hD] at this
    exact this u (List.mem_of_getElem? hu)
   have hbc:(byteCells (dbs D))[k]? =some (.int .u8 u.toNat):=by simp [byteCells,hu]
   have l3:(0:Int)≤(k:Int):=Ya
   have m1:IntKind.i64.wrap (10*(n:Int))=((10*n:Nat):Int):=Yd
   have m3:IntKind.u8.wrap (((u.toNat:Nat):Int) - 48)=((u.toNat - 48:Nat):Int):=Yaa
   have m5:IntKind.i64.wrap (((u.toNat - 48:Nat):Int))=((u.toNat - 48:Nat):Int):=YX
   have m4:IntKind.i64.wrap (((10*n:Nat):Int)+((u.toNat - 48:Nat):Int))=((10*n+(u.toNat - 48):Nat):Int):=Yd
   have i5:IntKind.i64.wrap ((k:Int)+1)=((k+1:Nat):Int):=Yd
   simp +decide only [go_sem,WR,WS,hsz,e7,e9,e10,e55,e56,e57,hkn,l3,Int.toNat_natCast,z2,hbc,m1,m3,m5,m4,i5]
   refine next (k+1,10*n+(u.toNat - 48)) _ _ ⟨by simp only;omega,Yb,rfl,Yi,Yr,Yb,?_,by simp +decide only [go_sem,hsz,e55],by simp +decide only [go_sem,hsz,e56],Yb⟩ Yj
   simp only
   rw [Nat.pow_succ]
   omega
  ·have hn3:n < 1000:=by omega
   simp +decide only [go_sem,WR,WS,hsz,e7,e9,e10,e55,e56,e57,hkn]
   refine ZiU (J:=fun e w'=>∃ z:Int, -999≤z∧z≤999∧e.size=73∧e.get 9= .int .i64 ((A+D.length:Nat):Int)∧e.get 10= .int .i64 z) YB rfl ?_ ?_ ?_
   ·intro _
    have m6:IntKind.i64.wrap (- (n:Int))= - (n:Int):=wrap_i64 Ya Ya
    have m7:IntKind.i64.wrap (0 - (n:Int))= - (n:Int):=Yd
    simp +decide only [go_sem,WR,WS,hsz,e7,e9,e10,m6,m7]
    exact ⟨_,by omega,by omega,rfl⟩
   ·intro _
    simp +decide only [go_sem,WR,WS,hsz,e7,e9,e10]
    exact ⟨_,by omega,by omega,rfl⟩
   rintro e w ⟨z,z1,z2,hsz,e9,e10⟩
   simp +decide only [go_sem,WR,WS,hsz,e9,e10]
   exact .inr ⟨_,z,rfl,by omega,z1,z2,by rw [show i+(A - i+D.length)=A+D.length by omega]⟩
end Go.Proofs.YtachkofbmodnnaaGreat.N16
namespace Go.Proofs.YtachkofbmodnnaaGreat.N17
open Go Go.Im Go.Im.Limbs Go.Im.Lexing Go.Proofs Go.RowKit Hd N1 N10 N11 N12 N13 N14 N15 N16
set_option maxRecDepth 100000
theorem Zh4 (t:List UInt8) (h:Heap) (ht:Digs t) (hl:t.length≤2000):Runs K 137 #[.string (text t)] h fun r w=>∃ a n c,r= .tuple #[.agg #[.slice a n c],.bool (decide (t≠[]))]∧NatV w (.agg #[.slice a n c]) (dec t):=by
 by_cases h0:t=[]
 ·subst h0
  refine (ZkP h).mono fun r w ⟨hx,q,h1,h2⟩=> ?_
  obtain ⟨a,n,c,rfl,h3⟩:=h2
  exact ⟨hx,a,n,c,by simpa using h1,⟨a,n,c,rfl,h3⟩⟩
 ·refine (Zd0 t h ht h0 hl).mono fun r w ⟨hx,q,h1,h2⟩=> ?_
  obtain ⟨a,n,c,rfl,h3⟩:=h2
  exact ⟨hx,a,n,c,by simpa [h0] using h1,⟨a,n,c,rfl,h3⟩⟩
theorem Zma (l:List Int) (i:Nat):pt (l.drop i)=if l[i]? =some 46 then 1 else 0:=by
 unfold pt
 rw [List.getElem?_drop,Nat.add_zero]
theorem ZjY {l:List Int} {i A B C:Nat} {D T:List Int} {neg p:Bool} (hn:neg=decide (l[i]? =some 175)) (hA:A=i+if neg then 1 else 0) (hD:D=digs (l.drop A)) (hB:B=A+D.length) (hp:p=decide (l[B]? =some 46)) (hT:T=if p then digs (l.drop (B+1)) else []) (hC:C=B+if p then 1+T.length else 0) :
  ZdY (l.drop i)=if p=true∧T=[] then none else match Zcv (l.drop C) with
   | none=>none
   | some k=>if D.length+T.length=0∨200 < D.length+T.length then none else some (C - i+k):=by
 have e1:hi (l.drop i)=if neg then 1 else 0:=by
  unfold hi
  rw [List.getElem?_drop,hn]
  simp
 have e2:i+hi (l.drop i)=A:=by rw [e1,hA]
 have e3:pt (l.drop B)=if p then 1 else 0:=by
  rw [Zma,hp]
  simp
 unfold ZdY
 simp only [List.drop_drop]
 rw [e2,← hD,← Nat.add_assoc,e2,← hB,e3]
 cases p with
 | false =>
   have hT':T=[]:=hT
   subst hT'
   simp only [Bool.false_eq_true,if_false,Nat.add_zero,false_and,List.length_nil] at hC ⊢
   have:i+(hi (l.drop i)+D.length)=C:=by omega
   simp only [Nat.zero_ne_one,if_false,false_and,Nat.add_zero,this]
   cases Zcv (l.drop C) with
   | none=>rfl
   | some k=>simp only [show hi (l.drop i)+D.length+k=C - i+k by omega]
 | true =>
   have hT':T=digs (l.drop (B+1)):=hT
   simp only [if_true,true_and] at hC ⊢
   have q1:i+(hi (l.drop i)+D.length+1)=B+1:=Ya
   rw [q1,← hT']
   have q2:i+(hi (l.drop i)+D.length+1+T.length)=C:=Ya
   rw [q2]
   by_cases h0:T=[]
   ·simp [h0]
   ·rw [if_neg (by simpa using h0),if_neg h0]
    cases Zcv (l.drop C) with
    | none=>rfl
    | some k=>simp only [show hi (l.drop i)+D.length+1+T.length+k=C - i+k by omega]
set_option maxHeartbeats 4000000 in
theorem Zdb (l:List Int) (i:Nat) {v:Value} (h:Heap) (t:Tx h v l) (hne:l≠[]) (hm:l.length≤512) (hi':i≤l.length) (hb:begins (l.drop i)=true) :
  Runs K 117 #[v,.int .i64 (i:Int)] h fun r w=>(ZdY (l.drop i)=none∧∃ q y m s d,r= .tuple #[q,.int .i64 y,.bool false]∧RatV w q m s d) ∨
   ∃ k q m s d,ZdY (l.drop i)=some k∧i+k≤l.length∧i < i+k∧r= .tuple #[q,.int .i64 ((i+k:Nat):Int),.bool true]∧RatV w q m s d:=by
 obtain ⟨a,c,rfl⟩:=t.open
 refine Runs.of Kok (Does.intro rfl Ye Tryz.func117 rfl ?_)
 have i0:(0:Int)≤(i:Int):=Ya
 obtain ⟨w0,e0',x0,hs0,z0⟩:=lay1 h (.cells [.slice none 0 0,.bool false,.slice none 0 0] 3)
 have t0:=t.ext x0
 have il:i < l.length:=by
  refine Nat.lt_of_not_le fun hh=> ?_
  rw [List.drop_of_length_le hh] at hb
  cases hb
 have il':(i:Int) < ((l.length:Nat):Int):=Ya
 obtain ⟨x,hx⟩:∃ x,l[i]? =some x:=⟨_,List.getElem?_eq_getElem il⟩
 obtain ⟨neg,hneg⟩:∃ neg,neg=decide (l[i]? =some 175):=⟨_,rfl⟩
 obtain ⟨A,hA⟩:∃ A,A=i+(if neg then 1 else 0):=⟨_,rfl⟩
 have hAl:A≤l.length:=by rw [hA];split<;>omega
 obtain ⟨D,hD⟩:∃ D,D=digs (l.drop A):=⟨_,rfl⟩
 obtain ⟨B,hB⟩:∃ B,B=A+D.length:=⟨_,rfl⟩
 have hBl:B≤l.length:=by rw [hB,hD];exact ZbO hAl
 obtain ⟨p,hp⟩:∃ p,p=decide (l[B]? =some 46):=⟨_,rfl⟩
 obtain ⟨T,hT⟩:∃ T,T=if p then digs (l.drop (B+1)) else []:=⟨_,rfl⟩
 obtain ⟨C,hC⟩:∃ C,C=B+if p then 1+T.length else 0:=⟨_,rfl⟩
 have hBp:p=true→B+1≤l.length:=fun hh=>by
  rw [hp,decide_eq_true_eq] at hh
  exact (List.getElem?_eq_some_iff.1 hh).1
 have hCl:C≤l.length:=by
  rw [hC]
  cases hpp:p with
  | false=>simpa using hBl
  | true =>
    rw [hpp] at hT
    have:=ZbO (hBp hpp)
    simp only [if_true] at hT ⊢
    rw [← hT] at this
    omega
 rw [ZjY hneg hA hD hB hp hT hC]
 simp +decide only [go_sem,WR,WS,e0']
 refine Zaa Kok Ya (Zdl l i w0 t0 Ya Ya) fun r w1 x1 hr=> ?_
 rw [hb] at hr
 subst hr
 have h01:=x0.trans x1
 have t1:=t.ext h01
 have z1:w1.get h.size=_:=(x1.2 _ Ya).trans z0
 obtain ⟨b,o,cs,q1,q2,q3,q4⟩:=t1.one hx
 cases q1
 have hng:neg=decide (x=175):=by rw [hneg,hx];simp
 simp +decide only [go_sem,WR,WS,il',i0,Int.toNat_natCast,Nat.mul_one,q3,q4,← hng]
 refine ZiU (J:=fun e w=>e.size=93∧e.get 0= .slice (some ⟨b,o,none⟩) l.length big∧e.get 1= .int .i64 (A:Int)∧e.get 4= .pointer (some ⟨h.size,0,none⟩)∧e.get 7= .bool neg∧w=w1) YB rfl ?_ ?_ ?_
 ·intro hn
  have i2:IntKind.i64.wrap ((i:Int)+1)=(A:Int):=YZ
  simp +decide only [go_sem,WR,WS,i2]
 ·intro hn
  have i2:(i:Int)=(A:Int):=by rw [hA,hn];simp
  simp +decide only [go_sem,WR,WS,i2]
 rintro e w ⟨hsz,e0,e1,e4,e7,rfl⟩
 simp +decide only [go_sem,WR,WS,hsz,e0,e1]
 refine Zaa Kok (by have:=h01.1;omega) (ZbS l A _ t1 hne Ya hAl) fun r w2 x2 hr=> ?_
 subst hr
 rw [← hD,← hB]
 have h02:=h01.trans x2
 have t2:=t.ext h02
 have z2:w2.get h.size=_:=(x2.2 _ (by have:=x1.1;omega)).trans z1
 have i2:(0:Int)≤(B:Int):=Ya
 have hpd:∀ (J:Prop),(p=false→(B:Int) < ((l.length:Nat):Int)→∃ y,l[B]? =some y∧¬ y=46):=by
  intro _ hpf hlt
  obtain ⟨y,hy⟩:∃ y,l[B]? =some y:=⟨_,List.getElem?_eq_getElem Ya⟩
  refine ⟨y,hy,?_⟩
  intro hh
  rw [hp,hy,hh] at hpf
  simp at hpf
 apply Za1 (α:=Unit) (fun _ e w=>e.size=93∧e.get 0= .slice (some ⟨b,o,none⟩) l.length big∧e.get 1= .int .i64 (C:Int)∧e.get 4= .pointer (some ⟨h.size,0,none⟩)∧e.get 7= .bool neg∧e.get 8= .string (text (dbs D))∧e.get 9= .string (text (dbs T))∧Ext h w∧h.size < w.size∧w.get h.size= .cells [.slice none 0 0,.bool false,.slice none 0 0] 3∧¬ (p=true∧T=[]))
 ·intro cont
  by_cases hpp:p=true
  case neg =>
   have hpp:p=false:=by simpa using hpp
   have hT0:T=[]:=by rw [hT,hpp];rfl
   have hCB:C=B:=by rw [hC,hpp];rfl
   have ct:text (dbs T)=⟨#[]⟩:=by rw [hT0];rfl
   by_cases hlt:(B:Int) < ((l.length:Nat):Int)
   ·obtain ⟨y,hy,hy46⟩:=hpd True hpp hlt
    obtain ⟨b',o',cs',p1,p2,p3,p4⟩:=t2.one hy
    cases p1
    simp +decide only [go_sem,WS,hsz,e0,e1,e4,e7]
    (rw [WR];simp +decide only [go_sem,WS,hsz,e0,e1,e4,e7])
    (rw [WR];simp +decide only [go_sem,WS,hsz,e0,e1,e4,e7,hlt,i2,Int.toNat_natCast,Nat.mul_one,p3,p4,hy46])
    exact cont () _ _ ⟨Yb,Yf,by rw [hCB];simp +decide only [go_sem,WR,WS,hsz],Yg,Yi,Yb,Y4,h02,by have:=h02.1;have:=x1.1;have:=x2.1;omega,z2,by simp [hpp]⟩
   ·simp +decide only [go_sem,WS,hsz,e0,e1,e4,e7]
    (rw [WR];simp +decide only [go_sem,WS,hsz,e0,e1,e4,e7])
    (rw [WR];simp +decide only [go_sem,WS,hsz,e0,e1,e4,e7,hlt])
    exact cont () _ _ ⟨Yb,Yf,by rw [hCB];simp +decide only [go_sem,WR,WS,hsz],Yg,Yi,Yb,Y4,h02,by have:=h02.1;have:=x1.1;have:=x2.1;omega,z2,by simp [hpp]⟩
  have hy:l[B]? =some 46:=by rw [hp,decide_eq_true_eq] at hpp;exact hpp
  have hB1:=hBp hpp
  have hlt:(B:Int) < ((l.length:Nat):Int):=Ya
  rw [hpp] at hT hC
  simp only [if_true] at hT hC
  obtain ⟨b',o',cs',p1,p2,p3,p4⟩:=t2.one hy
  cases p1
  have i3:IntKind.i64.wrap ((B:Int)+1)=((B+1:Nat):Int):=Yd
  simp +decide only [go_sem,WS,hsz,e0,e1,e4,e7]
  (rw [WR];simp +decide only [go_sem,WS,hsz,e0,e1,e4,e7])
  (rw [WR];simp +decide only [go_sem,WS,hsz,e0,e1,e4,e7,hlt,i2,Int.toNat_natCast,Nat.mul_one,p3,p4])
  (rw [WR];simp +decide only [go_sem,WS,hsz,e0,e1,e4,e7,i3])
  refine Zaa Kok (by have:=h02.1;omega) (ZbS l (B+1) _ t2 hne Ya hB1) fun r w3 x3 hr=> ?_
  subst hr
  have h03:=h02.trans x3
  have z3:w3.get h.size=_:=(x3.2 _ (by have:=x1.1;have:=x2.1;omega)).trans z2
  rw [← hT,show B+1+T.length=C by omega]
  by_cases hT0:T=[]
  ·have c0:text (dbs T)=⟨#[]⟩:=by rw [hT0];rfl
   have jj:h.size≤h.size:=Nat.le_refl _
   obtain ⟨wd,ed,xd,hsd,gd,kd⟩:=put1 h03 jj (.cells [.slice none 0 0,.bool false,.slice none 0 0] 3)
   simp +decide only [go_sem,WR,WS,hsz,e0,e1,e4,e7,c0,z3,ed,gd]
   refine .inl ⟨by rw [if_pos ⟨hpp,hT0⟩],_,_,0,false,0,rfl,⟨_,_,rfl,NatV.zero _,NatV.zero _⟩⟩
  ·have c0:¬ text (dbs T)=⟨#[]⟩:=by
    intro hh
    have:=congrArg ByteArray.size hh
    rw [Zbt,ZaA] at this
    exact hT0 (List.eq_nil_of_length_eq_zero this)
   simp +decide only [go_sem,WS,hsz,e0,e1,e4,e7]
   (rw [WR];simp +decide only [go_sem,WS,hsz,e0,e1,e4,e7,c0])
   exact cont () _ _ ⟨Yb,Yf,Yb,Yg,Yi,Yb,Yb,h03,by have:=h03.1;have:=x1.1;have:=x2.1;have:=x3.1;omega,z3,by simp [hT0]⟩
 rintro _ e w ⟨hsz,e0,e1,e4,e7,e8,e9,hxw,hws,gw,hpT⟩
 rw [if_neg hpT]
 have t3:=t.ext hxw
 simp +decide only [go_sem,WR,WS,hsz,e0,e1]
 refine Zaa Kok hxw.1 (ZoM l C _ t3 hne Ya hCl) fun r w4 x4 hr=> ?_
 have h04:=hxw.trans x4
 have gw4:w4.get h.size=_:=(x4.2 _ hws).trans gw
 have hDT:Digs (dbs D++dbs T):=by
  intro u hu
  rcases List.mem_append.1 hu with hu | hu
  ·exact Zcw (l.drop A) u (by rw [← hD];exact hu)
  ·rw [hT] at hu
   split at hu
   ·exact Zcw _ u hu
   ·cases hu
 have hDTl:(dbs D++dbs T).length=D.length+T.length:=by rw [List.length_append,ZaA,ZaA]
 have hDl:D.length≤512:=Ya
 have hTl:T.length≤512:=by
  rw [hT]
  split
  ·rename_i hpp
   have:=ZbO (hBp hpp)
   omega
  ·simp
 have hcat:=ZeN (P:=Tryz.prog) (t:=9) (s:=text (dbs D)) (u:=text (dbs T)) (by rw [Zbt,Zbt,ZaA,ZaA];omega)
 rw [Zdv] at hcat
 have hadd:IntKind.i64.wrap (((D.length:Nat):Int)+((T.length:Nat):Int))=((D.length+T.length:Nat):Int):=Yd
 have jj:h.size≤h.size:=Nat.le_refl _
 rcases hr with ⟨hexp,y1,y2,rfl⟩ | ⟨k,n,hexp,hk,hn1,hn2,rfl⟩
 ·simp +decide only [go_sem,WR,WS,hsz,e0,e1,e4,e7,e8,e9,hcat]
  refine Zaa Kok h04.1 (Zh4 _ w4 hDT Ya) fun r w5 x5 hr=> ?_
  obtain ⟨an,nn,cn,rfl,hnat⟩:=hr
  have h05:=h04.trans x5
  have gw5:w5.get h.size=_:=(x5.2 _ (by have:=x4.1;omega)).trans gw4
  obtain ⟨w6,e6',x6,hs6,z6⟩:=lay1 w5 (.cells [.slice none 0 0] 1)
  obtain ⟨w7,e7',x7,hs7,z7,k7⟩:=put1 x6 (Nat.le_refl _) (.cells [.slice an nn cn] 1)
  have h07:=h05.trans x7
  have gw7:w7.get h.size=_:=(x7.2 _ (by have:=x4.1;have:=x5.1;omega)).trans gw5
  obtain ⟨wd,ed,xd,hsd,gd,kd⟩:=put1 h07 jj (.cells [.slice none 0 0,.bool false,.slice none 0 0] 3)
  simp +decide only [go_sem,WR,WS,hsz,e0,e1,e4,e7,e8,e9,e6',z6,h05.1,e7',gw7,ed,gd]
  refine .inl ⟨by rw [hexp],_,_,0,false,0,rfl,⟨_,_,rfl,NatV.zero _,NatV.zero _⟩⟩
 rw [hexp]
 simp only
 simp +decide only [go_sem,WR,WS,hsz,e0,e1,e4,e7,e8,e9,hcat]
 refine Zaa Kok h04.1 (Zh4 _ w4 hDT Ya) fun r w5 x5 hr=> ?_
 obtain ⟨an,nn,cn,rfl,hnat⟩:=hr
 have h05:=h04.trans x5
 have gw5:w5.get h.size=_:=(x5.2 _ (by have:=x4.1;omega)).trans gw4
 obtain ⟨w6,e6',x6,hs6,z6⟩:=lay1 w5 (.cells [.slice none 0 0] 1)
 obtain ⟨w7,e7',x7,hs7,z7,k7⟩:=put1 x6 (Nat.le_refl _) (.cells [.slice an nn cn] 1)
 have h07:=h05.trans x7
 have hs57:w5.size < w7.size:=Ya
 have gw7:w7.get h.size=_:=(x7.2 _ (by have:=x4.1;have:=x5.1;omega)).trans gw5
 obtain ⟨wd,ed,xd,hsd,gd,kd⟩:=put1 h07 jj (.cells [.slice none 0 0,.bool false,.slice none 0 0] 3)
 by_cases hz:D.length+T.length=0
 ·have hz1:dbs D++dbs T=[]:=List.eq_nil_of_length_eq_zero Ya
  simp +decide only [go_sem,WR,WS,hsz,e0,e1,e4,e7,e8,e9,e6',z6,h05.1,e7',gw7,ed,gd,hz1]
  refine .inl ⟨by rw [if_pos (.inl hz)],_,_,0,false,0,rfl,⟨_,_,rfl,NatV.zero _,NatV.zero _⟩⟩
 have hz1:dbs D++dbs T≠[]:=by
  intro hh
  rw [hh] at hDTl
  exact hz (by simpa using hDTl.symm)
 by_cases h200:(200:Int) < ((D.length+T.length:Nat):Int)
 ·simp +decide only [go_sem,WR,WS,hsz,e0,e1,e4,e7,e8,e9,e6',z6,h05.1,e7',gw7,ed,gd,hz1,ne_eq,not_false_eq_true,ZaA,hadd,h200]
  refine .inl ⟨by rw [if_pos (.inr Ya)],_,_,0,false,0,rfl,⟨_,_,rfl,NatV.zero _,NatV.zero _⟩⟩
 rw [if_neg Ya]
 simp +decide only [go_sem,WR,WS,hsz,e0,e1,e4,e7,e8,e9,e6',z6,h05.1,e7',z7,hz1,ne_eq,not_false_eq_true,ZaA,hadd,h200]
 refine Zaa Kok h07.1 (ZfA w7 neg (hnat.ext x7)) fun r w8 x8 hr=> ?_
 simp +decide only [go_sem,WR,WS,hsz]
 refine Zaa Kok (by have:=h07.1;have:=x8.1;omega) (ZdQ w8 hr) fun r w9 x9 hr=> ?_
 have hsub:IntKind.i64.wrap (n - ((T.length:Nat):Int))=n - ((T.length:Nat):Int):=wrap_i64 Ya Ya
 simp +decide only [go_sem,WR,WS,hsz,e0,e1,e4,e7,e8,e9,ZaA,hsub]
 have hdec:(dig (dec (dbs D++dbs T))).length≤100000000:=by
  have:=ZhD (dec_lt hDT)
  omega
 refine Zaa Kok (by have:=h07.1;have:=x8.1;have:=x9.1;omega) (ZkJ w9 hr Yp hdec Ya Ya) fun r w10 x10 hr=> ?_
 obtain ⟨pr,qr,rfl,hpr,hqr⟩:=hr
 obtain ⟨a1,n1,c1,rfl⟩:=Zaf hpr
 obtain ⟨a2,n2,c2,rfl⟩:=Zaf hqr
 have h710:=x8.trans (x9.trans x10)
 have h0a:=h07.trans h710
 have gwa:w10.get h.size=_:=(h710.2 _ (by have:=x4.1;have:=x5.1;omega)).trans gw7
 obtain ⟨wd,ed,xd,hsd,gd,kd⟩:=put1 h0a jj (.cells [.slice a1 n1 c1,.bool (neg && decide (dec (dbs D++dbs T)≠0)),.slice a2 n2 c2] 3)
 simp only [ne_eq] at ed gd
 simp +decide only [go_sem,WR,WS,hsz,e0,e1,e4,gwa,ed,gd]
 have hCk:i+(C - i+k)=C+k:=by
  have:i≤C:=by rw [hC,hB,hA];omega
  omega
 refine .inr ⟨_,_,_,_,_,rfl,by omega,?_,by rw [hCk],⟨_,_,rfl,hpr.over gwa Yn Yn hsd gd kd,hqr.over gwa Yn Yn hsd gd kd⟩⟩
 have:D.length+T.length≤C - i:=by
  rw [hC,hB,hA]
  cases p with
  | false =>
    have:T=[]:=hT
    simp [this]
    omega
  | true=>simp;omega
 omega
end Go.Proofs.YtachkofbmodnnaaGreat.N17
