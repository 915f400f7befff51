/- Proved here: parts of the way to BEditBack (BN9 BN10); no condition beyond those that each theorem names. -/
import Derived.Test.YtachkofbmodnnaaGreatG9
set_option linter.unusedSimpArgs false
set_option linter.unusedVariables false
namespace Go.Proofs.YtachkofbmodnnaaGreat.N9
open Go Go.Im Go.Im.Limbs Go.Proofs Go.RowKit Hd N1 N2 N3 N4 N5 N6 N7 N8
set_option maxRecDepth 100000
theorem isub {x y:Nat} (h:y≤x) (hx:x < 9223372036854775808):IntKind.i64.wrap ((x:Int) - (y:Int))=((x - y:Nat):Int):=by
 rw [← Int.ofNat_sub h]
 exact wrap_i64 Ya Ya
theorem Zsv {x:Nat} (h:1≤x) (hx:x < 9223372036854775808):IntKind.i64.wrap ((x:Int) - 1)=((x - 1:Nat):Int):=isub h hx
theorem Zsu {x:Nat} (h:2≤x) (hx:x < 9223372036854775808):IntKind.i64.wrap ((x:Int) - 2)=((x - 2:Nat):Int):=isub h hx
theorem ZqQ {x:Nat} (hx:x < 9223372036854775807):IntKind.i64.wrap ((x:Int)+1)=((x+1:Nat):Int):=iadd (y:=1) Ya
theorem Zr1 {x:Nat} (h:1≤x) (hx:x < 18446744073709551616):IntKind.u64.wrap ((x:Int) - 1)=((x - 1:Nat):Int):=wsub h hx
set_option maxHeartbeats 4000000 in
theorem Zoj (x y k0:Nat) (h:Heap) {v u:Value} (hv:NatV h v x) (hu:NatV h u y) (hy:(dig y).length=k0+2) (hxy:(dig y).length≤(dig x).length) (hl:(dig x).length≤549755813) :
  Runs K 185 #[v,u] h fun r w=>∃ q t,r= .tuple #[q,t]∧NatV w q (x / y)∧NatV w t (x%y):=by
 obtain ⟨a,c,rfl,sa⟩:=hv.open
 obtain ⟨b,d,rfl,sb⟩:=hu.open
 obtain ⟨tb,htb⟩:∃ tb,(dig y)[k0+1]? =some tb:=⟨_,List.getElem?_eq_getElem Ya⟩
 obtain ⟨s,hs⟩:∃ s,s=32 - bl tb:=⟨_,rfl⟩
 obtain ⟨hs32,hVl,hVbig,hVlt⟩:=ZqZ hy htb hs
 have htB:tb < 4294967296:=Zap y tb (List.mem_of_getElem? htb)
 obtain ⟨m,hm⟩:∃ m,m=(dig x).length - (k0+2):=⟨_,rfl⟩
 refine Runs.of Kok (Does.intro rfl Ye Tryz.func185 rfl ?_)
 obtain ⟨w0,e0,hx0,hs0,z0,z1,z2,z3⟩:=lay4 h (.cells [.slice a (dig x).length c] 1) (.cells [.slice b (dig y).length d] 1) (.cells [.slice none 0 0] 1) (.cells [.slice none 0 0] 1)
 obtain ⟨bb,ob,cb,rfl,hbb,hgb,hcb⟩:=(sb.ext hx0).one (Za0 htb)
 rw [hy] at e0 z1 hu
 have p1:IntKind.i64.wrap (((k0+2:Nat):Int) - 1)=((k0+1:Nat):Int):=by rw [Zsv Ya Ya];rfl
 have p2:(0:Int)≤((k0+1:Nat):Int):=Ya
 have p3:((k0+1:Nat):Int) < ((k0+2:Nat):Int):=Ya
 rw [hy]
 simp +decide only [go_sem,WR,WS,e0,z1,p1,p2,p3,Nat.mul_one,Int.toNat_natCast,hgb,hcb]
 refine Zaa Kok Ya (Zsk tb w0 htB) fun r w1 x1 hr=> ?_
 subst hr
 have hx1:=hx0.trans x1
 have y0:w1.get h.size=_:=(x1.2 _ Ya).trans z0
 have y1:w1.get (h.size+1)=_:=(x1.2 _ Ya).trans z1
 have y2:w1.get (h.size+2)=_:=(x1.2 _ Ya).trans z2
 have y3:w1.get (h.size+3)=_:=(x1.2 _ Ya).trans z3
 have hs1:h.size+4≤w1.size:=by have:=x1.1;omega
 rw [← hs]
 simp +decide only [go_sem,WR,WS,y1]
 have hvb:NatV w1 (.agg #[.slice (some ⟨bb,ob,none⟩) (k0+2) d]) y:=hu.ext hx1
 refine Zaa Kok Ya (ZlQ y s w1 hvb hs32 Ya) fun r w2 x2 hr=> ?_
 obtain ⟨va,cv,rfl,sv⟩:=hr.open
 have hV2:(dig (y*2 ^ s)).length=k0+2:=hVl
 rw [hV2] at sv
 rw [hV2]
 have hx2:=hx1.trans x2
 have y0:w2.get h.size=_:=(x2.2 _ Ya).trans y0
 have y1:w2.get (h.size+1)=_:=(x2.2 _ Ya).trans y1
 have y2:w2.get (h.size+2)=_:=(x2.2 _ Ya).trans y2
 have y3:w2.get (h.size+3)=_:=(x2.2 _ Ya).trans y3
 have hs2:h.size+4≤w2.size:=by have:=x2.1;omega
 obtain ⟨ub,hub⟩:∃ ub,ub=w2.size:=⟨_,rfl⟩
 have m1:=mk_zero (sz:=w2.size) (N:=(dig x).length+1) Ya
 obtain ⟨w3,e3,x3,hs3,gu3⟩:=lay1 w2 (.cells (lv (List.replicate ((dig x).length+1) 0)) 1)
 have q1:IntKind.i64.wrap ((((dig x).length:Nat):Int)+1)=(((dig x).length+1:Nat):Int):=ZqQ Ya
 have t0:w3.get h.size=_:=(x3.2 _ Ya).trans y0
 simp +decide only [go_sem,WR,WS,y0,y1,q1,m1,e3,t0]
 refine Zaa Kok Ya (ZlQ x s w3 (hv.ext (hx2.trans x3)) hs32 Ya) fun r w4 x4 hr=> ?_
 obtain ⟨aA,cA,rfl,sA⟩:=hr.open
 have hA:x*2 ^ s < B ^ ((dig x).length+1):=by
  have h1:=Zku x
  have h2:2 ^ s≤B:=by
   rw [B_eq]
   exact Nat.pow_le_pow_right (n:=2) Ya (show s≤32 by omega)
  rw [Nat.pow_succ]
  have h3:x*2 ^ s≤x*B:=Nat.mul_le_mul_left _ h2
  have h4:x*B < B ^ (dig x).length*B:=Nat.mul_lt_mul_of_pos_right h1 ZdP
  omega
 have hAl:(dig (x*2 ^ s)).length≤(dig x).length+1:=Zaz.2 hA
 have hx0':x≠0:=by
  intro hx
  have:(dig x).length=0:=by rw [hx,ZaU];rfl
  omega
 have hAi:Zak w4 1 (.slice aA (dig (x*2 ^ s)).length cA)=some (lv (dig (x*2 ^ s))):=by
  rcases sA.Zak with h1 | ⟨h1,_⟩
  ·exact h1
  ·exfalso
   have h2:=ZdL.1 (List.length_eq_zero_iff.1 h1)
   rcases Nat.mul_eq_zero.1 h2 with h3 | h3
   ·exact hx0' h3
   ·have:=Nat.two_pow_pos s
    omega
 have gu4:w4.get ub= .cells (lv (List.replicate ((dig x).length+1) 0)) 1:=by
  rw [hub]
  exact (x4.2 _ Ya).trans gu3
 have s4:ub+1≤w4.size:=by have:=x4.1;omega
 have hcp:=ZsQ (low:=h.size) (n:=(dig x).length+1) gu4 hAi Ya (by rw [Zan,List.length_replicate]) (by rw [Zan];exact hAl)
 obtain ⟨us0,hus0⟩:∃ us0,us0=dig (x*2 ^ s)++List.replicate ((dig x).length+1 - (dig (x*2 ^ s)).length) 0:=⟨_,rfl⟩
 have hcells:lv (dig (x*2 ^ s))++(lv (List.replicate ((dig x).length+1) 0)).drop (lv (dig (x*2 ^ s))).length=lv us0:=by
  rw [hus0,Zmw,Zqi,Zan,List.drop_replicate]
 rw [hcells] at hcp
 have hus0l:us0.length=(dig x).length+1:=by rw [hus0];simp;omega
 have hus0s:Small us0:=by rw [hus0];exact (Zap _).append (Small.replicate _)
 have hus0v:val us0=x*2 ^ s:=by rw [hus0,val_append,ZaL,Zbs,Nat.mul_zero,Nat.add_zero]
 have hx4:Ext w2 w4:=x3.trans x4
 obtain ⟨w5,e5',x5,hs5,gu5,k5⟩:=put1 hx4 (show w2.size≤ub by omega) (.cells (lv us0) 1)
 have x5h:Ext h w5:=hx2.trans x5
 have r0:w5.get h.size=_:=(x5.2 _ Ya).trans y0
 have r1:w5.get (h.size+1)=_:=(x5.2 _ Ya).trans y1
 have m2:=mk_zero (sz:=w5.size) (N:=m+1) Ya
 obtain ⟨qb,hqb⟩:∃ qb,qb=w5.size:=⟨_,rfl⟩
 obtain ⟨w6,e6',x6,hs6,gq6⟩:=lay1 w5 (.cells (lv (List.replicate (m+1) 0)) 1)
 have hx6:Ext w2 w6:=x5.trans x6
 have q2:IntKind.i64.wrap ((((dig x).length:Nat):Int) - ((k0+2:Nat):Int))=(m:Int):=by rw [isub Ya Ya,hm]
 have q3:IntKind.i64.wrap ((m:Int)+1)=((m+1:Nat):Int):=ZqQ Ya
 have q4:IntKind.i64.wrap (((k0+2:Nat):Int) - 2)=(k0:Int):=by rw [Zsu Ya Ya];rfl
 obtain ⟨top,htop⟩:∃ top,(dig (y*2 ^ s))[k0+1]? =some top:=⟨_,List.getElem?_eq_getElem Ya⟩
 obtain ⟨next,hnext⟩:∃ next,(dig (y*2 ^ s))[k0]? =some next:=⟨_,List.getElem?_eq_getElem Ya⟩
 have htopB:top < 4294967296:=Zap _ top (List.mem_of_getElem? htop)
 have hnextB:next < 4294967296:=Zap _ next (List.mem_of_getElem? hnext)
 obtain ⟨bv,ov,cvv,rfl,hbv,hgv,hcv⟩:=(sv.ext hx6).one (Za0 htop)
 obtain ⟨bv',ov',cvv',hbe,hbv',hgv',hcv'⟩:=(sv.ext hx6).one (Za0 hnext)
 cases hbe
 rw [hgv] at hgv'
 cases hgv'
 have p4:(0:Int)≤(k0:Int):=Ya
 have p5:(k0:Int) < ((k0+2:Nat):Int):=Ya
 simp +decide only [go_sem,WR,WS,← hub,hcp,e5',r0,r1,q2,q3,m2,e6',p1,p2,p3,q4,p4,p5,Nat.mul_one,Int.toNat_natCast,hgv,hcv,hcv',w64 (show top < 18446744073709551616 by omega),w64 (show next < 18446744073709551616 by omega)]
 have hV0:0 < y*2 ^ s:=by
  have:0 < B ^ (k0+1):=Nat.pow_pos ZdP
  omega
 have hubs:ub < w5.size:=Ya
 have gu6:w6.get ub= .cells (lv us0) 1:=(x6.2 _ hubs).trans gu5
 have gq6':w6.get qb= .cells (lv (List.replicate (m+1) 0)) 1:=by rw [hqb];exact gq6
 have v2:w2.get (h.size+2)= .cells [.slice none 0 0] 1:=y2
 have v3:w2.get (h.size+3)= .cells [.slice none 0 0] 1:=y3
 have hqub:qb≠ub:=Ya
 have hlo:h.size≤ub:=Ya
 have hloq:h.size≤qb:=Ya
 have hla:(dig x).length=m+(k0+2):=Ya
 have p6:((m+1:Nat):Int) - 1=(m:Int):=Ya
 clear e0 e3 e5' e6' hcp hcells gu3 gu4 gq6 gu5 m1 m2 z0 z1 z2 z3 y0 y1 y2 y3 r0 r1 t0 k5 hAi
 generalize hva:(some { block:=bv,off:=ov,spot:=none }:Option Addr)=va at *
 refine Zah (α:=Nat × List Nat × List Nat) (fun k e w=>e.size=152∧e.get 4= .pointer (some ⟨h.size+2,0,none⟩)∧e.get 5= .pointer (some ⟨h.size+3,0,none⟩)∧e.get 6= .int .i64 (s:Int)∧e.get 7= .slice va (k0+2) cv∧e.get 8= .slice (some ⟨ub,0,none⟩) ((dig x).length+1) ((dig x).length+1)∧e.get 9= .int .i64 ((k0+2:Nat):Int)∧e.get 11= .slice (some ⟨qb,0,none⟩) (m+1) (m+1)∧e.get 12= .int .u64 (top:Int)∧e.get 13= .int .u64 (next:Int)∧e.get 14= .int .i64 ((k.1:Int) - 1)∧k.1≤m+1∧Ext w2 w∧w6.size≤w.size∧w.get ub= .cells (lv k.2.1) 1∧w.get qb= .cells (lv k.2.2) 1 ∧
  k.2.1.length=(dig x).length+1∧Small k.2.1∧k.2.2.length=m+1∧Small k.2.2∧val k.2.1 < y*2 ^ s*B ^ k.1∧x*2 ^ s=B ^ k.1*val (k.2.2.drop k.1)*(y*2 ^ s)+val k.2.1) (fun k=>k.1) (m+1,us0,List.replicate (m+1) 0) ?_ ?_
 ·refine ⟨Yc,Yc,Yc,Yc,Yc,Yc,Yc,by simp +decide only [go_sem,← hqb],Yc,Yc,by simp +decide only [go_sem,p6],Nat.le_refl _,hx6,Nat.le_refl _,gu6,gq6',hus0l,hus0s,by simp,Small.replicate _,?_,?_⟩
  ·simp only
   rw [hus0v]
   have h1:=Zku x
   have h2:2 ^ s≤2147483648:=Nat.pow_le_pow_right (n:=2) Ya (show s≤31 by omega)
   have h3:x*2 ^ s≤x*2147483648:=Nat.mul_le_mul_left _ h2
   have h4:x*2147483648 < B ^ (dig x).length*2147483648:=Nat.mul_lt_mul_of_pos_right h1 Ya
   have h5:2147483648*B ^ (k0+1)*B ^ (m+1)≤y*2 ^ s*B ^ (m+1):=Nat.mul_le_mul_right _ hVbig
   have e:2147483648*B ^ (k0+1)*B ^ (m+1)=B ^ (dig x).length*2147483648:=by
    rw [Nat.mul_assoc,← Nat.pow_add,Nat.mul_comm]
    congr 2
    omega
   omega
  ·simp only
   rw [hus0v,List.drop_of_length_le Yp,ZaQ,Nat.mul_zero,Nat.zero_mul,Nat.zero_add]
 ·rintro ⟨k,us,qs⟩ e w ⟨hsz,e4,e5,e6,e7,e8,e9,e11,e12,e13,e14,hk,hxw,hws,gu,gq,hul,hus,hql,hqs,hlt,heq⟩ again
  simp only at hk e14 gu gq hul hus hql hqs hlt heq
  have hxh:Ext h w:=hx2.trans hxw
  by_cases hk0:(0:Int)≤(k:Int) - 1
  case neg =>
   have:k=0:=by omega
   subst this
   rw [Nat.pow_zero,Nat.mul_one] at hlt
   rw [Nat.pow_zero,Nat.one_mul,List.drop_zero] at heq
   have hqv:val qs=x / y:=by
    rw [← Nat.mul_div_mul_right x y (Nat.two_pow_pos s),heq,Nat.add_comm,Nat.add_mul_div_right _ _ hV0,Nat.div_eq_of_lt hlt,Nat.zero_add]
   have huv:val us=x%y*2 ^ s:=by
    rw [← Nat.mul_mod_mul_right,heq,Nat.add_comm,Nat.add_mul_mod_self_right,Nat.mod_eq_of_lt hlt]
   simp +decide only [go_sem,WR,WS,hsz,e4,e5,e6,e7,e8,e9,e11,e12,e13,e14,hk0]
   refine Zaa Kok Ya (ZaI qs w (Sl.made Ya gq YK YC) hqs Ya) fun r wa xa hr1=> ?_
   rw [hqv] at hr1
   obtain ⟨a1,c1,rfl,t1⟩:=hr1.open
   have gua:wa.get ub=_:=(xa.2 _ Ya).trans gu
   simp +decide only [go_sem,WR,WS,hsz,e4,e5,e6,e7,e8,e9,e11,e12,e13,e14]
   refine Zaa Kok (by have:=xa.1;omega) (ZaI us wa (Sl.made (by have:=xa.1;omega) gua YK YC) hus Ya) fun r wb xb hr2=> ?_
   obtain ⟨a2,c2,rfl,t2⟩:=hr2.open
   simp +decide only [go_sem,WR,WS,hsz,e4,e5,e6,e7,e8,e9,e11,e12,e13,e14]
   have hlu:(dig (val us)).length≤549755813887:=by
    have h9:=Zaz.2 (ZdR hus)
    omega
   refine Zaa Kok (by have:=xa.1;have:=xb.1;omega) (ZpY (val us) s wb hr2 hs32 hlu) fun r wc xc hr3=> ?_
   rw [huv,Nat.mul_div_cancel _ (Nat.two_pow_pos s)] at hr3
   obtain ⟨a3,c3,rfl,t3⟩:=hr3.open
   have hsc:w.size≤wc.size:=Nat.le_trans xa.1 (Nat.le_trans xb.1 xc.1)
   have xwc:Ext w wc:=(xa.trans xb).trans xc
   have g2:wc.get (h.size+2)= .cells [.slice none 0 0] 1:=(xwc.2 _ Ya).trans ((hxw.2 _ Ya).trans v2)
   have g3:wc.get (h.size+3)= .cells [.slice none 0 0] 1:=(xwc.2 _ Ya).trans ((hxw.2 _ Ya).trans v3)
   obtain ⟨wd,ed,xd,hsd,gd,kd⟩:=put1 (hxh.trans xwc) (show h.size≤h.size+2 by omega) (.cells [.slice a1 (dig (x / y)).length c1] 1)
   have g3':wd.get (h.size+3)= .cells [.slice none 0 0] 1:=(kd _ Ya).trans g3
   obtain ⟨we,ee,xe,hse,ge,ke⟩:=put1 xd (show h.size≤h.size+3 by omega) (.cells [.slice a3 (dig (x%y)).length c3] 1)
   have gd':we.get (h.size+2)=_:=(ke _ Ya).trans gd
   have j2:h.size≤h.size+2:=Ya
   have j3:h.size≤h.size+3:=Ya
   simp +decide only [go_sem,WR,WS,hsz,e4,e5,e6,e7,e8,e9,e11,e12,e13,e14,g2,j2,ed,g3',j3,ee,gd',ge]
   have n1:NatV wc (.agg #[.slice a1 (dig (x / y)).length c1]) (x / y):=hr1.ext (xb.trans xc)
   exact ⟨_,_,rfl,(n1.over g2 Yn Yn hsd gd kd).over g3' Yn Yn hse ge ke,(hr3.over g2 Yn Yn hsd gd kd).over g3' Yn Yn hse ge ke⟩
  obtain ⟨j,rfl⟩:∃ j,k=j+1:=⟨k - 1,by omega⟩
  have i0:((j+1:Nat):Int) - 1=(j:Int):=Ya
  rw [i0] at e14 hk0
  obtain ⟨u2,hu2⟩:∃ u2,us[j+(k0+2)]? =some u2:=⟨_,List.getElem?_eq_getElem Ya⟩
  obtain ⟨u1,hu1⟩:∃ u1,us[j+(k0+1)]? =some u1:=⟨_,List.getElem?_eq_getElem Ya⟩
  obtain ⟨u0,hu0⟩:∃ u0,us[j+k0]? =some u0:=⟨_,List.getElem?_eq_getElem Ya⟩
  have hu2B:=hus.get hu2
  have hu1B:=hus.get hu1
  have hu0B:=hus.get hu0
  rw [B_eq] at hu2B hu1B hu0B
  obtain ⟨seg,hseg⟩:∃ seg,seg=(us.drop j).take (k0+3):=⟨_,rfl⟩
  have hsegl:seg.length=k0+3:=by rw [hseg];simp;omega
  have hsegs:Small seg:=by rw [hseg];exact (hus.drop _).take _
  have hsplit:us=us.take j++seg++us.drop (j+(k0+3)):=by
   rw [hseg,List.append_assoc,← List.drop_drop,List.take_append_drop,List.take_append_drop]
  have hpl:(us.take j).length=j:=Yl
  have hsg:∀ i,i < k0+3→seg[i]? =us[j+i]? :=by
   intro i hi
   rw [hseg,List.getElem?_take,if_pos hi,List.getElem?_drop]
  have hVv:val (dig (y*2 ^ s))=y*2 ^ s:=ZaL _
  have hpost:val (us.drop (j+(k0+3)))=0∧val seg < y*2 ^ s*B:=by
   have h1:val (us.drop j) < y*2 ^ s*B:=by
    apply below Ya
    rw [Nat.mul_assoc,← Nat.pow_succ']
    exact hlt
   have h2:val (us.drop j)=val seg+B ^ (k0+3)*val (us.drop (j+(k0+3))):=by
    have h3:=val_append seg (us.drop (j+(k0+3)))
    rw [hsegl] at h3
    rw [← h3,hseg,← List.drop_drop,List.take_append_drop]
   have h4:y*2 ^ s*B < B ^ (k0+3):=by
    rw [Nat.pow_succ]
    exact Nat.mul_lt_mul_of_pos_right hVlt ZdP
   have h5:val (us.drop (j+(k0+3)))=0:=by
    by_cases h6:val (us.drop (j+(k0+3)))=0
    ·exact h6
    ·exfalso
     have:B ^ (k0+3)*1≤B ^ (k0+3)*val (us.drop (j+(k0+3))):=Nat.mul_le_mul_left _ Ya
     omega
   exact ⟨h5,by rw [h5] at h2;omega⟩
  obtain ⟨hpost0,hU⟩:=hpost
  obtain ⟨D,hut⟩:=ZuV (k:=k0) hsegl hV2 hsegs (Zap _) ((hsg k0 Ya).trans hu0) ((hsg (k0+1) Ya).trans hu1) ((hsg (k0+2) Ya).trans hu2) hnext htop (by rw [hVv];exact hVbig) (by rw [hVv];exact hU)
  rw [hVv] at D
  have hUv:val us=val (us.take j)+B ^ j*val seg:=by
   have h1:=ZfB us j Ya
   have h2:=val_append seg (us.drop (j+(k0+3)))
   rw [hpost0,Nat.mul_zero,Nat.add_zero,hseg,← List.drop_drop,List.take_append_drop,← hseg] at h2
   rw [h1,h2,Nat.add_zero]
  have step:∀ sX:List Nat,sX.length=k0+3→Small sX→val sX=val seg%(y*2 ^ s)→(us.take j++sX++us.drop (j+(k0+3))).length=(dig x).length+1∧Small (us.take j++sX++us.drop (j+(k0+3))) ∧
    val (us.take j++sX++us.drop (j+(k0+3))) < y*2 ^ s*B ^ j∧x*2 ^ s=B ^ j*val ((qs.set j (val seg / (y*2 ^ s))).drop j)*(y*2 ^ s)+val (us.take j++sX++us.drop (j+(k0+3))):=by
   intro sX h1 h2 h3
   have h4:val (us.take j++sX++us.drop (j+(k0+3)))=val (us.take j)+B ^ j*(val seg%(y*2 ^ s)):=by
    rw [List.append_assoc,val_append,val_append,hpost0,Nat.mul_zero,Nat.add_zero,hpl,h3]
   have h5:=ZdR (hus.take j)
   rw [hpl] at h5
   refine ⟨by simp;omega,((hus.take _).append h2).append (hus.drop _),?_,?_⟩
   ·rw [h4]
    have h6:B ^ j*(val seg%(y*2 ^ s)+1)≤B ^ j*(y*2 ^ s):=Nat.mul_le_mul_left _ (Nat.mod_lt _ hV0)
    rw [Nat.mul_add,Nat.mul_one,Nat.mul_comm (B ^ j) (y*2 ^ s)] at h6
    omega
   ·rw [h4,N4.set_drop Ya,ZaE,heq,hUv,Nat.pow_succ]
    have h7:=Nat.div_add_mod (val seg) (y*2 ^ s)
    generalize val seg / (y*2 ^ s)=qq at *
    generalize val seg%(y*2 ^ s)=rr at *
    generalize val (qs.drop (j+1))=Q at *
    generalize B ^ j=bj at *
    generalize y*2 ^ s=V at *
    grind
  have i1:IntKind.i64.wrap ((j:Int)+((k0+2:Nat):Int))=((j+(k0+2):Nat):Int):=iadd Ya
  have i2:(0:Int)≤((j+(k0+2):Nat):Int):=Ya
  have i3:((j+(k0+2):Nat):Int) < (((dig x).length+1:Nat):Int):=Ya
  have i4:IntKind.i64.wrap (((j+(k0+2):Nat):Int) - 1)=((j+(k0+1):Nat):Int):=by rw [Zsv Ya Ya];rfl
  have i5:(0:Int)≤((j+(k0+1):Nat):Int):=Ya
  have i6:((j+(k0+1):Nat):Int) < (((dig x).length+1:Nat):Int):=Ya
  have i7:IntKind.i64.wrap (((j+(k0+2):Nat):Int) - 2)=((j+k0:Nat):Int):=by rw [Zsu Ya Ya];rfl
  have i8:(0:Int)≤((j+k0:Nat):Int):=Ya
  have i9:((j+k0:Nat):Int) < (((dig x).length+1:Nat):Int):=Ya
  have l2:(lv us)[j+(k0+2)]? =some (.int .u32 (u2:Int)):=Za0 hu2
  have l1:(lv us)[j+(k0+1)]? =some (.int .u32 (u1:Int)):=Za0 hu1
  have l0:(lv us)[j+k0]? =some (.int .u32 (u0:Int)):=Za0 hu0
  obtain ⟨head,hhead⟩:∃ head,head=u2*B+u1:=⟨_,rfl⟩
  have c1:u2*4294967296%18446744073709551616=u2*4294967296:=Nat.mod_eq_of_lt Ya
  have c2:(u2*4294967296 ||| u1)=head:=by rw [Zh8 hu1B,hhead,B_eq]
  have hheadlt:head < 18446744073709551616:=by rw [hhead,B_eq];omega
  have htop0:0 < top:=by have:=D.t1;omega
  have htopne:((top:Nat):Int)≠0:=Ya
  have d1:((head:Nat):Int).tdiv (top:Int)=((head / top:Nat):Int):=(Int.ofNat_tdiv _ _).symm
  have d2:((head:Nat):Int).tmod (top:Int)=((head%top:Nat):Int):=(Int.ofNat_tmod _ _).symm
  have d3:IntKind.u64.wrap ((head / top:Nat):Int)=((head / top:Nat):Int):=w64 (Nat.lt_of_le_of_lt (Nat.div_le_self _ _) hheadlt)
  rw [← hhead] at D
  simp +decide only [go_sem,WR,WS,hsz,e4,e5,e6,e7,e8,e9,e11,e12,e13,e14,hk0,i1,i2,i3,i4,i5,i6,Nat.mul_one,Nat.zero_add,Int.toNat_natCast,gu,l2,l1,w64 (show u2 < 18446744073709551616 by omega),w64 (show u1 < 18446744073709551616 by omega),Zf4,c1,Zjo (show u2*4294967296 < 18446744073709551616 by omega) (show u1 < 18446744073709551616 by omega),c2,Zct htopne,ZbD htopne,d1,d2,d3]
  apply Za1 (α:=Nat) (fun g e w'=>e.size=152∧e.get 4= .pointer (some ⟨h.size+2,0,none⟩)∧e.get 5= .pointer (some ⟨h.size+3,0,none⟩)∧e.get 6= .int .i64 (s:Int)∧e.get 7= .slice va (k0+2) cv∧e.get 8= .slice (some ⟨ub,0,none⟩) ((dig x).length+1) ((dig x).length+1)∧e.get 9= .int .i64 ((k0+2:Nat):Int)∧e.get 11= .slice (some ⟨qb,0,none⟩) (m+1) (m+1)∧e.get 12= .int .u64 (top:Int)∧e.get 13= .int .u64 (next:Int)∧e.get 14= .int .i64 (j:Int)∧e.get 16= .int .u64 (g:Int)∧w'=w∧val seg / (y*2 ^ s)≤g∧g≤val seg / (y*2 ^ s)+1∧g≤B)
  ·intro cont
   refine Zah (α:=Nat × Nat) (fun g e w'=>e.size=152∧e.get 4= .pointer (some ⟨h.size+2,0,none⟩)∧e.get 5= .pointer (some ⟨h.size+3,0,none⟩)∧e.get 6= .int .i64 (s:Int)∧e.get 7= .slice va (k0+2) cv∧e.get 8= .slice (some ⟨ub,0,none⟩) ((dig x).length+1) ((dig x).length+1)∧e.get 9= .int .i64 ((k0+2:Nat):Int)∧e.get 11= .slice (some ⟨qb,0,none⟩) (m+1) (m+1)∧e.get 12= .int .u64 (top:Int)∧e.get 13= .int .u64 (next:Int)∧e.get 14= .int .i64 (j:Int)∧e.get 16= .int .u64 (g.1:Int)∧e.get 17= .int .u64 (g.2:Int)∧w'=w∧val seg / (y*2 ^ s)≤g.1∧g.1≤B+1∧g.1*top+g.2=head∧g.2 < B) (fun g=>g.1) (head / top,head%top) ?_ ?_
   ·refine ⟨Yb,Yg,Yo,Ym,Yi,Yu,Yr,YD,Yy,Yw,YE,Yb,Yb,rfl,D.start,D.first,?_,?_⟩
    ·simp only
     rw [Nat.mul_comm]
     exact Nat.div_add_mod head top
    ·simp only
     have:=Nat.mod_lt head htop0
     rw [B_eq]
     omega
   ·rintro ⟨g,r⟩ e w' ⟨hsz,e4,e5,e6,e7,e8,e9,e11,e12,e13,e14,e16,e17,rfl,hg1,hg2,hgr,hr⟩ loop2
    simp only at e16 e17 hg1 hg2 hgr hr
    have hrB:r < 4294967296:=by rw [B_eq] at hr;exact hr
    have hgB:g≤4294967297:=by rw [B_eq] at hg2;exact hg2
    have less:val seg / (y*2 ^ s) < g→1≤g∧val seg / (y*2 ^ s)≤g - 1∧(g - 1)*top+(r+top)=head:=by
     intro hlt
     have hg0:0 < g:=Nat.lt_of_le_of_lt (Nat.zero_le _) hlt
     refine ⟨hg0,Nat.le_sub_one_of_lt hlt,?_⟩
     clear hlt
     obtain ⟨g',rfl⟩:∃ g',g=g'+1:=⟨g - 1,by omega⟩
     rw [Nat.add_sub_cancel,← hgr]
     grind
    have s1:∀ (hp:1≤g),IntKind.u64.wrap ((g:Int) - 1)=((g - 1:Nat):Int):=fun hp=>Zr1 hp Ya
    have s2:IntKind.u64.wrap ((r:Int)+(top:Int))=((r+top:Nat):Int):=wadd Ya
    have brk:4294967296≤r+top→1≤g→(g - 1)*top+(r+top)=head→g - 1≤val seg / (y*2 ^ s)+1:=by
     intro hb hp he
     refine D.near he ?_ YL
     have h1:(g - 1)*next≤4294967296*4294967295:=Nat.mul_le_mul Ya Ya
     have h2:4294967296*4294967296≤(r+top)*4294967296:=Nat.mul_le_mul_right _ hb
     rw [B_eq]
     omega
    have tail:1≤g→val seg / (y*2 ^ s)≤g - 1→(g - 1)*top+(r+top)=head→g - 1 < g:=fun h1 _ _=>by omega
    by_cases hgB2:(4294967296:Int)≤(g:Int)
    ·obtain ⟨f1,f2,f3⟩:=less (Nat.lt_of_lt_of_le D.q_lt YL)
     by_cases hb:(4294967296:Int)≤((r+top:Nat):Int)
     ·simp +decide only [go_sem,WR,hsz,e4,e5,e6,e7,e8,e9,e11,e12,e13,e14,e16,e17,hgB2,s1 f1,s2,hb]
      exact WS.2 (cont (g - 1) _ _ ⟨Yb,Yg,Yo,Ym,Yi,Yu,Yr,YD,Yy,Yw,YE,Yb,rfl,f2,brk Ya f1 f3,by rw [B_eq];omega⟩)
     ·simp +decide only [go_sem,WR,hsz,e4,e5,e6,e7,e8,e9,e11,e12,e13,e14,e16,e17,hgB2,s1 f1,s2,hb]
      exact loop2 (g - 1,r+top) _ _ ⟨Yb,Yg,Yo,Ym,Yi,Yu,Yr,YD,Yy,Yw,YE,Yb,Yb,rfl,f2,by simp only;rw [B_eq];omega,f3,by simp only;rw [B_eq];omega⟩ Yj
    ·have hgn:g*next < 18446744073709551616:=by
      have:g*next≤4294967295*4294967295:=Nat.mul_le_mul Ya Ya
      omega
     have b1:r*4294967296%18446744073709551616=r*4294967296:=Nat.mod_eq_of_lt Ya
     have b2:(r*4294967296 ||| u0)=r*B+u0:=by rw [Zh8 hu0B,B_eq]
     by_cases hcmp:((r*B+u0:Nat):Int) < ((g*next:Nat):Int)
     ·obtain ⟨f1,f2,f3⟩:=less (D.more hgr Ya)
      by_cases hb:(4294967296:Int)≤((r+top:Nat):Int)
      ·simp +decide only [go_sem,WR,hsz,e4,e5,e6,e7,e8,e9,e11,e12,e13,e14,e16,e17,hgB2,i1,i7,i8,i9,gu,l0,Nat.mul_one,Nat.zero_add,Int.toNat_natCast,wmul hgn,Zf4,b1,w64 (show u0 < 18446744073709551616 by omega),Zjo (show r*4294967296 < 18446744073709551616 by omega) (show u0 < 18446744073709551616 by omega),b2,hcmp,s1 f1,s2,hb]
       exact WS.2 (cont (g - 1) _ _ ⟨Yb,Yg,Yo,Ym,Yi,Yu,Yr,YD,Yy,Yw,YE,Yb,rfl,f2,brk Ya f1 f3,by rw [B_eq];omega⟩)
      ·simp +decide only [go_sem,WR,hsz,e4,e5,e6,e7,e8,e9,e11,e12,e13,e14,e16,e17,hgB2,i1,i7,i8,i9,gu,l0,Nat.mul_one,Nat.zero_add,Int.toNat_natCast,wmul hgn,Zf4,b1,w64 (show u0 < 18446744073709551616 by omega),Zjo (show r*4294967296 < 18446744073709551616 by omega) (show u0 < 18446744073709551616 by omega),b2,hcmp,s1 f1,s2,hb]
       exact loop2 (g - 1,r+top) _ _ ⟨Yb,Yg,Yo,Ym,Yi,Yu,Yr,YD,Yy,Yw,YE,Yb,Yb,rfl,f2,by simp only;rw [B_eq];omega,f3,by simp only;rw [B_eq];omega⟩ Yj
     ·simp +decide only [go_sem,WR,hsz,e4,e5,e6,e7,e8,e9,e11,e12,e13,e14,e16,e17,hgB2,i1,i7,i8,i9,gu,l0,Nat.mul_one,Nat.zero_add,Int.toNat_natCast,wmul hgn,Zf4,b1,w64 (show u0 < 18446744073709551616 by omega),Zjo (show r*4294967296 < 18446744073709551616 by omega) (show u0 < 18446744073709551616 by omega),b2,hcmp]
      exact WS.2 (cont g _ _ ⟨Yb,Yg,Yo,Ym,Yi,Yu,Yr,YD,Yy,Yw,YE,by simp +decide only [go_sem,hsz,e16],rfl,hg1,D.near hgr Ya YL,by rw [B_eq];omega⟩)
  ·rintro g e w' ⟨hsz,e4,e5,e6,e7,e8,e9,e11,e12,e13,e14,e16,rfl,hg1,hg2,hg3⟩
   have i10:IntKind.i64.wrap (((j+(k0+2):Nat):Int)+1)=((j+(k0+2)+1:Nat):Int):=ZqQ Ya
   have i11:IntKind.i64.wrap ((j:Int) - 1)=(j:Int) - 1:=wrap_i64 Ya Ya
   have hcut:∀ w9 cs,w9.get ub= .cells cs 1→irsl (some (.slice 1)) w9 (some ⟨ub,0,none⟩) ((dig x).length+1) ((dig x).length+1) (some (.int .i64 (j:Int))) (some (.int .i64 ((j+(k0+2)+1:Nat):Int))) none=some (.slice (some ⟨ub,j,none⟩) (k0+2+1) ((dig x).length+1 - j)):=by
    intro w9 cs hg
    have:=Zon (N:=(dig x).length+1) (l:=j) (u:=j+(k0+2)+1) hg Ya Ya Ya YC
    rw [show j+(k0+2)+1 - j=k0+2+1 by omega] at this
    exact this
   have hcut1:=hcut w' _ gu
   have svx:∀ w9,Ext w2 w9→SlX ub w9 1 va (k0+2) cv (lv (dig (y*2 ^ s))):=fun w9 h9 w'' hb=>sv.ext ⟨Nat.le_trans h9.1 hb.1,fun q hq=>(hb.2 q (by have:=h9.1;omega) Ya).trans (h9.2 q hq)⟩
   have gub:w'.get ub= .cells (lv (us.take j++seg++us.drop (j+(k0+3)))) 1:=by rw [← hsplit];exact gu
   have hg4:g≤4294967296:=by rw [B_eq] at hg3;exact hg3
   have hun:=Zci (us.take j) seg (us.drop (j+(k0+3))) (dig (y*2 ^ s)) g ub (k0+2) ((dig x).length+1 - j) w' (low:=h.size) Ya hlo gub hsegl hsegs hV2 (Zap _) (svx w' hxw) hg4 Ya Ya
   rw [hpl] at hun
   simp +decide only [go_sem,WR,WS,hsz,e4,e5,e6,e7,e8,e9,e11,e12,e13,e14,e16,i1,i10,hcut1]
   refine ZaW Yn hun ?_
   rintro r w7 ⟨seg',bw,rfl,hbw,hl',hs',hbut,gu7,hval⟩
   rw [hVv] at hval
   have hN:=ZdR hs'
   rw [hl'] at hN
   obtain ⟨st0,st1⟩:=N7.settle hV0 hval hN hbw hg1 hg2
   have hVN:y*2 ^ s≤B ^ (k0+2+1):=by
    have h1:B ^ (k0+2)≤B ^ (k0+2+1):=Nat.pow_le_pow_right ZdP Ya
    exact Nat.le_of_lt (Nat.lt_of_lt_of_le hVlt h1)
   have x7:Ext w2 w7:=⟨Nat.le_trans hxw.1 hbut.1,fun q hq=>(hbut.2 q (by have:=hxw.1;omega) Ya).trans (hxw.2 q hq)⟩
   have hws7:w6.size≤w7.size:=Nat.le_trans hws hbut.1
   have gq7:w7.get qb= .cells (lv qs) 1:=(hbut.2 _ Ya hqub).trans gq
   have hqB:val seg / (y*2 ^ s) < 4294967296:=by have:=D.q_lt;rw [B_eq] at this;exact this
   have hqm:val seg / (y*2 ^ s)%4294967296=val seg / (y*2 ^ s):=Nat.mod_eq_of_lt hqB
   have hjm:(j:Int) < ((m+1:Nat):Int):=Ya
   have hk1:j+1≤(lv qs).length:=YK
   have hput:=ZbK (l:=qs) (k:=j) Ya (val seg / (y*2 ^ s))
   have fin:∀ w8,Ext w2 w8→w6.size≤w8.size→∃ w9,w8.set qb (.cells (lv (qs.set j (val seg / (y*2 ^ s)))) 1)=w9∧Ext w2 w9∧w6.size≤w9.size∧w9.get qb= .cells (lv (qs.set j (val seg / (y*2 ^ s)))) 1∧w9.get ub=w8.get ub:=by
    intro w8 h8 h9
    obtain ⟨w9,ee,x9,hs9,g9,k9⟩:=put1 h8 (show w2.size≤qb by omega) (.cells (lv (qs.set j (val seg / (y*2 ^ s)))) 1)
    exact ⟨w9,ee,x9,by omega,g9,k9 _ Ya⟩
   by_cases hb1:bw=1
   ·subst hb1
    obtain ⟨hgq,hback⟩:=st1 rfl
    have hcut2:=hcut w7 _ gu7
    have hgp:1≤g:=by rw [hgq];exact Nat.le_add_left _ _
    have hg1':g - 1=val seg / (y*2 ^ s):=by rw [hgq];rfl
    have s1:IntKind.u64.wrap ((g:Int) - 1)=((val seg / (y*2 ^ s):Nat):Int):=by rw [← hg1'];exact Zr1 hgp Ya
    have hbk:=Zes (us.take j) seg' (us.drop (j+(k0+3))) (dig (y*2 ^ s)) ub (k0+2) ((dig x).length+1 - j) w7 (low:=h.size) Ya hlo gu7 hl' hs' hV2 (Zap _) (svx w7 x7) Ya Ya
    rw [hpl] at hbk
    simp +decide only [go_sem,WR,WS,hsz,e4,e5,e6,e7,e8,e9,e11,e12,e13,e14,e16,s1,i1,i10,hcut2]
    refine ZaW Yn hbk ?_
    rintro r w8 ⟨seg2,cc,hl2,hs2',hbut2,gu8,hval2⟩
    rw [hVv] at hval2
    have hN2:=ZdR hs2'
    rw [hl2] at hN2
    have hsX:=hback (val seg2) cc hN2 hVN hval2
    have x8:Ext w2 w8:=⟨Nat.le_trans x7.1 hbut2.1,fun q hq=>(hbut2.2 q (by have:=x7.1;omega) Ya).trans (x7.2 q hq)⟩
    have hws8:w6.size≤w8.size:=Nat.le_trans hws7 hbut2.1
    have gq8:w8.get qb= .cells (lv qs) 1:=(hbut2.2 _ Ya hqub).trans gq7
    obtain ⟨w9,ee,x9,hws9,gq9,gu9⟩:=fin w8 x8 hws8
    obtain ⟨t1,t2,t3,t4⟩:=step seg2 hl2 hs2' hsX
    simp +decide only [go_sem,WR,WS,hsz,e4,e5,e6,e7,e8,e9,e11,e12,e13,e14,e16,w32,hqm,hk0,hjm,gq8,Nat.mul_one,Nat.zero_add,Int.toNat_natCast,List.length_cons,List.length_nil,hloq,hk1,hput,ee,i11]
    exact again (j,us.take j++seg2++us.drop (j+(k0+3)),qs.set j (val seg / (y*2 ^ s))) _ _ ⟨Yb,Yg,Yo,Ym,Yi,Yu,Yr,YD,Yy,Yw,Yb,by simp only;omega,x9,hws9,gu9.trans gu8,gq9,t1,t2,by simp [hql],hqs.set (by rw [B_eq];exact hqB) _,t3,t4⟩ Yj
   ·have hb0:bw=0:=by omega
    obtain ⟨hgq,hsX⟩:=st0 hb0
    subst hgq
    obtain ⟨w9,ee,x9,hws9,gq9,gu9⟩:=fin w7 x7 hws7
    obtain ⟨t1,t2,t3,t4⟩:=step seg' hl' hs' hsX
    simp +decide only [go_sem,WR,WS,hsz,e4,e5,e6,e7,e8,e9,e11,e12,e13,e14,e16,hb1,w32,hqm,hk0,hjm,gq7,Nat.mul_one,Nat.zero_add,Int.toNat_natCast,List.length_cons,List.length_nil,hloq,hk1,hput,ee,i11]
    exact again (j,us.take j++seg'++us.drop (j+(k0+3)),qs.set j (val seg / (y*2 ^ s))) _ _ ⟨Yb,Yg,Yo,Ym,Yi,Yu,Yr,YD,Yy,Yw,Yb,by simp only;omega,x9,hws9,gu9.trans gu7,gq9,t1,t2,by simp [hql],hqs.set (by rw [B_eq];exact hqB) _,t3,t4⟩ Yj
end Go.Proofs.YtachkofbmodnnaaGreat.N9
namespace Go.Proofs.YtachkofbmodnnaaGreat.N10
open Go Go.Im Go.Im.Limbs Go.Proofs Go.RowKit Hd N1 N2 N3 N4 N5 N9
set_option maxRecDepth 100000
theorem NatV.zero (h:Heap):NatV h (.agg #[.slice none 0 0]) 0:=⟨none,0,0,rfl,by rw [ZaU];exact Sl.nil _ _⟩
theorem Zen {m n:Nat} (h:m≤n):(dig m).length≤(dig n).length:=Zaz.2 (Nat.lt_of_le_of_lt h (Zku n))
theorem Zbp (x y:Nat) (h:Heap) {v u:Value} (hv:NatV h v x) (hu:NatV h u y) (hl:(dig x).length≤549755813) :
  Runs K 176 #[v,u] h fun r w=>∃ q t,r= .tuple #[q,t,.bool (decide (y≠0))]∧NatV w q (if y=0 then 0 else x / y)∧NatV w t (if y=0 then 0 else x%y):=by
 obtain ⟨a,c,rfl,sa⟩:=hv.open
 obtain ⟨b,d,rfl,sb⟩:=hu.open
 refine Runs.of Kok (Does.intro rfl Ye Tryz.func176 rfl ?_)
 obtain ⟨w0,e0,hx0,hs0,z0,z1,z2,z3⟩:=lay4 h (.cells [.slice a (dig x).length c] 1) (.cells [.slice b (dig y).length d] 1) (.cells [.slice none 0 0] 1) (.cells [.slice none 0 0] 1)
 have j2:h.size≤h.size+2:=Ya
 have j3:h.size≤h.size+3:=Ya
 have fin:∀ (w:Heap) (p q:Value) (X Y:Nat),Ext h w→w.get (h.size+2)= .cells [.slice none 0 0] 1→w.get (h.size+3)= .cells [.slice none 0 0] 1→NatV w (.agg #[p]) X→NatV w (.agg #[q]) Y →
   ∃ wd we,w.set (h.size+2) (.cells [p] 1)=wd∧wd.get (h.size+3)= .cells [.slice none 0 0] 1∧wd.set (h.size+3) (.cells [q] 1)=we∧we.get (h.size+2)= .cells [p] 1∧we.get (h.size+3)= .cells [q] 1∧NatV we (.agg #[p]) X∧NatV we (.agg #[q]) Y:=by
  intro w p q X Y hx g2 g3 n1 n2
  obtain ⟨wd,ed,xd,hsd,gd,kd⟩:=put1 hx j2 (.cells [p] 1)
  have g3':wd.get (h.size+3)= .cells [.slice none 0 0] 1:=(kd _ Ya).trans g3
  obtain ⟨we,ee,xe,hse,ge,ke⟩:=put1 xd j3 (.cells [q] 1)
  exact ⟨wd,we,ed,g3',ee,(ke _ Ya).trans gd,ge,(n1.over g2 Yn Yn hsd gd kd).over g3' Yn Yn hse ge ke,(n2.over g2 Yn Yn hsd gd kd).over g3' Yn Yn hse ge ke⟩
 by_cases h0:(((dig y).length:Nat):Int)=0
 ·have hy0:y=0:=ZdL.1 (List.length_eq_zero_iff.1 Ya)
  obtain ⟨wd,we,ed,g3',ee,ge2,ge3,n1,n2⟩:=fin w0 _ _ 0 0 hx0 z2 z3 (NatV.zero _) (NatV.zero _)
  simp +decide only [go_sem,WR,WS,e0,z1,h0,z2,z3,j2,j3,ed,g3',ee,ge2,ge3]
  refine ⟨.agg #[.slice none 0 0],.agg #[.slice none 0 0],by simp [hy0],?_,?_⟩
  ·simpa [hy0] using n1
  ·simpa [hy0] using n2
 have hy0:y≠0:=by
  rintro rfl
  rw [ZaU] at h0
  exact h0 rfl
 simp only [if_neg hy0]
 simp +decide only [go_sem,WR,WS,e0,z0,z1,h0]
 have hv0:=hv.ext hx0
 have hu0:=hu.ext hx0
 refine Zaa Kok Ya (ZeU x y w0 hv0 hu0 Ya) fun r w1 x1 hr=> ?_
 subst hr
 have hx1:=hx0.trans x1
 have y0:w1.get h.size=_:=(x1.2 _ Ya).trans z0
 have y1:w1.get (h.size+1)=_:=(x1.2 _ Ya).trans z1
 have y2:w1.get (h.size+2)=_:=(x1.2 _ Ya).trans z2
 have y3:w1.get (h.size+3)=_:=(x1.2 _ Ya).trans z3
 have hs1:h.size+4≤w1.size:=by have:=x1.1;omega
 by_cases hlt:x < y
 ·obtain ⟨wd,we,ed,g3',ee,ge2,ge3,n1,n2⟩:=fin w1 _ _ 0 x hx1 y2 y3 (NatV.zero _) (hv.ext hx1)
  have b1:h.size < w1.size:=Ya
  simp +decide only [go_sem,WR,WS,hlt,y0,y2,y3,j2,j3,ed,g3',ee,ge2,ge3]
  refine ZiV ?_ ?_
  ·simp +decide only [go_sem,WR,WS,b1]
   simp
   omega
  simp +decide only [go_sem,WR,WS,ge2,ge3]
  refine ⟨.agg #[.slice none 0 0],.agg #[.slice a (dig x).length c],by simp [hy0],?_,?_⟩
  ·rw [Nat.div_eq_of_lt hlt]
   exact n1
  ·rw [Nat.mod_eq_of_lt hlt]
   exact n2
 have hcmp:¬ ((if x < y then (-1:Int) else if x=y then 0 else 1) < 0):=by
  rw [if_neg hlt]
  split<;>omega
 have hlen:(dig y).length≤(dig x).length:=Zen Ya
 by_cases h1:(((dig y).length:Nat):Int)=1
 ·obtain ⟨e,he⟩:∃ e,dig y=[e]:=List.length_eq_one_iff.1 Ya
  have hye:y=e:=by rw [← ZaL y,he];simp [ZaE,ZaQ]
  subst hye
  have hyB:y < 4294967296:=Zap y y (by rw [he];simp)
  obtain ⟨b1,o1,cs1,rfl,hb1,hg1,hc1⟩:=(sb.ext hx1).one (i:=0) (x:= .int .u32 (y:Int)) (by rw [he];rfl)
  rw [Nat.add_zero] at hc1
  simp +decide only [go_sem,WR,WS,hcmp,y0,y1,h1,Nat.mul_one,Nat.add_zero,hg1,hc1]
  refine Zaa Kok Ya (ZlK x y w1 (hv.ext hx1) Ya hyB Ya) fun r w2 x2 hr=> ?_
  obtain ⟨q,rfl,hq⟩:=hr
  obtain ⟨aq,cq,rfl,sq⟩:=hq.open
  obtain ⟨w3,e3,x3,hs3,g3⟩:=lay1 w2 (.cells [.slice none 0 0] 1)
  have x23:=x2.trans x3
  have hx3:=hx1.trans x23
  have hm:x%y < 18446744073709551616:=by have:=Nat.mod_lt x (show y > 0 by omega);omega
  obtain ⟨w4,e4,x4,hs4,g4,k4⟩:=put1 (Ext.refl h |>.trans hx3) (show h.size≤w2.size by have:=(hx1.trans x2).1;exact this) (.cells [.slice aq (dig (x / y)).length cq] 1)
  have q4:NatV w4 (.agg #[.slice aq (dig (x / y)).length cq]) (x / y):=(hq.ext x3).over g3 Yn Yn hs4 g4 k4
  have hsz2:h.size≤w2.size:=(hx1.trans x2).1
  simp +decide only [go_sem,WR,WS,e3,g3,hsz2,e4,g4,w64 hm]
  refine Zaa Kok (by have:=x2.1;omega) (of_run (x%y) w4 hm) fun r w5 x5 hr=> ?_
  obtain ⟨a5,c5,rfl,s5⟩:=hr.open
  have hne2:h.size+2≠w2.size:=by have:=x2.1;omega
  have hne3:h.size+3≠w2.size:=by have:=x2.1;omega
  have hsz3:w1.size≤w3.size:=x23.1
  have t2:w5.get (h.size+2)= .cells [.slice none 0 0] 1:=(x5.2 _ Ya).trans ((k4 _ hne2).trans ((x23.2 _ Ya).trans y2))
  have t3:w5.get (h.size+3)= .cells [.slice none 0 0] 1:=(x5.2 _ Ya).trans ((k4 _ hne3).trans ((x23.2 _ Ya).trans y3))
  obtain ⟨wd,we,ed,g3',ee,ge2,ge3,n1,n2⟩:=fin w5 _ _ (x / y) (x%y) (x4.trans x5) t2 t3 (q4.ext x5) hr
  simp +decide only [go_sem,WR,WS,t2,t3,j2,j3,ed,g3',ee,ge2,ge3]
  exact ⟨_,_,by simp [hy0],n1,n2⟩
 ·obtain ⟨k0,hk0⟩:∃ k0,(dig y).length=k0+2:=⟨(dig y).length - 2,by omega⟩
  simp +decide only [go_sem,WR,WS,hcmp,y0,y1,h1]
  refine Zaa Kok Ya (Zoj x y k0 w1 (hv.ext hx1) (hu.ext hx1) hk0 hlen hl) fun r w2 x2 hr=> ?_
  obtain ⟨q,t,rfl,hq,ht⟩:=hr
  obtain ⟨aq,cq,rfl,sq⟩:=hq.open
  obtain ⟨at',ct,rfl,st⟩:=ht.open
  obtain ⟨w3,e3,x3,hs3,g3,g3'⟩:=lay2 w2 (.cells [.slice none 0 0] 1) (.cells [.slice none 0 0] 1)
  have hx2:=hx1.trans x2
  have hsz2:h.size≤w2.size:=hx2.1
  have hsz2':h.size≤w2.size+1:=Ya
  obtain ⟨w4,e4,x4,hs4,g4,k4⟩:=put1 (hx2.trans x3) hsz2 (.cells [.slice aq (dig (x / y)).length cq] 1)
  have g4':w4.get (w2.size+1)= .cells [.slice none 0 0] 1:=(k4 _ Ya).trans g3'
  obtain ⟨w5,e5,x5,hs5,g5,k5⟩:=put1 x4 hsz2' (.cells [.slice at' (dig (x%y)).length ct] 1)
  have g5':w5.get w2.size=_:=(k5 _ Ya).trans g4
  have q5:NatV w5 (.agg #[.slice aq (dig (x / y)).length cq]) (x / y):=(((hq.ext x3).over g3 Yn Yn hs4 g4 k4)).over g4' Yn Yn hs5 g5 k5
  have r5:NatV w5 (.agg #[.slice at' (dig (x%y)).length ct]) (x%y):=(((ht.ext x3).over g3 Yn Yn hs4 g4 k4)).over g4' Yn Yn hs5 g5 k5
  have hb:h.size+4≤w2.size:=by have:=x2.1;omega
  have t2:w5.get (h.size+2)= .cells [.slice none 0 0] 1:=(k5 _ Ya).trans ((k4 _ Ya).trans ((x3.2 _ Ya).trans ((x2.2 _ Ya).trans y2)))
  have t3:w5.get (h.size+3)= .cells [.slice none 0 0] 1:=(k5 _ Ya).trans ((k4 _ Ya).trans ((x3.2 _ Ya).trans ((x2.2 _ Ya).trans y3)))
  obtain ⟨wd,we,ed,g7,ee,ge2,ge3,n1,n2⟩:=fin w5 _ _ (x / y) (x%y) x5 t2 t3 q5 r5
  have b1:w2.size+1 < w5.size:=Ya
  have b2:¬ w2.size+1=h.size+2:=Ya
  simp +decide only [go_sem,WR,WS,e3,g3,hsz2,hsz2',e4,g4',e5,g5,g5',t2,t3,j2,j3,ed,g7,ee]
  refine ZiV ?_ ?_
  ·simp +decide only [go_sem,WR,WS,b1]
   simp
   omega
  simp +decide only [go_sem,WR,WS,ge2,ge3]
  exact ⟨_,_,by simp [hy0],n1,n2⟩
set_option maxHeartbeats 4000000 in
theorem Zjy (x y:Nat) (h:Heap) {v u:Value} (hv:NatV h v x) (hu:NatV h u y) (hl1:(dig x).length≤549755813) (hl2:(dig y).length≤549755813) :
  Runs K 174 #[v,u] h fun r w=>NatV w r (Nat.gcd x y):=by
 obtain ⟨a,c,rfl,sa⟩:=hv.open
 obtain ⟨b,d,rfl,sb⟩:=hu.open
 refine Runs.of Kok (Does.intro rfl Ye Tryz.func174 rfl ?_)
 obtain ⟨w0,e0,hx0,hs0,z0,z1,z2⟩:=lay3 h (.cells [.slice a (dig x).length c] 1) (.cells [.slice b (dig y).length d] 1) (.cells [.slice none 0 0] 1)
 have j2:h.size≤h.size+2:=Ya
 have j1:h.size≤h.size+1:=Ya
 have fin:∀ (w:Heap) (p:Value) (X:Nat),Ext h w→w.get (h.size+2)= .cells [.slice none 0 0] 1→NatV w (.agg #[p]) X→∃ wd,w.set (h.size+2) (.cells [p] 1)=wd∧wd.get (h.size+2)= .cells [p] 1∧NatV wd (.agg #[p]) X:=by
  intro w p X hx g2 n1
  obtain ⟨wd,ed,xd,hsd,gd,kd⟩:=put1 hx j2 (.cells [p] 1)
  exact ⟨wd,ed,gd,n1.over g2 Yn Yn hsd gd kd⟩
 simp +decide only [go_sem,WR,WS,e0]
 refine Zah (α:=(Nat × Option Addr × Nat) × (Nat × Option Addr × Nat)) (fun k e w=>e.size=47∧Ext h w∧h.size+3≤w.size∧w.get h.size= .cells [.slice k.1.2.1 (dig k.1.1).length k.1.2.2] 1∧w.get (h.size+1)= .cells [.slice k.2.2.1 (dig k.2.1).length k.2.2.2] 1∧w.get (h.size+2)= .cells [.slice none 0 0] 1 ∧
  NatV w (.agg #[.slice k.1.2.1 (dig k.1.1).length k.1.2.2]) k.1.1∧NatV w (.agg #[.slice k.2.2.1 (dig k.2.1).length k.2.2.2]) k.2.1∧e.get 2= .pointer (some ⟨h.size,0,none⟩)∧e.get 3= .pointer (some ⟨h.size+1,0,none⟩)∧e.get 4= .pointer (some ⟨h.size+2,0,none⟩) ∧
  (dig k.1.1).length≤549755813∧(dig k.2.1).length≤549755813∧Nat.gcd k.1.1 k.2.1=Nat.gcd x y) (fun k=>k.2.1) ((x,a,c),(y,b,d)) ?_ ?_
 ·exact ⟨Yc,hx0,by omega,z0,z1,z2,hv.ext hx0,hu.ext hx0,Yc,Yc,Yc,hl1,hl2,rfl⟩
 ·rintro ⟨⟨X,aX,cX⟩,⟨Y,aY,cY⟩⟩ e w ⟨hsz,hxw,hws,g0,g1,g2,nX,nY,e2,e3,e4,lX,lY,hg⟩ next
  simp only at g0 g1 nX nY lX lY hg
  simp +decide only [go_sem,WR,WS,hsz,e2,e3,e4,g1]
  refine Zaa Kok Ya (Zbq Y w nY) fun r w1 x1 hr=> ?_
  subst hr
  have y0:w1.get h.size=_:=(x1.2 _ Ya).trans g0
  have y1:w1.get (h.size+1)=_:=(x1.2 _ Ya).trans g1
  have y2:w1.get (h.size+2)=_:=(x1.2 _ Ya).trans g2
  have s1:h.size+3≤w1.size:=by have:=x1.1;omega
  by_cases hY:Y=0
  ·obtain ⟨wd,ed,gd,nd⟩:=fin w1 _ X (hxw.trans x1) y2 (nX.ext x1)
   simp +decide only [go_sem,WR,WS,hsz,e2,e3,e4,hY,y0,y2,j2,ed,gd]
   rw [← hg,hY,Nat.gcd_zero_right]
   exact nd
  simp +decide only [go_sem,WR,WS,hsz,e2,e3,e4,hY,y0]
  refine Zaa Kok Ya (Zfd X w1 (nX.ext x1)) fun r w2 x2 hr=> ?_
  have y0:w2.get h.size=_:=(x2.2 _ Ya).trans y0
  have y1:w2.get (h.size+1)=_:=(x2.2 _ Ya).trans y1
  have y2:w2.get (h.size+2)=_:=(x2.2 _ Ya).trans y2
  have s2:h.size+3≤w2.size:=by have:=x2.1;omega
  have x12:=x1.trans x2
  by_cases hb:X < 18446744073709551616∧Y < 18446744073709551616
  ·obtain ⟨hb1,hb2⟩:=hb
   rw [if_pos hb1] at hr
   subst hr
   simp +decide only [go_sem,WR,WS,hsz,e2,e3,e4,y1]
   refine Zaa Kok Ya (Zfd Y w2 (nY.ext x12)) fun r w3 x3 hr=> ?_
   rw [if_pos hb2] at hr
   subst hr
   have y2:w3.get (h.size+2)=_:=(x3.2 _ Ya).trans y2
   have s3:h.size+3≤w3.size:=by have:=x3.1;omega
   have x13:=x12.trans x3
   simp +decide only [go_sem,WR,WS,hsz,e2,e3,e4]
   refine Zah (α:=Nat × Nat) (fun k e w=>e.size=47∧w=w3∧e.get 4= .pointer (some ⟨h.size+2,0,none⟩)∧e.get 5= .int .u64 (k.1:Int)∧e.get 7= .int .u64 (k.2:Int)∧k.1 < 18446744073709551616∧k.2 < 18446744073709551616∧Nat.gcd k.1 k.2=Nat.gcd x y) (fun k=>k.2) (X,Y) ?_ ?_
   ·exact ⟨Yb,rfl,Yg,Yb,Yb,hb1,hb2,hg⟩
   ·rintro ⟨p,q⟩ e w' ⟨hsz,rfl,e4,e5,e7,hp,hq,hgg⟩ next2
    simp only at e5 e7 hp hq hgg
    by_cases hq0:(q:Int)=0
    ·have hq0':q=0:=by omega
     subst hq0'
     simp +decide only [go_sem,WR,WS,hsz,e4,e5,e7]
     refine Zaa Kok Ya (of_run p w' hp) fun r w4 x4 hr=> ?_
     obtain ⟨a4,c4,rfl,s4⟩:=hr.open
     have y2:w4.get (h.size+2)=_:=(x4.2 _ Ya).trans y2
     obtain ⟨wd,ed,gd,nd⟩:=fin w4 _ p (hxw.trans (x13.trans x4)) y2 hr
     simp +decide only [go_sem,WR,WS,hsz,e4,y2,j2,ed,gd]
     rw [← hgg,Nat.gcd_zero_right]
     exact nd
    ·have hqne:((q:Nat):Int)≠0:=hq0
     have d2:((p:Nat):Int).tmod (q:Int)=((p%q:Nat):Int):=(Int.ofNat_tmod _ _).symm
     have hlt:=Nat.mod_lt p (show q > 0 by omega)
     simp +decide only [go_sem,WR,WS,hsz,e4,e5,e7,hq0,ZbD hqne,d2]
     refine next2 (q,p%q) _ _ ⟨Yb,rfl,Yg,Yb,Yb,hq,by simp only;omega,?_⟩ hlt
     rw [← hgg,Nat.gcd_comm q,← Nat.gcd_rec,Nat.gcd_comm]
  by_cases hb1:X < 18446744073709551616
  ·have hb2:¬ Y < 18446744073709551616:=fun hh=>hb ⟨hb1,hh⟩
   rw [if_pos hb1] at hr
   subst hr
   simp +decide only [go_sem,WR,WS,hsz,e2,e3,e4,y1]
   refine Zaa Kok Ya (Zfd Y w2 (nY.ext x12)) fun r w3 x3 hr=> ?_
   obtain ⟨p3,rfl⟩:∃ p3,r= .tuple #[.int .u64 p3,.bool (decide (Y < 18446744073709551616))]:=by
    by_cases hq:Y < 18446744073709551616
    ·rw [if_pos hq] at hr;exact ⟨(Y:Int),by rw [hr];simp [hq]⟩
    ·rw [if_neg hq] at hr;exact ⟨0,by rw [hr];simp [hq]⟩
   have y0:w3.get h.size=_:=(x3.2 _ Ya).trans y0
   have y1:w3.get (h.size+1)=_:=(x3.2 _ Ya).trans y1
   have y2:w3.get (h.size+2)=_:=(x3.2 _ Ya).trans y2
   have s3:h.size+3≤w3.size:=by have:=x3.1;omega
   have x13:=x12.trans x3
   simp +decide only [go_sem,WR,WS,hsz,e2,e3,e4,y0,y1,hb2]
   refine Zaa Kok Ya (Zbp X Y w3 (nX.ext x13) (nY.ext x13) lX) fun r w4 x4 hr=> ?_
   obtain ⟨q,t,rfl,hq,ht⟩:=hr
   rw [if_neg hY] at hq ht
   obtain ⟨aq,cq,rfl,sq⟩:=hq.open
   obtain ⟨at',ct,rfl,st⟩:=ht.open
   have y0:w4.get h.size=_:=(x4.2 _ Ya).trans y0
   have y1:w4.get (h.size+1)=_:=(x4.2 _ Ya).trans y1
   have y2:w4.get (h.size+2)=_:=(x4.2 _ Ya).trans y2
   have s4:h.size+3≤w4.size:=by have:=x4.1;omega
   have hx4:=hxw.trans (x13.trans x4)
   obtain ⟨w5,e5,x5,hs5,g5,g5'⟩:=lay2 w4 (.cells [.slice none 0 0] 1) (.cells [.slice none 0 0] 1)
   have k1:h.size≤w4.size:=Ya
   have k2:h.size≤w4.size+1:=Ya
   obtain ⟨w6,e6,x6,hs6,g6,k6⟩:=put1 (hx4.trans x5) k1 (.cells [.slice aq (dig (X / Y)).length cq] 1)
   have g6':w6.get (w4.size+1)= .cells [.slice none 0 0] 1:=(k6 _ Ya).trans g5'
   obtain ⟨w7,e7,x7,hs7,g7,k7⟩:=put1 x6 k2 (.cells [.slice at' (dig (X%Y)).length ct] 1)
   have y0:w7.get h.size=_:=(k7 _ Ya).trans ((k6 _ Ya).trans ((x5.2 _ Ya).trans y0))
   have y1:w7.get (h.size+1)=_:=(k7 _ Ya).trans ((k6 _ Ya).trans ((x5.2 _ Ya).trans y1))
   have y2:w7.get (h.size+2)=_:=(k7 _ Ya).trans ((k6 _ Ya).trans ((x5.2 _ Ya).trans y2))
   have nt:NatV w7 (.agg #[.slice at' (dig (X%Y)).length ct]) (X%Y):=((ht.ext x5).over g5 Yn Yn hs6 g6 k6).over g6' Yn Yn hs7 g7 k7
   have nY7:NatV w7 (.agg #[.slice aY (dig Y).length cY]) Y:=((nY.ext (x13.trans (x4.trans x5))).over g5 Yn Yn hs6 g6 k6).over g6' Yn Yn hs7 g7 k7
   obtain ⟨w8,e8,x8,hs8,g8,k8⟩:=put1 x7 (Nat.le_refl h.size) (.cells [.slice aY (dig Y).length cY] 1)
   have y1':w8.get (h.size+1)=_:=(k8 _ Ya).trans y1
   obtain ⟨w9,e9,x9,hs9,g9,k9⟩:=put1 x8 j1 (.cells [.slice at' (dig (X%Y)).length ct] 1)
   have g9':w9.get h.size=_:=(k9 _ Ya).trans g8
   have y2':w9.get (h.size+2)=_:=(k9 _ Ya).trans ((k8 _ Ya).trans y2)
   have nt9:NatV w9 (.agg #[.slice at' (dig (X%Y)).length ct]) (X%Y):=(nt.over y0 Yn Yn hs8 g8 k8).over y1' Yn Yn hs9 g9 k9
   have nY9:NatV w9 (.agg #[.slice aY (dig Y).length cY]) Y:=(nY7.over y0 Yn Yn hs8 g8 k8).over y1' Yn Yn hs9 g9 k9
   have b1:w4.size+1 < w7.size:=Ya
   simp +decide only [go_sem,WR,WS,hsz,e2,e3,e4,e5,k1,k2,e6,g5,g6',e7,y1,g7,y0,Nat.le_refl,e8,j1,y1',e9]
   refine ZiV ?_ ?_
   ·simp +decide only [go_sem,WR,WS,hsz,e2,e3,e4,b1]
    simp
    omega
   simp +decide only [go_sem,WR,WS,hsz]
   have hm:=Nat.mod_lt X (show Y > 0 by omega)
   refine next ((Y,aY,cY),(X%Y,at',ct)) _ _ ⟨Yb,x9,by omega,g9',g9,y2',nY9,nt9,Ys,Yq,Yg,lY,Nat.le_trans (Zen (Nat.le_of_lt hm)) lY,?_⟩ hm
   simp only
   rw [← hg,Nat.gcd_comm Y,← Nat.gcd_rec,Nat.gcd_comm]
  ·rw [if_neg hb1] at hr
   subst hr
   simp +decide only [go_sem,WR,WS,hsz,e2,e3,e4,y1]
   refine Zaa Kok Ya (Zfd Y w2 (nY.ext x12)) fun r w3 x3 hr=> ?_
   obtain ⟨p3,rfl⟩:∃ p3,r= .tuple #[.int .u64 p3,.bool (decide (Y < 18446744073709551616))]:=by
    by_cases hq:Y < 18446744073709551616
    ·rw [if_pos hq] at hr;exact ⟨(Y:Int),by rw [hr];simp [hq]⟩
    ·rw [if_neg hq] at hr;exact ⟨0,by rw [hr];simp [hq]⟩
   have y0:w3.get h.size=_:=(x3.2 _ Ya).trans y0
   have y1:w3.get (h.size+1)=_:=(x3.2 _ Ya).trans y1
   have y2:w3.get (h.size+2)=_:=(x3.2 _ Ya).trans y2
   have s3:h.size+3≤w3.size:=by have:=x3.1;omega
   have x13:=x12.trans x3
   simp +decide only [go_sem,WR,WS,hsz,e2,e3,e4,y0,y1,hb1]
   refine Zaa Kok Ya (Zbp X Y w3 (nX.ext x13) (nY.ext x13) lX) fun r w4 x4 hr=> ?_
   obtain ⟨q,t,rfl,hq,ht⟩:=hr
   rw [if_neg hY] at hq ht
   obtain ⟨aq,cq,rfl,sq⟩:=hq.open
   obtain ⟨at',ct,rfl,st⟩:=ht.open
   have y0:w4.get h.size=_:=(x4.2 _ Ya).trans y0
   have y1:w4.get (h.size+1)=_:=(x4.2 _ Ya).trans y1
   have y2:w4.get (h.size+2)=_:=(x4.2 _ Ya).trans y2
   have s4:h.size+3≤w4.size:=by have:=x4.1;omega
   have hx4:=hxw.trans (x13.trans x4)
   obtain ⟨w5,e5,x5,hs5,g5,g5'⟩:=lay2 w4 (.cells [.slice none 0 0] 1) (.cells [.slice none 0 0] 1)
   have k1:h.size≤w4.size:=Ya
   have k2:h.size≤w4.size+1:=Ya
   obtain ⟨w6,e6,x6,hs6,g6,k6⟩:=put1 (hx4.trans x5) k1 (.cells [.slice aq (dig (X / Y)).length cq] 1)
   have g6':w6.get (w4.size+1)= .cells [.slice none 0 0] 1:=(k6 _ Ya).trans g5'
   obtain ⟨w7,e7,x7,hs7,g7,k7⟩:=put1 x6 k2 (.cells [.slice at' (dig (X%Y)).length ct] 1)
   have y0:w7.get h.size=_:=(k7 _ Ya).trans ((k6 _ Ya).trans ((x5.2 _ Ya).trans y0))
   have y1:w7.get (h.size+1)=_:=(k7 _ Ya).trans ((k6 _ Ya).trans ((x5.2 _ Ya).trans y1))
   have y2:w7.get (h.size+2)=_:=(k7 _ Ya).trans ((k6 _ Ya).trans ((x5.2 _ Ya).trans y2))
   have nt:NatV w7 (.agg #[.slice at' (dig (X%Y)).length ct]) (X%Y):=((ht.ext x5).over g5 Yn Yn hs6 g6 k6).over g6' Yn Yn hs7 g7 k7
   have nY7:NatV w7 (.agg #[.slice aY (dig Y).length cY]) Y:=((nY.ext (x13.trans (x4.trans x5))).over g5 Yn Yn hs6 g6 k6).over g6' Yn Yn hs7 g7 k7
   obtain ⟨w8,e8,x8,hs8,g8,k8⟩:=put1 x7 (Nat.le_refl h.size) (.cells [.slice aY (dig Y).length cY] 1)
   have y1':w8.get (h.size+1)=_:=(k8 _ Ya).trans y1
   obtain ⟨w9,e9,x9,hs9,g9,k9⟩:=put1 x8 j1 (.cells [.slice at' (dig (X%Y)).length ct] 1)
   have g9':w9.get h.size=_:=(k9 _ Ya).trans g8
   have y2':w9.get (h.size+2)=_:=(k9 _ Ya).trans ((k8 _ Ya).trans y2)
   have nt9:NatV w9 (.agg #[.slice at' (dig (X%Y)).length ct]) (X%Y):=(nt.over y0 Yn Yn hs8 g8 k8).over y1' Yn Yn hs9 g9 k9
   have nY9:NatV w9 (.agg #[.slice aY (dig Y).length cY]) Y:=(nY7.over y0 Yn Yn hs8 g8 k8).over y1' Yn Yn hs9 g9 k9
   have b1:w4.size+1 < w7.size:=Ya
   simp +decide only [go_sem,WR,WS,hsz,e2,e3,e4,e5,k1,k2,e6,g5,g6',e7,y1,g7,y0,Nat.le_refl,e8,j1,y1',e9]
   refine ZiV ?_ ?_
   ·simp +decide only [go_sem,WR,WS,hsz,e2,e3,e4,b1]
    simp
    omega
   simp +decide only [go_sem,WR,WS,hsz]
   have hm:=Nat.mod_lt X (show Y > 0 by omega)
   refine next ((Y,aY,cY),(X%Y,at',ct)) _ _ ⟨Yb,x9,by omega,g9',g9,y2',nY9,nt9,Ys,Yq,Yg,lY,Nat.le_trans (Zen (Nat.le_of_lt hm)) lY,?_⟩ hm
   simp only
   rw [← hg,Nat.gcd_comm Y,← Nat.gcd_rec,Nat.gcd_comm]
end Go.Proofs.YtachkofbmodnnaaGreat.N10
