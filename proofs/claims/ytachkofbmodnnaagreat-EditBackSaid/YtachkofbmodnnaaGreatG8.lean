/- Proved here: parts of the way to BEditBack (BN2 BN3 BN4); no condition beyond those that each theorem names. -/
import Derived.Test.YtachkofbmodnnaaGreatG7
set_option linter.unusedSimpArgs false
set_option linter.unusedVariables false
namespace Go.Proofs.YtachkofbmodnnaaGreat.N2
open Go Go.Im Go.Im.Limbs Go.Proofs Go.RowKit Hd N1
set_option maxRecDepth 100000
theorem Zfw {X Y os:List Nat} {k p q c:Nat} (hX:X[k]? =some p) (hY:q=(Y[k]?).getD 0) (hos:os[k]? =some 0) (hv:val os+c*B ^ k=val (X.take k)+val (Y.take k)) :
  val (os.set k ((p+q+c)%4294967296))+(p+q+c) / 4294967296*B ^ (k+1)=val (X.take (k+1))+val (Y.take (k+1)):=by
 have h1:=ZcB hos ((p+q+c)%4294967296)
 have h2:=Zao hX
 have h3:val (Y.take (k+1))=val (Y.take k)+q*B ^ k:=by
  cases hy:Y[k]? with
  | some y =>
    rw [hy] at hY
    simp at hY
    subst hY
    exact Zao hy
  | none =>
    rw [hy] at hY
    simp at hY
    subst hY
    have:=List.getElem?_eq_none_iff.1 hy
    rw [List.take_of_length_le Ya,List.take_of_length_le Ya]
    omega
 rw [h2,h3]
 have h4:(p+q+c)%4294967296+B*((p+q+c) / 4294967296)=p+q+c:=by
  rw [B_eq]
  exact Nat.mod_add_div _ _
 rw [Nat.pow_succ]
 generalize (p+q+c)%4294967296=r at *
 generalize (p+q+c) / 4294967296=t at *
 grind
theorem Zrg (x y:Nat) (h:Heap) {v u:Value} (hv:NatV h v x) (hu:NatV h u y) (hl1:(dig x).length≤549755813887) (hl2:(dig y).length≤549755813887):Runs K 153 #[v,u] h fun r w=>NatV w r (x+y):=by
 obtain ⟨a,c,rfl,s⟩:=hv.open
 obtain ⟨b,d,rfl,t⟩:=hu.open
 refine Runs.of Kok (Does.intro rfl Ye Tryz.func153 rfl ?_)
 obtain ⟨w0,e0,hx,hs,z0,z1,z2⟩:=lay3 h (.cells [.slice a (dig x).length c] 1) (.cells [.slice b (dig y).length d] 1) (.cells [.slice none 0 0] 1)
 by_cases h1:(((dig x).length:Nat):Int) < (((dig y).length:Nat):Int)
 ·have hle:(dig x).length≤(dig y).length:=by omega
  have i1:IntKind.i64.wrap ((((dig y).length:Nat):Int)+1)=(((dig y).length+1:Nat):Int):=Yd
  have m1:=mk_zero (sz:=w0.size) (N:=(dig y).length+1) Ya
  obtain ⟨w1,e1,hx1,hs1,z3⟩:=lay1 w0 (.cells (lv (List.replicate ((dig y).length+1) 0)) 1)
  simp +decide only [go_sem,WR,WS,e0,z0,z1,h1,i1,m1,e1]
  have zz2:w1.get (h.size+2)=_:=(hx1.2 _ Ya).trans z2
  refine Zah (α:=Nat × List Nat × Nat) (fun k e w=>k.1≤(dig y).length∧e.size=60∧Ext h w∧h.size+4≤w.size∧w.get (h.size+2)= .cells [.slice none 0 0] 1∧w.get (h.size+3)= .cells (lv k.2.1) 1 ∧
   e.get 4= .pointer (some ⟨h.size+2,0,none⟩)∧e.get 5= .slice b (dig y).length d∧e.get 6= .slice a (dig x).length c∧e.get 7= .slice (some ⟨h.size+3,0,none⟩) ((dig y).length+1) ((dig y).length+1)∧e.get 8= .int .u32 (k.2.2:Int) ∧
   e.get 27= .int .i64 (((dig y).length:Nat):Int)∧e.get 28= .int .i64 (k.1:Int) ∧
   k.2.1.length=(dig y).length+1∧Small k.2.1∧k.2.2≤1∧(∀ j,k.1≤j→j≤(dig y).length→k.2.1[j]? =some 0)∧val k.2.1+k.2.2*B ^ k.1=val ((dig y).take k.1)+val ((dig x).take k.1)) (fun k=>(dig y).length - k.1) (0,List.replicate ((dig y).length+1) 0,0) ?_ ?_
  ·refine ⟨Nat.zero_le _,Yc,hx.trans hx1,by omega,zz2,by rw [show h.size+3=w0.size by omega];exact z3,Yc,Yc,Yc,YR,by simp +decide only [go_sem];rfl,Yc,by simp +decide only [go_sem];rfl,by simp,Small.replicate _,by simp,?_,?_⟩
   ·intro j hj1 hj2
    simp only
    rw [List.getElem?_replicate,if_pos Ya]
   ·simp [Zbs,ZaQ]
  ·rintro ⟨k,os,cy⟩ e w ⟨hk,hsz,hxw,hws,g2,gb,e4,e5,e6,e7,e8,e27,e28,hol,hos,hcy,hz,hval⟩ next
   simp only at hk g2 gb e8 e28 hol hos hcy hz hval
   by_cases hkn:(k:Int) < (((dig y).length:Nat):Int)
   case neg =>
    have hkk:k=(dig y).length:=Ya
    subst hkk
    have hk1:(dig y).length+1≤(lv os).length:=YK
    have hput:=ZbK (l:=os) (k:=(dig y).length) Ya cy
    obtain ⟨w2,e2,hx2,hs2,z5,z6⟩:=put1 hxw (show h.size≤h.size+3 by omega) (.cells (lv (os.set (dig y).length cy)) 1)
    have j1:(0:Int)≤(((dig y).length:Nat):Int):=Ya
    have j2:(((dig y).length:Nat):Int) < (((dig y).length+1:Nat):Int):=Ya
    have j3:h.size≤h.size+3:=Ya
    simp +decide only [go_sem,WR,WS,hsz,e4,e5,e6,e7,e8,e27,e28,hkn,j1,j2,j3,gb,Nat.mul_one,Nat.zero_add,Int.toNat_natCast,List.length_cons,List.length_nil,hk1,hput,e2]
    have hcB:cy < B:=YL
    refine Zaa Kok Ya (ZaI (os.set (dig y).length cy) w2 (a:=some ⟨h.size+3,0,none⟩) (n:=(dig y).length+1) (c:=(dig y).length+1) (.inr (.inr ⟨h.size+3,0,_,rfl,by omega,by omega,by rw [z5];rfl,by rw [Zan,List.length_set];omega,by rw [List.drop_zero,List.take_of_length_le (by rw [Zan,List.length_set];omega)],.inl ⟨by omega,by simp only [big];omega⟩⟩)) (hos.set hcB _) Ya) fun v w3 hx3 hv=> ?_
    have hfin:val (os.set (dig y).length cy)=x+y:=by
     have q1:=ZcB (hz _ (Nat.le_refl _) (Nat.le_refl _)) cy
     rw [List.take_of_length_le (Nat.le_refl _),List.take_of_length_le hle,ZaL,ZaL] at hval
     omega
    rw [hfin] at hv
    obtain ⟨a3,c3,rfl,s3⟩:=hv.open
    have z7:w3.get (h.size+2)= .cells [.slice none 0 0] 1:=(hx3.2 _ Ya).trans ((z6 _ Ya).trans g2)
    have hz1:=hx3.1
    obtain ⟨w4,e9,hx4,hs4,z8,z9⟩:=put1 (hx2.trans hx3) (show h.size≤h.size+2 by omega) (.cells [.slice a3 (dig (x+y)).length c3] 1)
    have j4:h.size≤h.size+2:=Ya
    simp +decide only [go_sem,WR,WS,hsz,e4,z7,j4,e9,z8]
    exact hv.over z7 Yn Yn hs4 z8 z9
   have hkn':k < (dig y).length:=Ya
   obtain ⟨p,hp⟩:∃ p,(dig y)[k]? =some p:=⟨_,List.getElem?_eq_getElem hkn'⟩
   obtain ⟨b1,o1,cs1,rfl,hb1,hg1,hc1⟩:=(t.ext hxw).one (Za0 hp)
   have hpB:p < 4294967296:=Zap y p (List.mem_of_getElem? hp)
   have j1:(0:Int)≤(k:Int):=Ya
   have j2:(k:Int) < (((dig y).length+1:Nat):Int):=Ya
   have j3:h.size≤h.size+3:=Ya
   have j5:IntKind.i64.wrap ((k:Int)+1)=((k+1:Nat):Int):=Yd
   have hk1:k+1≤(lv os).length:=YK
   obtain ⟨q,hq,hqB⟩:∃ q,q=((dig x)[k]?).getD 0∧q < 4294967296:=by
    refine ⟨_,rfl,?_⟩
    cases hy:(dig x)[k]? with
    | none=>simp
    | some q=>exact Zap x q (List.mem_of_getElem? hy)
   have hput:=ZbK (l:=os) (k:=k) Ya ((p+q+cy)%4294967296)
   have fin:∀ w2:Heap,Ext w w2→∃ w3,w2.set (h.size+3) (.cells (lv (os.set k ((p+q+cy)%4294967296))) 1)=w3∧Ext h w3∧h.size+4≤w3.size∧w3.get (h.size+2)= .cells [.slice none 0 0] 1∧w3.get (h.size+3)= .cells (lv (os.set k ((p+q+cy)%4294967296))) 1:=by
    intro w2 hx2
    obtain ⟨w3,e2,hx3,hs3,z5,z6⟩:=put1 (hxw.trans hx2) (show h.size≤h.size+3 by omega) (.cells (lv (os.set k ((p+q+cy)%4294967296))) 1)
    exact ⟨w3,e2,hx3,by have:=hx2.1;omega,(z6 _ Ya).trans ((hx2.2 _ Ya).trans g2),z5⟩
   by_cases hkm:(k:Int) < (((dig x).length:Nat):Int)
   ·obtain ⟨b2,o2,cs2,rfl,hb2,hg2,hc2⟩:=(s.ext hxw).one (Za0 (i:=k) (d:=q) (by rw [hq,List.getElem?_eq_getElem (show k < (dig x).length by omega)];rfl))
    simp +decide only [go_sem,WR,WS,hsz,e4,e5,e6,e7,e8,e27,e28,hkn,hkm,j1,j2,j3,Nat.mul_one,Nat.zero_add,Int.toNat_natCast,hg1,hc1,hg2,hc2]
    refine Zaa Kok Ya (Zc3 p q cy w hpB hqB hcy) fun v w2 hx2 hv=> ?_
    subst hv
    obtain ⟨w3,e2,hx3,hs3,z5,z6⟩:=fin w2 hx2
    have gb2:w2.get (h.size+3)= .cells (lv os) 1:=(hx2.2 _ Ya).trans gb
    simp +decide only [go_sem,WR,WS,hsz,e4,e5,e6,e7,e8,e27,e28,j1,j2,j3,gb2,Nat.mul_one,Nat.zero_add,Int.toNat_natCast,List.length_cons,List.length_nil,hk1,hput,e2,j5]
    refine next (k+1,os.set k ((p+q+cy)%4294967296),(p+q+cy) / 4294967296) _ _ ⟨by simp only;omega,Yb,hx3,hs3,z5,z6,Yg,Yo,Ym,Yi,Yb,YG,Yb,by simp [hol],hos.set (by rw [B_eq];exact Nat.mod_lt _ Ya) _,by simp only;omega,?_,Zfw hp hq (hz k Ya Ya) hval⟩ Yj
    intro j hj1 hj2
    simp only at hj1 ⊢
    rw [List.getElem?_set_ne Ya]
    exact hz j Ya hj2
   ·have hq0:q=0:=by rw [hq,List.getElem?_eq_none Ya];rfl
    have hs':p+q+cy=p+cy:=Ya
    have hst:=Zfw hp hq (hz k Ya Ya) hval
    simp only [hs'] at hput fin hst
    simp +decide only [go_sem,WR,WS,hsz,e4,e5,e6,e7,e8,e27,e28,hkn,hkm,j1,j2,j3,Nat.mul_one,Nat.zero_add,Int.toNat_natCast,hg1,hc1]
    refine Zaa Kok Ya (Zc3 p 0 cy w hpB Ya hcy) fun v w2 hx2 hv=> ?_
    rw [Nat.add_zero] at hv
    subst hv
    obtain ⟨w3,e2,hx3,hs3,z5,z6⟩:=fin w2 hx2
    have gb2:w2.get (h.size+3)= .cells (lv os) 1:=(hx2.2 _ Ya).trans gb
    simp +decide only [go_sem,WR,WS,hsz,e4,e5,e6,e7,e8,e27,e28,j1,j2,j3,gb2,Nat.mul_one,Nat.zero_add,Int.toNat_natCast,List.length_cons,List.length_nil,hk1,hput,e2,j5]
    refine next (k+1,os.set k ((p+cy)%4294967296),(p+cy) / 4294967296) _ _ ⟨by simp only;omega,Yb,hx3,hs3,z5,z6,Yg,Yo,Ym,Yi,Yb,YG,Yb,by simp [hol],hos.set (by rw [B_eq];exact Nat.mod_lt _ Ya) _,by simp only;omega,?_,hst⟩ Yj
    intro j hj1 hj2
    simp only at hj1 ⊢
    rw [List.getElem?_set_ne Ya]
    exact hz j Ya hj2
 ·have hle:(dig y).length≤(dig x).length:=by omega
  have i1:IntKind.i64.wrap ((((dig x).length:Nat):Int)+1)=(((dig x).length+1:Nat):Int):=Yd
  have m1:=mk_zero (sz:=w0.size) (N:=(dig x).length+1) Ya
  obtain ⟨w1,e1,hx1,hs1,z3⟩:=lay1 w0 (.cells (lv (List.replicate ((dig x).length+1) 0)) 1)
  simp +decide only [go_sem,WR,WS,e0,z0,z1,h1,i1,m1,e1]
  have zz2:w1.get (h.size+2)=_:=(hx1.2 _ Ya).trans z2
  refine Zah (α:=Nat × List Nat × Nat) (fun k e w=>k.1≤(dig x).length∧e.size=60∧Ext h w∧h.size+4≤w.size∧w.get (h.size+2)= .cells [.slice none 0 0] 1∧w.get (h.size+3)= .cells (lv k.2.1) 1 ∧
   e.get 4= .pointer (some ⟨h.size+2,0,none⟩)∧e.get 5= .slice a (dig x).length c∧e.get 6= .slice b (dig y).length d∧e.get 7= .slice (some ⟨h.size+3,0,none⟩) ((dig x).length+1) ((dig x).length+1)∧e.get 8= .int .u32 (k.2.2:Int) ∧
   e.get 27= .int .i64 (((dig x).length:Nat):Int)∧e.get 28= .int .i64 (k.1:Int) ∧
   k.2.1.length=(dig x).length+1∧Small k.2.1∧k.2.2≤1∧(∀ j,k.1≤j→j≤(dig x).length→k.2.1[j]? =some 0)∧val k.2.1+k.2.2*B ^ k.1=val ((dig x).take k.1)+val ((dig y).take k.1)) (fun k=>(dig x).length - k.1) (0,List.replicate ((dig x).length+1) 0,0) ?_ ?_
  ·refine ⟨Nat.zero_le _,Yc,hx.trans hx1,by omega,zz2,by rw [show h.size+3=w0.size by omega];exact z3,Yc,Yc,Yc,YR,by simp +decide only [go_sem];rfl,Yc,by simp +decide only [go_sem];rfl,by simp,Small.replicate _,by simp,?_,?_⟩
   ·intro j hj1 hj2
    simp only
    rw [List.getElem?_replicate,if_pos Ya]
   ·simp [Zbs,ZaQ]
  ·rintro ⟨k,os,cy⟩ e w ⟨hk,hsz,hxw,hws,g2,gb,e4,e5,e6,e7,e8,e27,e28,hol,hos,hcy,hz,hval⟩ next
   simp only at hk g2 gb e8 e28 hol hos hcy hz hval
   by_cases hkn:(k:Int) < (((dig x).length:Nat):Int)
   case neg =>
    have hkk:k=(dig x).length:=Ya
    subst hkk
    have hk1:(dig x).length+1≤(lv os).length:=YK
    have hput:=ZbK (l:=os) (k:=(dig x).length) Ya cy
    obtain ⟨w2,e2,hx2,hs2,z5,z6⟩:=put1 hxw (show h.size≤h.size+3 by omega) (.cells (lv (os.set (dig x).length cy)) 1)
    have j1:(0:Int)≤(((dig x).length:Nat):Int):=Ya
    have j2:(((dig x).length:Nat):Int) < (((dig x).length+1:Nat):Int):=Ya
    have j3:h.size≤h.size+3:=Ya
    simp +decide only [go_sem,WR,WS,hsz,e4,e5,e6,e7,e8,e27,e28,hkn,j1,j2,j3,gb,Nat.mul_one,Nat.zero_add,Int.toNat_natCast,List.length_cons,List.length_nil,hk1,hput,e2]
    have hcB:cy < B:=YL
    refine Zaa Kok Ya (ZaI (os.set (dig x).length cy) w2 (a:=some ⟨h.size+3,0,none⟩) (n:=(dig x).length+1) (c:=(dig x).length+1) (.inr (.inr ⟨h.size+3,0,_,rfl,by omega,by omega,by rw [z5];rfl,by rw [Zan,List.length_set];omega,by rw [List.drop_zero,List.take_of_length_le (by rw [Zan,List.length_set];omega)],.inl ⟨by omega,by simp only [big];omega⟩⟩)) (hos.set hcB _) Ya) fun v w3 hx3 hv=> ?_
    have hfin:val (os.set (dig x).length cy)=x+y:=by
     have q1:=ZcB (hz _ (Nat.le_refl _) (Nat.le_refl _)) cy
     rw [List.take_of_length_le (Nat.le_refl _),List.take_of_length_le hle,ZaL,ZaL] at hval
     omega
    rw [hfin] at hv
    obtain ⟨a3,c3,rfl,s3⟩:=hv.open
    have z7:w3.get (h.size+2)= .cells [.slice none 0 0] 1:=(hx3.2 _ Ya).trans ((z6 _ Ya).trans g2)
    have hz1:=hx3.1
    obtain ⟨w4,e9,hx4,hs4,z8,z9⟩:=put1 (hx2.trans hx3) (show h.size≤h.size+2 by omega) (.cells [.slice a3 (dig (x+y)).length c3] 1)
    have j4:h.size≤h.size+2:=Ya
    simp +decide only [go_sem,WR,WS,hsz,e4,z7,j4,e9,z8]
    exact hv.over z7 Yn Yn hs4 z8 z9
   have hkn':k < (dig x).length:=Ya
   obtain ⟨p,hp⟩:∃ p,(dig x)[k]? =some p:=⟨_,List.getElem?_eq_getElem hkn'⟩
   obtain ⟨b1,o1,cs1,rfl,hb1,hg1,hc1⟩:=(s.ext hxw).one (Za0 hp)
   have hpB:p < 4294967296:=Zap x p (List.mem_of_getElem? hp)
   have j1:(0:Int)≤(k:Int):=Ya
   have j2:(k:Int) < (((dig x).length+1:Nat):Int):=Ya
   have j3:h.size≤h.size+3:=Ya
   have j5:IntKind.i64.wrap ((k:Int)+1)=((k+1:Nat):Int):=Yd
   have hk1:k+1≤(lv os).length:=YK
   obtain ⟨q,hq,hqB⟩:∃ q,q=((dig y)[k]?).getD 0∧q < 4294967296:=by
    refine ⟨_,rfl,?_⟩
    cases hy:(dig y)[k]? with
    | none=>simp
    | some q=>exact Zap y q (List.mem_of_getElem? hy)
   have hput:=ZbK (l:=os) (k:=k) Ya ((p+q+cy)%4294967296)
   have fin:∀ w2:Heap,Ext w w2→∃ w3,w2.set (h.size+3) (.cells (lv (os.set k ((p+q+cy)%4294967296))) 1)=w3∧Ext h w3∧h.size+4≤w3.size∧w3.get (h.size+2)= .cells [.slice none 0 0] 1∧w3.get (h.size+3)= .cells (lv (os.set k ((p+q+cy)%4294967296))) 1:=by
    intro w2 hx2
    obtain ⟨w3,e2,hx3,hs3,z5,z6⟩:=put1 (hxw.trans hx2) (show h.size≤h.size+3 by omega) (.cells (lv (os.set k ((p+q+cy)%4294967296))) 1)
    exact ⟨w3,e2,hx3,by have:=hx2.1;omega,(z6 _ Ya).trans ((hx2.2 _ Ya).trans g2),z5⟩
   by_cases hkm:(k:Int) < (((dig y).length:Nat):Int)
   ·obtain ⟨b2,o2,cs2,rfl,hb2,hg2,hc2⟩:=(t.ext hxw).one (Za0 (i:=k) (d:=q) (by rw [hq,List.getElem?_eq_getElem (show k < (dig y).length by omega)];rfl))
    simp +decide only [go_sem,WR,WS,hsz,e4,e5,e6,e7,e8,e27,e28,hkn,hkm,j1,j2,j3,Nat.mul_one,Nat.zero_add,Int.toNat_natCast,hg1,hc1,hg2,hc2]
    refine Zaa Kok Ya (Zc3 p q cy w hpB hqB hcy) fun v w2 hx2 hv=> ?_
    subst hv
    obtain ⟨w3,e2,hx3,hs3,z5,z6⟩:=fin w2 hx2
    have gb2:w2.get (h.size+3)= .cells (lv os) 1:=(hx2.2 _ Ya).trans gb
    simp +decide only [go_sem,WR,WS,hsz,e4,e5,e6,e7,e8,e27,e28,j1,j2,j3,gb2,Nat.mul_one,Nat.zero_add,Int.toNat_natCast,List.length_cons,List.length_nil,hk1,hput,e2,j5]
    refine next (k+1,os.set k ((p+q+cy)%4294967296),(p+q+cy) / 4294967296) _ _ ⟨by simp only;omega,Yb,hx3,hs3,z5,z6,Yg,Yo,Ym,Yi,Yb,YG,Yb,by simp [hol],hos.set (by rw [B_eq];exact Nat.mod_lt _ Ya) _,by simp only;omega,?_,Zfw hp hq (hz k Ya Ya) hval⟩ Yj
    intro j hj1 hj2
    simp only at hj1 ⊢
    rw [List.getElem?_set_ne Ya]
    exact hz j Ya hj2
   ·have hq0:q=0:=by rw [hq,List.getElem?_eq_none Ya];rfl
    have hs':p+q+cy=p+cy:=Ya
    have hst:=Zfw hp hq (hz k Ya Ya) hval
    simp only [hs'] at hput fin hst
    simp +decide only [go_sem,WR,WS,hsz,e4,e5,e6,e7,e8,e27,e28,hkn,hkm,j1,j2,j3,Nat.mul_one,Nat.zero_add,Int.toNat_natCast,hg1,hc1]
    refine Zaa Kok Ya (Zc3 p 0 cy w hpB Ya hcy) fun v w2 hx2 hv=> ?_
    rw [Nat.add_zero] at hv
    subst hv
    obtain ⟨w3,e2,hx3,hs3,z5,z6⟩:=fin w2 hx2
    have gb2:w2.get (h.size+3)= .cells (lv os) 1:=(hx2.2 _ Ya).trans gb
    simp +decide only [go_sem,WR,WS,hsz,e4,e5,e6,e7,e8,e27,e28,j1,j2,j3,gb2,Nat.mul_one,Nat.zero_add,Int.toNat_natCast,List.length_cons,List.length_nil,hk1,hput,e2,j5]
    refine next (k+1,os.set k ((p+cy)%4294967296),(p+cy) / 4294967296) _ _ ⟨by simp only;omega,Yb,hx3,hs3,z5,z6,Yg,Yo,Ym,Yi,Yb,YG,Yb,by simp [hol],hos.set (by rw [B_eq];exact Nat.mod_lt _ Ya) _,by simp only;omega,?_,hst⟩ Yj
    intro j hj1 hj2
    simp only at hj1 ⊢
    rw [List.getElem?_set_ne Ya]
    exact hz j Ya hj2
theorem Zhg {Y os:List Nat} {i j p q o cy V:Nat} (hY:Y[j]? =some q) (ho:os[i+j]? =some o) (hv:val os+cy*B ^ (i+j)=V+p*val (Y.take j)*B ^ i) :
  val (os.set (i+j) ((p*q+o+cy)%4294967296))+(p*q+o+cy) / 4294967296*B ^ (i+(j+1))=V+p*val (Y.take (j+1))*B ^ i:=by
 have h1:=ZcB ho ((p*q+o+cy)%4294967296)
 have h2:=Zao hY
 rw [h2]
 have h4:(p*q+o+cy)%4294967296+B*((p*q+o+cy) / 4294967296)=p*q+o+cy:=by
  rw [B_eq]
  exact Nat.mod_add_div _ _
 rw [show i+(j+1)=i+j+1 by omega,Nat.pow_succ]
 rw [Nat.pow_add] at *
 generalize (p*q+o+cy)%4294967296=r at *
 generalize (p*q+o+cy) / 4294967296=t at *
 grind
theorem ZfW (x y:Nat) (h:Heap) {v u:Value} (hv:NatV h v x) (hu:NatV h u y) (hl1:(dig x).length≤549755813887) (hl2:(dig y).length≤549755813887):Runs K 151 #[v,u] h fun r w=>NatV w r (x*y):=by
 obtain ⟨a,c,rfl,s⟩:=hv.open
 obtain ⟨b,d,rfl,t⟩:=hu.open
 refine Runs.of Kok (Does.intro rfl Ye Tryz.func151 rfl ?_)
 obtain ⟨w0,e0,hx,hs,z0,z1,z2⟩:=lay3 h (.cells [.slice a (dig x).length c] 1) (.cells [.slice b (dig y).length d] 1) (.cells [.slice none 0 0] 1)
 have i1:IntKind.i64.wrap ((((dig x).length:Nat):Int)+(((dig y).length:Nat):Int))=(((dig x).length+(dig y).length:Nat):Int):=iadd Ya
 have m1:=mk_zero (sz:=w0.size) (N:=(dig x).length+(dig y).length) Ya
 obtain ⟨w1,e1,hx1,hs1,z3⟩:=lay1 w0 (.cells (lv (List.replicate ((dig x).length+(dig y).length) 0)) 1)
 have zz0:w1.get h.size=_:=(hx1.2 _ Ya).trans z0
 have zz1:w1.get (h.size+1)=_:=(hx1.2 _ Ya).trans z1
 have zz2:w1.get (h.size+2)=_:=(hx1.2 _ Ya).trans z2
 have zz3:w1.get (h.size+3)=_:=(show w1.get (h.size+3)=w1.get w0.size by rw [hs]).trans z3
 simp +decide only [go_sem,WR,WS,e0,z0,z1,i1,m1,e1,zz0]
 have j3:h.size≤h.size+3:=Ya
 refine Zah (α:=Nat × List Nat) (fun k e w=>k.1≤(dig x).length∧e.size=73∧Ext h w∧w.size=h.size+4∧w.get h.size= .cells [.slice a (dig x).length c] 1∧w.get (h.size+1)= .cells [.slice b (dig y).length d] 1∧w.get (h.size+2)= .cells [.slice none 0 0] 1∧w.get (h.size+3)= .cells (lv k.2) 1 ∧
  e.get 3= .pointer (some ⟨h.size+1,0,none⟩)∧e.get 4= .pointer (some ⟨h.size+2,0,none⟩)∧e.get 5= .slice (some ⟨h.size+3,0,none⟩) ((dig x).length+(dig y).length) ((dig x).length+(dig y).length) ∧
  e.get 21= .slice a (dig x).length c∧e.get 22= .int .i64 (((dig x).length:Nat):Int)∧e.get 23= .int .i64 (k.1:Int) ∧
  k.2.length=(dig x).length+(dig y).length∧Small k.2∧(∀ j,k.1+(dig y).length≤j→j < (dig x).length+(dig y).length→k.2[j]? =some 0)∧val k.2=val ((dig x).take k.1)*y) (fun k=>(dig x).length - k.1) (0,List.replicate ((dig x).length+(dig y).length) 0) ?_ ?_
 ·refine ⟨Nat.zero_le _,Yc,hx.trans hx1,by omega,zz0,zz1,zz2,zz3,Yc,Yc,YR,Yc,Yc,by simp +decide only [go_sem];rfl,by simp,Small.replicate _,?_,?_⟩
  ·intro j hj1 hj2
   simp only
   rw [List.getElem?_replicate,if_pos Ya]
  ·simp [Zbs,ZaQ]
 ·rintro ⟨i,os⟩ e w ⟨hi,hsz,hxw,hws,g0,g1,g2,gb,e3,e4,e5,e21,e22,e23,hol,hos,hz,hval⟩ next
  simp only at hi g2 gb e23 hol hos hz hval
  by_cases hin:(i:Int) < (((dig x).length:Nat):Int)
  case neg =>
   have hii:i=(dig x).length:=Ya
   subst hii
   simp +decide only [go_sem,WR,WS,hsz,e4,e5,e22,e23,hin]
   refine Zaa Kok Ya (ZaI os w (Sl.made Ya gb YK YC) hos Ya) fun v w3 hx3 hv=> ?_
   rw [hval,List.take_of_length_le (Nat.le_refl _),ZaL] at hv
   obtain ⟨a3,c3,rfl,s3⟩:=hv.open
   have z7:w3.get (h.size+2)= .cells [.slice none 0 0] 1:=(hx3.2 _ Ya).trans g2
   have hz1:=hx3.1
   obtain ⟨w4,e9,hx4,hs4,z8,z9⟩:=put1 (hxw.trans hx3) (show h.size≤h.size+2 by omega) (.cells [.slice a3 (dig (x*y)).length c3] 1)
   have j4:h.size≤h.size+2:=Ya
   simp +decide only [go_sem,WR,WS,hsz,e4,z7,j4,e9,z8]
   exact hv.over z7 Yn Yn hs4 z8 z9
  have hin':i < (dig x).length:=Ya
  obtain ⟨p,hp⟩:∃ p,(dig x)[i]? =some p:=⟨_,List.getElem?_eq_getElem hin'⟩
  obtain ⟨b1,o1,cs1,rfl,hb1,hg1,hc1⟩:=(s.ext hxw).one (Za0 hp)
  have hpB:p < 4294967296:=Zap x p (List.mem_of_getElem? hp)
  have k1:(0:Int)≤(i:Int):=Ya
  have k5:IntKind.i64.wrap ((i:Int)+1)=((i+1:Nat):Int):=Yd
  simp +decide only [go_sem,WR,WS,hsz,e3,e4,e5,e21,e22,e23,hin,k1,Nat.mul_one,Nat.zero_add,Int.toNat_natCast,hg1,hc1,g1]
  refine Zah (α:=Nat × List Nat × Nat) (fun k e w=>k.1≤(dig y).length∧e.size=73∧Ext h w∧w.size=h.size+4∧w.get h.size= .cells [.slice (some ⟨b1,o1,none⟩) (dig x).length c] 1∧w.get (h.size+1)= .cells [.slice b (dig y).length d] 1∧w.get (h.size+2)= .cells [.slice none 0 0] 1∧w.get (h.size+3)= .cells (lv k.2.1) 1 ∧
   e.get 3= .pointer (some ⟨h.size+1,0,none⟩)∧e.get 4= .pointer (some ⟨h.size+2,0,none⟩)∧e.get 5= .slice (some ⟨h.size+3,0,none⟩) ((dig x).length+(dig y).length) ((dig x).length+(dig y).length) ∧
   e.get 6= .int .i64 (i:Int)∧e.get 7= .int .u32 (p:Int)∧e.get 8= .int .u64 (k.2.2:Int) ∧
   e.get 21= .slice (some ⟨b1,o1,none⟩) (dig x).length c∧e.get 22= .int .i64 (((dig x).length:Nat):Int)∧e.get 23= .int .i64 (i:Int)∧e.get 29= .slice b (dig y).length d∧e.get 30= .int .i64 (((dig y).length:Nat):Int)∧e.get 31= .int .i64 (k.1:Int) ∧
   k.2.1.length=(dig x).length+(dig y).length∧Small k.2.1∧k.2.2 < 4294967296∧(∀ j,i+(dig y).length≤j→j < (dig x).length+(dig y).length→k.2.1[j]? =some 0) ∧
   val k.2.1+k.2.2*B ^ (i+k.1)=val os+p*val ((dig y).take k.1)*B ^ i) (fun k=>(dig y).length - k.1) (0,os,0) ?_ ?_
  ·refine ⟨Nat.zero_le _,Yb,hxw,hws,g0,g1,g2,gb,Yq,Yg,Yo,Yb,Yb,by simp +decide only [go_sem,hsz];rfl,Y1,by simp +decide only [go_sem,hsz,e22],by simp +decide only [go_sem,hsz,e23],Yb,Yb,by simp +decide only [go_sem,hsz];rfl,hol,hos,by simp only;omega,hz,by simp [ZaQ]⟩
  ·rintro ⟨j,os',cy⟩ e w ⟨hj,hsz,hxw,hws,g0,g1,g2,gb,e3,e4,e5,e6,e7,e8,e21,e22,e23,e29,e30,e31,hol,hos,hcy,hz,hval2⟩ next2
   simp only at hj gb e8 e31 hol hos hcy hz hval2
   by_cases hjm:(j:Int) < (((dig y).length:Nat):Int)
   case neg =>
    have hjj:j=(dig y).length:=Ya
    subst hjj
    have k2:IntKind.i64.wrap ((i:Int)+(((dig y).length:Nat):Int))=((i+(dig y).length:Nat):Int):=iadd Ya
    have k3:(0:Int)≤((i+(dig y).length:Nat):Int):=Ya
    have k4:((i+(dig y).length:Nat):Int) < (((dig x).length+(dig y).length:Nat):Int):=Ya
    have k6:cy%4294967296=cy:=Ya
    have hk1:i+(dig y).length+1≤(lv os').length:=YK
    have hput:=ZbK (l:=os') (k:=i+(dig y).length) Ya cy
    obtain ⟨w2,e2,hx2,hs2,z5,z6⟩:=put1 hxw (show h.size≤h.size+3 by omega) (.cells (lv (os'.set (i+(dig y).length) cy)) 1)
    simp +decide only [go_sem,WR,WS,hsz,e3,e4,e5,e6,e7,e8,e21,e22,e23,e29,e30,e31,hjm,g1,k2,k3,k4,j3,w32,k6,Nat.mul_one,Nat.zero_add,Int.toNat_natCast,gb,List.length_cons,List.length_nil,hk1,hput,e2,k5]
    have hcB:cy < B:=YL
    refine next (i+1,os'.set (i+(dig y).length) cy) _ _ ⟨by simp only;omega,Yb,hx2,by omega,(z6 _ Ya).trans g0,(z6 _ Ya).trans g1,(z6 _ Ya).trans g2,z5,Yq,Yg,Yo,Y1,by simp +decide only [go_sem,hsz,e22],Yb,by simp [hol],hos.set hcB _,?_,?_⟩ Yj
    ·intro j hj1 hj2
     simp only at hj1 ⊢
     rw [List.getElem?_set_ne Ya]
     exact hz j Ya hj2
    ·simp only
     have q1:=ZcB (hz _ (Nat.le_refl _) Ya) cy
     rw [List.take_of_length_le (Nat.le_refl _),ZaL] at hval2
     rw [Zao hp]
     have q2:val ((dig x).take i)*y+p*y*B ^ i=(val ((dig x).take i)+p*B ^ i)*y:=Yac
     omega
   have hjm':j < (dig y).length:=Ya
   obtain ⟨q,hq⟩:∃ q,(dig y)[j]? =some q:=⟨_,List.getElem?_eq_getElem hjm'⟩
   obtain ⟨b2,o2,cs2,rfl,hb2,hg2,hc2⟩:=(t.ext hxw).one (Za0 hq)
   have hqB:q < 4294967296:=Zap y q (List.mem_of_getElem? hq)
   obtain ⟨o,ho⟩:∃ o,os'[i+j]? =some o:=⟨_,List.getElem?_eq_getElem Ya⟩
   have hoB:o < 4294967296:=hos.get ho
   have hpq:p*q≤4294967295*4294967295:=Nat.mul_le_mul Ya Ya
   have l1:(0:Int)≤(j:Int):=Ya
   have k2:IntKind.i64.wrap ((i:Int)+(j:Int))=((i+j:Nat):Int):=iadd Ya
   have k3:(0:Int)≤((i+j:Nat):Int):=Ya
   have k4:((i+j:Nat):Int) < (((dig x).length+(dig y).length:Nat):Int):=Ya
   have k7:IntKind.i64.wrap ((j:Int)+1)=((j+1:Nat):Int):=Yd
   have hk1:i+j+1≤(lv os').length:=YK
   have hget:(lv os')[i+j]? =some (.int .u32 (o:Int)):=Za0 ho
   have hput:=ZbK (l:=os') (k:=i+j) Ya ((p*q+o+cy)%4294967296)
   obtain ⟨w2,e2,hx2,hs2,z5,z6⟩:=put1 hxw (show h.size≤h.size+3 by omega) (.cells (lv (os'.set (i+j) ((p*q+o+cy)%4294967296))) 1)
   simp +decide only [go_sem,WR,WS,hsz,e3,e4,e5,e6,e7,e8,e21,e22,e23,e29,e30,e31,hjm,g1,k2,k3,k4,l1,j3,hg2,hc2,w64 (show p < 18446744073709551616 by omega),w64 (show q < 18446744073709551616 by omega),w64 (show o < 18446744073709551616 by omega),wmul (show p*q < 18446744073709551616 by omega),wadd (show p*q+o < 18446744073709551616 by omega),wadd (show p*q+o+cy < 18446744073709551616 by omega),w32,Zio,Nat.mul_one,Nat.zero_add,Int.toNat_natCast,gb,hget,List.length_cons,List.length_nil,hk1,hput,e2,k7]
   refine next2 (j+1,os'.set (i+j) ((p*q+o+cy)%4294967296),(p*q+o+cy) / 4294967296) _ _ ⟨by simp only;omega,Yb,hx2,by omega,(z6 _ Ya).trans g0,(z6 _ Ya).trans g1,(z6 _ Ya).trans g2,z5,Yq,Yg,Yo,Ym,Yi,Yb,Y1,by simp +decide only [go_sem,hsz,e22],by simp +decide only [go_sem,hsz,e23],by simp +decide only [go_sem,hsz,e29],by simp +decide only [go_sem,hsz,e30],Yb,by simp [hol],hos.set (by rw [B_eq];exact Nat.mod_lt _ Ya) _,by simp only;omega,?_,Zhg hq ho hval2⟩ Yj
   intro j' hj1 hj2
   simp only at hj1 ⊢
   rw [List.getElem?_set_ne Ya]
   exact hz j' Ya hj2
end Go.Proofs.YtachkofbmodnnaaGreat.N2
namespace Go.Proofs.YtachkofbmodnnaaGreat.N3
open Go Go.Im Go.Im.Limbs Go.Proofs Go.RowKit Hd N1 N2
set_option maxRecDepth 100000
def bl (x:Nat):Nat:=if h:x=0 then 0 else bl (x / 2)+1
termination_by x
decreasing_by exact Nat.div_lt_self Ya YI
theorem ZeY:bl 0=0:=by rw [bl];simp
theorem Zkx {x:Nat} (h:x≠0):bl x=bl (x / 2)+1:=by rw [bl];simp [h]
theorem Zky:∀ (k x:Nat),2 ^ k≤x→bl x=bl (x / 2 ^ k)+k
 | 0,x,h=>by simp
 | k+1,x,h=>by
   have h0:x≠0:=by
    have:0 < 2 ^ (k+1):=Nat.two_pow_pos _
    omega
   rw [Zkx h0]
   have h1:2 ^ k≤x / 2:=by
    rw [Nat.le_div_iff_mul_le Ya]
    rwa [Nat.pow_succ] at h
   rw [Zky k (x / 2) h1,Nat.div_div_eq_div_mul,Nat.pow_succ,Nat.mul_comm 2]
   omega
theorem Zc1 (x:Nat):x < 2 ^ bl x∧(x≠0→2 ^ (bl x - 1)≤x):=by
 induction x using Nat.strongRecOn with
 | ind x ih =>
   by_cases h:x=0
   ·subst h;rw [ZeY];simp
   ·rw [Zkx h]
    have:=ih (x / 2) (Nat.div_lt_self Ya YI)
    rw [Nat.pow_succ]
    refine ⟨by omega,fun _=> ?_⟩
    simp only [Nat.add_sub_cancel]
    by_cases h2:x / 2=0
    ·rw [h2,ZeY];simp;omega
    ·have h3:=this.2 h2
     have h4:bl (x / 2)=bl (x / 2) - 1+1:=by
      rw [Zkx h2]
      omega
     rw [h4,Nat.pow_succ]
     omega
def chk (s:ByteArray):Bool:=(List.range 256).all fun n=>decide (s.data.toList[n]? =some (UInt8.ofNat (bl n)))
theorem tab (s:ByteArray) (hs:chk s=true) {n:Nat} (hn:n < 256):Zgk s n=some (.int .u8 ((bl n:Nat):Int)):=by
 have h1:=List.all_eq_true.1 hs n (List.mem_range.2 hn)
 have h2:s.data.toList[n]? =some (UInt8.ofNat (bl n)):=by simpa using h1
 have h3:bl n≤8:=by
  have:=(Zc1 n).2
  by_cases h0:n=0
  ·subst h0;rw [ZeY];omega
  ·have h4:=this h0
   by_cases h5:bl n≤8
   ·exact h5
   ·have:2 ^ 8≤2 ^ (bl n - 1):=Nat.pow_le_pow_right Ya Ya
    omega
 have h4:(UInt8.ofNat (bl n)).toNat=bl n:=by
  rw [UInt8.toNat_ofNat']
  exact Nat.mod_eq_of_lt Ya
 have h5:(0:Int)≤(n:Int):=Ya
 simp only [Zgk,h5,if_true,Int.toNat_natCast,h2,h4]
theorem ZmD (x:Nat) (h:Heap) (hx:x < 4294967296):Runs K 105 #[.int .u32 (x:Int)] h fun v _=>v= .int .i64 ((bl x:Nat):Int):=by
 refine Runs.of Kok (Does.intro rfl Ye Tryz.func105 rfl ?_)
 have c16:(65536:Int)≤(x:Int)∨¬ (65536:Int)≤(x:Int):=Ya
 have q1:(65536:Int)≤(x:Int)→bl x=bl (x / 65536)+16:=fun hh=>Zky 16 x Ya
 have fin:∀ y k:Nat,y < 256→bl x=bl y+k→k≤24→IntKind.i64.wrap ((k:Int)+((bl y:Nat):Int))=((bl x:Nat):Int):=by
  intro y k hy hb hk
  have h3:bl y≤32:=by
   have:=(Zc1 y).2
   by_cases h0:y=0
   ·subst h0;rw [ZeY];omega
   ·have h4:=this h0
    by_cases h5:bl y≤32
    ·exact h5
    ·have:2 ^ 32≤2 ^ (bl y - 1):=Nat.pow_le_pow_right Ya Ya
     omega
  rw [wrap_i64 Ya Ya,hb]
  omega
 have cv:∀ y:Nat,y < 256→IntKind.u8.wrap (y:Int)=(y:Int):=fun y hy=>wrap_u8 Ya Ya
 have bl32:∀ y:Nat,y < 256→bl y≤8:=by
  intro y hy
  have:=(Zc1 y).2
  by_cases h0:y=0
  ·subst h0;rw [ZeY];omega
  ·have h4:=this h0
   by_cases h5:bl y≤8
   ·exact h5
   ·have:2 ^ 8≤2 ^ (bl y - 1):=Nat.pow_le_pow_right Ya Ya
    omega
 have cvi:∀ y:Nat,y < 256→IntKind.i64.wrap ((bl y:Nat):Int)=((bl y:Nat):Int):=fun y hy=>wrap_i64 Ya (by have:=bl32 y hy;omega)
 have w24:IntKind.i64.wrap 24=24:=wrap_i64 Ya Ya
 have w8:IntKind.i64.wrap 8=8:=wrap_i64 Ya Ya
 rcases c16 with h1 | h1
 ·by_cases h2:(256:Int)≤((x / 65536:Nat):Int)
  ·have hy:x / 65536 / 256 < 256:=by omega
   have hb:bl x=bl (x / 65536 / 256)+24:=by rw [q1 h1,Zky 8 (x / 65536) Ya]
   have f:IntKind.i64.wrap (24+((bl (x / 65536 / 256):Nat):Int))=((bl x:Nat):Int):=fin _ 24 hy hb Ya
   simp +decide only [go_sem,WR,WS,h1,h2,Zhq,Zki,cv _ hy,w24]
   rw [tab _ Ye hy]
   simp +decide only [go_sem,WR,WS,Zfq,cvi _ hy,f]
  ·have hy:x / 65536 < 256:=by omega
   have f:IntKind.i64.wrap (16+((bl (x / 65536):Nat):Int))=((bl x:Nat):Int):=fin _ 16 hy (q1 h1) Ya
   simp +decide only [go_sem,WR,WS,h1,h2,Zhq,Zki,cv _ hy]
   rw [tab _ Ye hy]
   simp +decide only [go_sem,WR,WS,Zfq,cvi _ hy,f]
 ·by_cases h2:(256:Int)≤(x:Int)
  ·have hy:x / 256 < 256:=by omega
   have hb:bl x=bl (x / 256)+8:=Zky 8 x Ya
   have f:IntKind.i64.wrap (8+((bl (x / 256):Nat):Int))=((bl x:Nat):Int):=fin _ 8 hy hb Ya
   simp +decide only [go_sem,WR,WS,h1,h2,Zhq,Zki,cv _ hy,w8]
   rw [tab _ Ye hy]
   simp +decide only [go_sem,WR,WS,Zfq,cvi _ hy,f]
  ·have hy:x < 256:=by omega
   have f:IntKind.i64.wrap (0+((bl x:Nat):Int))=((bl x:Nat):Int):=fin _ 0 hy Ya Ya
   simp +decide only [go_sem,WR,WS,h1,h2,Zhq,Zki,cv _ hy]
   rw [tab _ Ye hy]
   simp +decide only [go_sem,WR,WS,Zfq,cvi _ hy,f]
theorem Znw {x:Nat} (hx:x < 4294967296):bl x≤32:=by
 have:=(Zc1 x).2
 by_cases h0:x=0
 ·subst h0;rw [ZeY];omega
 ·have h4:=this h0
  by_cases h5:bl x≤32
  ·exact h5
  ·have:2 ^ 32≤2 ^ (bl x - 1):=Nat.pow_le_pow_right Ya Ya
   omega
theorem Zsk (x:Nat) (h:Heap) (hx:x < 4294967296):Runs K 190 #[.int .u32 (x:Int)] h fun v _=>v= .int .i64 ((32 - bl x:Nat):Int):=by
 have hb:=Znw hx
 have q:IntKind.i64.wrap (32 - ((bl x:Nat):Int))=((32 - bl x:Nat):Int):=Yd
 refine Runs.of Kok (Does.intro rfl Ye Tryz.func190 rfl ?_)
 simp +decide only [go_sem,WR,WS]
 refine Zaa Kok Ya (ZmD x h hx) fun v w hx1 hv=> ?_
 subst hv
 simp +decide only [go_sem,WR,WS,q]
theorem norm {x:Nat} (hx:x < 4294967296) (h0:x≠0):32 - bl x < 32∧2147483648≤x*2 ^ (32 - bl x)∧x*2 ^ (32 - bl x) < 4294967296:=by
 have h1:=Zc1 x
 have h2:=h1.2 h0
 have h3:=Znw hx
 have h4:bl x≠0:=by rw [Zkx h0];omega
 have e1:2 ^ (bl x - 1)*2 ^ (32 - bl x)=2 ^ 31:=by rw [← Nat.pow_add];congr 1;omega
 have e2:2 ^ bl x*2 ^ (32 - bl x)=2 ^ 32:=by rw [← Nat.pow_add];congr 1;omega
 have h5:2 ^ (bl x - 1)*2 ^ (32 - bl x)≤x*2 ^ (32 - bl x):=Nat.mul_le_mul_right _ h2
 have h6:x*2 ^ (32 - bl x) < 2 ^ bl x*2 ^ (32 - bl x):=Nat.mul_lt_mul_of_pos_right h1.1 (Nat.two_pow_pos _)
 omega
end Go.Proofs.YtachkofbmodnnaaGreat.N3
namespace Go.Proofs.YtachkofbmodnnaaGreat.N4
open Go Go.Im Go.Im.Limbs Go.Proofs Go.RowKit Hd N1 N2 N3
set_option maxRecDepth 100000
theorem set_drop {l:List Nat} {i:Nat} (h:i < l.length) (v:Nat):(l.set i v).drop i=v::l.drop (i+1):=by
 have:l.set i v=l.take i++v::l.drop (i+1):=by rw [List.set_eq_take_append_cons_drop,if_pos h]
 rw [this,List.drop_left' Yl]
theorem ZkI {X os:List Nat} {k p d rest:Nat} (hX:X[k]? =some p) (hp:p < B) (ho:k < os.length) (hd:0 < d) (hv:val (X.drop (k+1))=val (os.drop (k+1))*d+rest) :
  val (X.drop k)=val ((os.set k ((rest*B+p) / d)).drop k)*d+(rest*B+p)%d:=by
 have hk:=(List.getElem?_eq_some_iff.1 hX).1
 rw [set_drop ho,List.drop_eq_getElem_cons hk,ZaE,ZaE,(List.getElem?_eq_some_iff.1 hX).2,hv]
 have:=Nat.div_add_mod (rest*B+p) d
 generalize (rest*B+p) / d=q at *
 generalize (rest*B+p)%d=r at *
 generalize val (os.drop (k+1))=Q at *
 grind
theorem ZlK (x d:Nat) (h:Heap) {v:Value} (hv:NatV h v x) (hd0:0 < d) (hd:d < 4294967296) (hl:(dig x).length≤549755813887):Runs K 184 #[v,.int .u32 (d:Int)] h fun r w=>∃ q,r= .tuple #[q,.int .u32 ((x%d:Nat):Int)]∧NatV w q (x / d):=by
 obtain ⟨a,c,rfl,s⟩:=hv.open
 refine Runs.of Kok (Does.intro rfl Ye Tryz.func184 rfl ?_)
 obtain ⟨w0,e0,hx,hs,z0,z1⟩:=lay2 h (.cells [.slice a (dig x).length c] 1) (.cells [.slice none 0 0] 1)
 have m1:=mk_zero (sz:=w0.size) (N:=(dig x).length) Ya
 obtain ⟨w1,e1,hx1,hs1,z3⟩:=lay1 w0 (.cells (lv (List.replicate (dig x).length 0)) 1)
 have zz0:w1.get h.size=_:=(hx1.2 _ Ya).trans z0
 have zz1:w1.get (h.size+1)=_:=(hx1.2 _ Ya).trans z1
 have zz3:w1.get (h.size+2)=_:=(show w1.get (h.size+2)=w1.get w0.size by rw [hs]).trans z3
 have i2:IntKind.i64.wrap ((((dig x).length:Nat):Int) - 1)=(((dig x).length:Nat):Int) - 1:=wrap_i64 Ya Ya
 simp +decide only [go_sem,WR,WS,e0,z0,z1,m1,e1,zz0,i2]
 have j3:h.size≤h.size+2:=Ya
 refine Zah (α:=Nat × List Nat × Nat) (fun k e w=>k.1≤(dig x).length∧e.size=47∧Ext h w∧w.size=h.size+3∧w.get h.size= .cells [.slice a (dig x).length c] 1∧w.get (h.size+1)= .cells [.slice none 0 0] 1∧w.get (h.size+2)= .cells (lv k.2.1) 1 ∧
  e.get 1= .int .u32 (d:Int)∧e.get 2= .pointer (some ⟨h.size,0,none⟩)∧e.get 4= .pointer (some ⟨h.size+1,0,none⟩)∧e.get 6= .slice (some ⟨h.size+2,0,none⟩) (dig x).length (dig x).length∧e.get 7= .int .u64 (k.2.2:Int)∧e.get 8= .int .i64 ((k.1:Int) - 1) ∧
  k.2.1.length=(dig x).length∧Small k.2.1∧k.2.2 < d∧val ((dig x).drop k.1)=val (k.2.1.drop k.1)*d+k.2.2) (fun k=>k.1) ((dig x).length,List.replicate (dig x).length 0,0) ?_ ?_
 ·refine ⟨Nat.le_refl _,Yc,hx.trans hx1,by omega,zz0,zz1,zz3,Yc,Yc,Yc,YR,by simp +decide only [go_sem];rfl,Yc,by simp,Small.replicate _,hd0,?_⟩
  simp only
  rw [List.drop_of_length_le (Nat.le_refl _),List.drop_of_length_le Yp]
  simp [ZaQ]
 ·rintro ⟨k,os,rest⟩ e w ⟨hk,hsz,hxw,hws,g0,g1,gb,e1,e2,e4,e6,e7,e8,hol,hos,hr,hval⟩ next
  simp only at hk gb e7 e8 hol hos hr hval
  by_cases hk0:(0:Int)≤(k:Int) - 1
  case neg =>
   have:k=0:=by omega
   subst this
   rw [List.drop_zero,List.drop_zero,ZaL] at hval
   simp +decide only [go_sem,WR,WS,hsz,e1,e2,e4,e6,e7,e8,hk0]
   refine Zaa Kok Ya (ZaI os w (Sl.made Ya gb YK YC) hos Ya) fun v w3 hx3 hv=> ?_
   have hq:val os=x / d:=by
    rw [hval,Nat.add_comm,Nat.add_mul_div_right _ _ hd0,Nat.div_eq_of_lt hr,Nat.zero_add]
   have hrr:rest=x%d:=by
    rw [hval,Nat.add_comm,Nat.add_mul_mod_self_right,Nat.mod_eq_of_lt hr]
   rw [hq] at hv
   obtain ⟨a3,c3,rfl,s3⟩:=hv.open
   have z7:w3.get (h.size+1)= .cells [.slice none 0 0] 1:=(hx3.2 _ Ya).trans g1
   have hz1:=hx3.1
   obtain ⟨w4,e9,hx4,hs4,z8,z9⟩:=put1 (hxw.trans hx3) (show h.size≤h.size+1 by omega) (.cells [.slice a3 (dig (x / d)).length c3] 1)
   have j4:h.size≤h.size+1:=Ya
   have hm:rest%4294967296=x%d:=Ya
   simp +decide only [go_sem,WR,WS,hsz,e4,e7,z7,j4,e9,z8,w32,hm]
   exact ⟨_,rfl,hv.over z7 Yn Yn hs4 z8 z9⟩
  obtain ⟨j,rfl⟩:∃ j,k=j+1:=⟨k - 1,by omega⟩
  have hjn:j < (dig x).length:=Ya
  obtain ⟨p,hp⟩:∃ p,(dig x)[j]? =some p:=⟨_,List.getElem?_eq_getElem hjn⟩
  obtain ⟨b1,o1,cs1,rfl,hb1,hg1,hc1⟩:=(s.ext hxw).one (Za0 hp)
  have hpB:p < 4294967296:=Zap x p (List.mem_of_getElem? hp)
  have i3:((j+1:Nat):Int) - 1=(j:Int):=Ya
  have i4:(0:Int)≤(j:Int):=Ya
  have i5:(j:Int) < (((dig x).length:Nat):Int):=Ya
  have i6:IntKind.i64.wrap ((j:Int) - 1)=(j:Int) - 1:=wrap_i64 Ya Ya
  have hrB:rest*4294967296%18446744073709551616=rest*4294967296:=Nat.mod_eq_of_lt Ya
  have hor:(rest*4294967296 ||| p)=rest*B+p:=by rw [Zh8 hpB,B_eq]
  have ht:rest*B+p < 18446744073709551616:=YL
  have hdne:((d:Nat):Int)≠0:=Ya
  have q1:((rest*B+p:Nat):Int).tdiv (d:Int)=(((rest*B+p) / d:Nat):Int):=(Int.ofNat_tdiv _ _).symm
  have q2:((rest*B+p:Nat):Int).tmod (d:Int)=(((rest*B+p)%d:Nat):Int):=(Int.ofNat_tmod _ _).symm
  have hqB:(rest*B+p) / d < 4294967296:=by
   rw [Nat.div_lt_iff_lt_mul hd0]
   have h1:(rest+1)*B≤d*B:=Nat.mul_le_mul_right _ hr
   rw [Nat.add_mul,Nat.mul_comm d,B_eq] at h1
   rw [B_eq]
   omega
  have q3:(rest*B+p) / d%4294967296=(rest*B+p) / d:=Nat.mod_eq_of_lt hqB
  have q4:IntKind.u64.wrap (((rest*B+p) / d:Nat):Int)=(((rest*B+p) / d:Nat):Int):=w64 Ya
  have hk1:j+1≤(lv os).length:=YK
  have hput:=ZbK (l:=os) (k:=j) Ya ((rest*B+p) / d)
  obtain ⟨w2,e9,hx2,hs2,z5,z6⟩:=put1 hxw j3 (.cells (lv (os.set j ((rest*B+p) / d))) 1)
  simp +decide only [go_sem,WR,WS,hsz,e1,e2,e4,e6,e7,e8,i3,i4,i5,g0,Zf4,hrB,Nat.mul_one,Nat.zero_add,Int.toNat_natCast,hg1,hc1,w64 (show p < 18446744073709551616 by omega),Zjo (show rest*4294967296 < 18446744073709551616 by omega) (show p < 18446744073709551616 by omega),hor,w64 (show d < 18446744073709551616 by omega),Zct hdne,ZbD hdne,q1,q2,q4,w32,q3,gb,List.length_cons,List.length_nil,j3,hk1,hput,e9]
  refine ZiV ?_ ?_
  ·simp +decide only [go_sem,WR,WS,hsz]
  simp +decide only [go_sem,WR,WS,hsz,e8,i3,i6]
  refine next (j,os.set j ((rest*B+p) / d),(rest*B+p)%d) _ _ ⟨by simp only;omega,Yb,hx2,by omega,(z6 _ Ya).trans g0,(z6 _ Ya).trans g1,z5,Yk,Ys,Yg,Ym,Yb,Yb,by simp [hol],hos.set (by rw [B_eq];exact hqB) _,Nat.mod_lt _ hd0,ZkI hp (by rw [B_eq];exact hpB) Ya hd0 hval⟩ Yj
theorem Zsh {m s lo:Nat} (h:lo < 2 ^ s):(lo ||| m*2 ^ s)=lo+m*2 ^ s:=by
 have:=Nat.two_pow_add_eq_or_of_lt (i:=s) (b:=lo) h m
 rw [Nat.or_comm,Nat.mul_comm m,← this,Nat.add_comm]
theorem Zn0 {X os:List Nat} {k p lo s:Nat} (hX:X[k]? =some p) (hlo:os[k]? =some lo) (h1:os[k+1]? =some 0) (hls:lo < 2 ^ s) (hs:s < 32) (hp:p < 4294967296) (hv:val os=val (X.take k)*2 ^ s) :
  (lo ||| (p*2 ^ s)%4294967296) < 4294967296∧(p*2 ^ s) / 4294967296 < 2 ^ s ∧
  val ((os.set k (lo ||| (p*2 ^ s)%4294967296)).set (k+1) (p*2 ^ s / 4294967296))=val (X.take (k+1))*2 ^ s:=by
 have e32:(4294967296:Nat)=2 ^ s*2 ^ (32 - s):=by rw [← Nat.pow_add,show s+(32 - s)=32 by omega]
 have hmod:(p*2 ^ s)%4294967296=p%2 ^ (32 - s)*2 ^ s:=by
  rw [e32,Nat.mul_comm p,Nat.mul_mod_mul_left,Nat.mul_comm]
 have hor:(lo ||| (p*2 ^ s)%4294967296)=lo+(p*2 ^ s)%4294967296:=by
  rw [hmod]
  exact Zsh hls
 have hlt:lo+(p*2 ^ s)%4294967296 < 4294967296:=by
  rw [hmod]
  have h2:p%2 ^ (32 - s) < 2 ^ (32 - s):=Nat.mod_lt _ (Nat.two_pow_pos _)
  have h3:(p%2 ^ (32 - s)+1)*2 ^ s≤2 ^ (32 - s)*2 ^ s:=Nat.mul_le_mul_right _ h2
  rw [Nat.add_mul,Nat.one_mul,← Nat.pow_add,show 32 - s+s=32 by omega] at h3
  omega
 refine ⟨by rw [hor];exact hlt,?_,?_⟩
 ·rw [Nat.div_lt_iff_lt_mul Ya,Nat.mul_comm (2 ^ s)]
  exact Nat.mul_lt_mul_of_pos_right hp (Nat.two_pow_pos _)
 ·rw [hor]
  have q1:=ZcB hlo (lo+(p*2 ^ s)%4294967296)
  have q2:=ZcB (l:=os.set k (lo+(p*2 ^ s)%4294967296)) (k:=k+1) (d:=0) (by rw [List.getElem?_set_ne Ya];exact h1) (p*2 ^ s / 4294967296)
  rw [Zao hX]
  have h4:(p*2 ^ s)%4294967296+B*(p*2 ^ s / 4294967296)=p*2 ^ s:=by
   rw [B_eq]
   exact Nat.mod_add_div _ _
  rw [Nat.pow_succ] at q2
  generalize (p*2 ^ s)%4294967296=r at *
  generalize p*2 ^ s / 4294967296=t at *
  grind
theorem ZlQ (x sh:Nat) (h:Heap) {v:Value} (hv:NatV h v x) (hsh:sh < 32) (hl:(dig x).length≤549755813887):Runs K 191 #[v,.int .i64 (sh:Int)] h fun r w=>NatV w r (x*2 ^ sh):=by
 obtain ⟨a,c,rfl,s⟩:=hv.open
 refine Runs.of Kok (Does.intro rfl Ye Tryz.func191 rfl ?_)
 obtain ⟨w0,e0,hx,hs,z0,z1⟩:=lay2 h (.cells [.slice a (dig x).length c] 1) (.cells [.slice none 0 0] 1)
 have keep:∃ w4,w0.set (h.size+1) (.cells [.slice a (dig x).length c] 1)=w4∧w4.get (h.size+1)= .cells [.slice a (dig x).length c] 1∧NatV w4 (.agg #[.slice a (dig x).length c]) x:=by
  obtain ⟨w4,e9,hx4,hs4,z8,z9⟩:=put1 hx (show h.size≤h.size+1 by omega) (.cells [.slice a (dig x).length c] 1)
  exact ⟨w4,e9,z8,hv.ext hx4⟩
 obtain ⟨w4,e9,z8,hv4⟩:=keep
 have j4:h.size≤h.size+1:=Ya
 by_cases h0:(sh:Int)≤0
 ·have:sh=0:=by omega
  subst this
  simp +decide only [go_sem,WR,WS,e0,z0,z1,h0,j4,e9,z8]
  simpa using hv4
 by_cases h1:(((dig x).length:Nat):Int)=0
 ·have hx0:x=0:=ZdL.1 (List.length_eq_zero_iff.1 Ya)
  simp +decide only [go_sem,WR,WS,e0,z0,z1,h0,h1,j4,e9,z8]
  rw [hx0] at hv4 ⊢
  simpa using hv4
 have d1:((sh:Int)).tdiv 32=0:=by
  rw [Int.tdiv_eq_ediv_of_nonneg Ya]
  omega
 have d2:((sh:Int)).tmod 32=(sh:Int):=by
  rw [Int.tmod_eq_emod_of_nonneg Ya]
  omega
 have d3:IntKind.i64.wrap 0=0:=wrap_i64 Ya Ya
 have d4:IntKind.u64.wrap (sh:Int)=(sh:Int):=w64 Ya
 have d5:IntKind.i64.wrap ((((dig x).length:Nat):Int)+0)=(((dig x).length:Nat):Int):=by rw [Int.add_zero];exact wrap_i64 Ya Ya
 have i1:IntKind.i64.wrap ((((dig x).length:Nat):Int)+1)=(((dig x).length+1:Nat):Int):=Yd
 have m1:=mk_zero (sz:=w0.size) (N:=(dig x).length+1) Ya
 obtain ⟨w1,e1,hx1,hs1,z3⟩:=lay1 w0 (.cells (lv (List.replicate ((dig x).length+1) 0)) 1)
 have zz0:w1.get h.size=_:=(hx1.2 _ Ya).trans z0
 have zz1:w1.get (h.size+1)=_:=(hx1.2 _ Ya).trans z1
 have zz3:w1.get (h.size+2)=_:=(show w1.get (h.size+2)=w1.get w0.size by rw [hs]).trans z3
 simp +decide only [go_sem,WR,WS,e0,z0,z1,h0,h1,d1,d2,d3,d4,d5,i1,m1,e1,zz0]
 have j3:h.size≤h.size+2:=Ya
 refine Zah (α:=Nat × List Nat × Nat) (fun k e w=>k.1≤(dig x).length∧e.size=66∧Ext h w∧w.size=h.size+3∧w.get (h.size+1)= .cells [.slice none 0 0] 1∧w.get (h.size+2)= .cells (lv k.2.1) 1 ∧
  e.get 4= .pointer (some ⟨h.size+1,0,none⟩)∧e.get 5= .int .i64 0∧e.get 6= .int .u64 (sh:Int)∧e.get 7= .slice (some ⟨h.size+2,0,none⟩) ((dig x).length+1) ((dig x).length+1)∧e.get 33= .slice a (dig x).length c∧e.get 34= .int .i64 (((dig x).length:Nat):Int)∧e.get 35= .int .i64 (k.1:Int) ∧
  k.2.1.length=(dig x).length+1∧Small k.2.1∧k.2.1[k.1]? =some k.2.2∧k.2.2 < 2 ^ sh∧(∀ j,k.1+1≤j→j≤(dig x).length→k.2.1[j]? =some 0)∧val k.2.1=val ((dig x).take k.1)*2 ^ sh) (fun k=>(dig x).length - k.1) (0,List.replicate ((dig x).length+1) 0,0) ?_ ?_
 ·refine ⟨Nat.zero_le _,Yc,hx.trans hx1,by omega,zz1,zz3,Yc,Yc,Yc,YR,Yc,Yc,by simp +decide only [go_sem];rfl,by simp,Small.replicate _,?_,Nat.two_pow_pos _,?_,by simp [Zbs,ZaQ]⟩
  ·simp only
   rw [List.getElem?_replicate,if_pos Ya]
  ·intro j hj1 hj2
   simp only
   rw [List.getElem?_replicate,if_pos Ya]
 ·rintro ⟨k,os,lo⟩ e w ⟨hk,hsz,hxw,hws,g1,gb,e4,e5,e6,e7,e33,e34,e35,hol,hos,hlo,hls,hz,hval⟩ next
  simp only at hk gb e35 hol hos hlo hls hz hval
  by_cases hkn:(k:Int) < (((dig x).length:Nat):Int)
  case neg =>
   have hkk:k=(dig x).length:=Ya
   subst hkk
   rw [List.take_of_length_le (Nat.le_refl _),ZaL] at hval
   simp +decide only [go_sem,WR,WS,hsz,e4,e5,e6,e7,e33,e34,e35,hkn]
   refine Zaa Kok Ya (ZaI os w (Sl.made Ya gb YK YC) hos Ya) fun v w3 hx3 hv=> ?_
   rw [hval] at hv
   obtain ⟨a3,c3,rfl,s3⟩:=hv.open
   have z7:w3.get (h.size+1)= .cells [.slice none 0 0] 1:=(hx3.2 _ Ya).trans g1
   have hz1:=hx3.1
   obtain ⟨w4,e9,hx4,hs4,z8,z9⟩:=put1 (hxw.trans hx3) (show h.size≤h.size+1 by omega) (.cells [.slice a3 (dig (x*2 ^ sh)).length c3] 1)
   simp +decide only [go_sem,WR,WS,hsz,e4,z7,j4,e9,z8]
   exact hv.over z7 Yn Yn hs4 z8 z9
  have hkn':k < (dig x).length:=Ya
  obtain ⟨p,hp⟩:∃ p,(dig x)[k]? =some p:=⟨_,List.getElem?_eq_getElem hkn'⟩
  obtain ⟨b1,o1,cs1,rfl,hb1,hg1,hc1⟩:=(s.ext hxw).one (Za0 hp)
  have hpB:p < 4294967296:=Zap x p (List.mem_of_getElem? hp)
  obtain ⟨t1,t2,t3⟩:=Zn0 hp hlo (hz (k+1) Ya Ya) hls hsh hpB hval
  have hloB:lo < 4294967296:=hos.get hlo
  have i3:(0:Int)≤(k:Int):=Ya
  have i5:(k:Int) < (((dig x).length+1:Nat):Int):=Ya
  have i6:IntKind.i64.wrap ((k:Int)+0)=(k:Int):=by rw [Int.add_zero];exact wrap_i64 Ya Ya
  have i7:IntKind.i64.wrap ((k:Int)+1)=((k+1:Nat):Int):=Yd
  have i8:(0:Int)≤((k+1:Nat):Int):=Ya
  have i9:((k+1:Nat):Int) < (((dig x).length+1:Nat):Int):=Ya
  have hps:p*2 ^ sh < 18446744073709551616:=by
   have h1:p*2 ^ sh≤4294967295*2 ^ sh:=Nat.mul_le_mul_right _ Ya
   have h2:2 ^ sh≤2 ^ 31:=Nat.pow_le_pow_right Ya Ya
   omega
  have q1:p*2 ^ sh%18446744073709551616=p*2 ^ sh:=Nat.mod_eq_of_lt hps
  have q2:p*2 ^ sh / 4294967296%4294967296=p*2 ^ sh / 4294967296:=Nat.mod_eq_of_lt Ya
  have hk1:k+1≤(lv os).length:=YK
  have hget:(lv os)[k]? =some (.int .u32 (lo:Int)):=Za0 hlo
  have hput:=ZbK (l:=os) (k:=k) Ya (lo ||| (p*2 ^ sh)%4294967296)
  obtain ⟨w2,e9,hx2,hs2,z5,z6⟩:=put1 hxw j3 (.cells (lv (os.set k (lo ||| (p*2 ^ sh)%4294967296))) 1)
  have hk2:k+1+1≤(lv (os.set k (lo ||| (p*2 ^ sh)%4294967296))).length:=by rw [Zan,List.length_set];omega
  have hput2:=ZbK (l:=os.set k (lo ||| (p*2 ^ sh)%4294967296)) (k:=k+1) (by rw [List.length_set];omega) (p*2 ^ sh / 4294967296)
  obtain ⟨w3,e10,hx3,hs3,z7,z8⟩:=put1 hx2 j3 (.cells (lv ((os.set k (lo ||| (p*2 ^ sh)%4294967296)).set (k+1) (p*2 ^ sh / 4294967296))) 1)
  simp +decide only [go_sem,WR,WS,hsz,e4,e5,e6,e7,e33,e34,e35,hkn,i3,i5,i6,Nat.mul_one,Nat.zero_add,Int.toNat_natCast,hg1,hc1,w64 (show p < 18446744073709551616 by omega),ishl (show sh≤64 by omega),q1,w32,gb,hget,ZsA hloB (Nat.mod_lt (p*2 ^ sh) (show 0 < 4294967296 by omega)),List.length_cons,List.length_nil,j3,hk1,hput,e9,i7,i8,i9,Zio,q2,z5,hk2,hput2,e10]
  refine next (k+1,(os.set k (lo ||| (p*2 ^ sh)%4294967296)).set (k+1) (p*2 ^ sh / 4294967296),p*2 ^ sh / 4294967296) _ _ ⟨by simp only;omega,Yb,hx3,by omega,(z8 _ Ya).trans ((z6 _ Ya).trans g1),z7,Yg,Yo,Ym,Yi,by simp +decide only [go_sem,hsz,e33],by simp +decide only [go_sem,hsz,e34],Yb,by simp [hol],(hos.set t1 _).set YL _,?_,t2,?_,t3⟩ Yj
  ·simp only
   rw [List.getElem?_set_self (by rw [List.length_set];omega)]
  ·intro j hj1 hj2
   simp only at hj1 ⊢
   rw [List.getElem?_set_ne Ya,List.getElem?_set_ne Ya]
   exact hz j Ya hj2
end Go.Proofs.YtachkofbmodnnaaGreat.N4
