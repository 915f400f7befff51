/- Proved here: parts of the way to BEditBack (BN5 BN6 BN7 BN8); no condition beyond those that each theorem names. -/
import Derived.Test.YtachkofbmodnnaaGreatG8
set_option linter.unusedSimpArgs false
set_option linter.unusedVariables false
namespace Go.Proofs.YtachkofbmodnnaaGreat.N5
open Go Go.Im Go.Im.Limbs Go.Proofs Go.RowKit Hd N1 N2 N3 N4
set_option maxRecDepth 100000
theorem ZjT {X os:List Nat} {k p q o s r:Nat} (hX:X[k]? =some p) (ho:os[k]? =some o) (hs:s < 32) (hp:p < 4294967296) (hv:val (os.take k)*2 ^ s+r=val (X.take k)+p%2 ^ s*B ^ k) :
  val ((os.set k ((p+q*4294967296) / 2 ^ s%4294967296)).take (k+1))*2 ^ s+r=val (X.take (k+1))+q%2 ^ s*B ^ (k+1):=by
 have hk:=(List.getElem?_eq_some_iff.1 ho).1
 have e32:(4294967296:Nat)=2 ^ s*2 ^ (32 - s):=by rw [← Nat.pow_add,show s+(32 - s)=32 by omega]
 have hs0:0 < 2 ^ s:=Nat.two_pow_pos _
 have hd:(p+q*4294967296) / 2 ^ s=p / 2 ^ s+q*2 ^ (32 - s):=by
  rw [show q*4294967296=2 ^ s*(q*2 ^ (32 - s)) by rw [e32,Nat.mul_left_comm],Nat.add_mul_div_left _ _ hs0]
 have hps:p / 2 ^ s < 2 ^ (32 - s):=by
  rw [Nat.div_lt_iff_lt_mul hs0,Nat.mul_comm,← e32]
  exact hp
 have hm:(p / 2 ^ s+q*2 ^ (32 - s))%4294967296=p / 2 ^ s+q%2 ^ s*2 ^ (32 - s):=by
  have h1:p / 2 ^ s+q*2 ^ (32 - s)=p / 2 ^ s+q%2 ^ s*2 ^ (32 - s)+4294967296*(q / 2 ^ s):=by
   have h2:=Nat.div_add_mod q (2 ^ s)
   rw [e32]
   generalize q / 2 ^ s=u at *
   generalize q%2 ^ s=t at *
   generalize 2 ^ (32 - s)=g at *
   grind
  rw [h1,Nat.add_mul_mod_self_left]
  apply Nat.mod_eq_of_lt
  have h3:(q%2 ^ s+1)*2 ^ (32 - s)≤2 ^ s*2 ^ (32 - s):=Nat.mul_le_mul_right _ (Nat.mod_lt _ hs0)
  rw [← e32,Nat.add_mul,Nat.one_mul] at h3
  omega
 rw [hd,hm,List.take_add_one,List.getElem?_set_self hk,Option.toList_some,List.take_set_of_le (Nat.le_refl _),val_append,Zao hX]
 have hl:(os.take k).length=k:=by rw [List.length_take];omega
 rw [hl]
 simp only [ZaE,ZaQ,Nat.mul_zero,Nat.add_zero,Nat.pow_succ]
 have h5:=Nat.div_add_mod p (2 ^ s)
 have e32':2 ^ s*2 ^ (32 - s)=B:=by rw [B_eq,← e32]
 generalize p / 2 ^ s=u at *
 generalize p%2 ^ s=t at *
 generalize q%2 ^ s=y at *
 generalize 2 ^ (32 - s)=g at *
 generalize 2 ^ s=f at *
 generalize B ^ k=b at *
 grind
theorem ZpY (x sh:Nat) (h:Heap) {v:Value} (hv:NatV h v x) (hsh:sh < 32) (hl:(dig x).length≤549755813887):Runs K 194 #[v,.int .i64 (sh:Int)] h fun r w=>NatV w r (x / 2 ^ sh):=by
 obtain ⟨a,c,rfl,s⟩:=hv.open
 refine Runs.of Kok (Does.intro rfl Ye Tryz.func194 rfl ?_)
 obtain ⟨w0,e0,hx,hs,z0,z1⟩:=lay2 h (.cells [.slice a (dig x).length c] 1) (.cells [.slice none 0 0] 1)
 have j4:h.size≤h.size+1:=Ya
 by_cases h0:(sh:Int)≤0
 ·have:sh=0:=by omega
  subst this
  obtain ⟨w4,e9,hx4,hs4,z8,z9⟩:=put1 hx (show h.size≤h.size+1 by omega) (.cells [.slice a (dig x).length c] 1)
  simp +decide only [go_sem,WR,WS,e0,z0,z1,h0,j4,e9,z8]
  simpa using hv.ext hx4
 have d1:((sh:Int)).tdiv 32=0:=by
  rw [Int.tdiv_eq_ediv_of_nonneg Ya]
  omega
 have d2:((sh:Int)).tmod 32=(sh:Int):=by
  rw [Int.tmod_eq_emod_of_nonneg Ya]
  omega
 have d3:IntKind.i64.wrap 0=0:=wrap_i64 Ya Ya
 have d4:IntKind.u64.wrap (sh:Int)=(sh:Int):=w64 Ya
 by_cases h1:(((dig x).length:Nat):Int)≤0
 ·have hx0:x=0:=ZdL.1 (List.length_eq_zero_iff.1 Ya)
  obtain ⟨w4,e9,hx4,hs4,z8,z9⟩:=put1 hx (show h.size≤h.size+1 by omega) (.cells [.slice none 0 0] 1)
  simp +decide only [go_sem,WR,WS,e0,z0,z1,h0,h1,d1,d2,d3,d4,j4,e9,z8]
  rw [hx0,Nat.zero_div]
  exact ⟨none,0,0,rfl,by rw [ZaU];exact Sl.nil _ _⟩
 have d5:IntKind.i64.wrap ((((dig x).length:Nat):Int) - 0)=(((dig x).length:Nat):Int):=by rw [Int.sub_zero];exact wrap_i64 Ya Ya
 have m1:=mk_zero (sz:=w0.size) (N:=(dig x).length) Ya
 obtain ⟨w1,e1,hx1,hs1,z3⟩:=lay1 w0 (.cells (lv (List.replicate (dig x).length 0)) 1)
 have zz0:w1.get h.size=_:=(hx1.2 _ Ya).trans z0
 have zz1:w1.get (h.size+1)=_:=(hx1.2 _ Ya).trans z1
 have zz3:w1.get (h.size+2)=_:=(show w1.get (h.size+2)=w1.get w0.size by rw [hs]).trans z3
 simp +decide only [go_sem,WR,WS,e0,z0,z1,h0,h1,d1,d2,d3,d4,d5,m1,e1,zz0]
 have j3:h.size≤h.size+2:=Ya
 obtain ⟨X0,hX0⟩:∃ X0,(dig x)[0]? =some X0:=⟨_,List.getElem?_eq_getElem Ya⟩
 refine Zah (α:=Nat × List Nat) (fun k e w=>k.1≤(dig x).length∧e.size=73∧Ext h w∧w.size=h.size+3∧w.get h.size= .cells [.slice a (dig x).length c] 1∧w.get (h.size+1)= .cells [.slice none 0 0] 1∧w.get (h.size+2)= .cells (lv k.2) 1 ∧
  e.get 2= .pointer (some ⟨h.size,0,none⟩)∧e.get 4= .pointer (some ⟨h.size+1,0,none⟩)∧e.get 5= .int .i64 0∧e.get 6= .int .u64 (sh:Int)∧e.get 7= .slice (some ⟨h.size+2,0,none⟩) (dig x).length (dig x).length∧e.get 31= .int .i64 (((dig x).length:Nat):Int)∧e.get 32= .int .i64 (k.1:Int) ∧
  k.2.length=(dig x).length∧Small k.2∧val (k.2.take k.1)*2 ^ sh+X0%2 ^ sh=val ((dig x).take k.1)+((dig x)[k.1]?).getD 0%2 ^ sh*B ^ k.1) (fun k=>(dig x).length - k.1) (0,List.replicate (dig x).length 0) ?_ ?_
 ·refine ⟨Nat.zero_le _,Yc,hx.trans hx1,by omega,zz0,zz1,zz3,Yc,Yc,Yc,Yc,YR,Yc,by simp +decide only [go_sem];rfl,by simp,Small.replicate _,?_⟩
  simp only
  rw [hX0]
  simp [ZaQ]
 ·rintro ⟨k,os⟩ e w ⟨hk,hsz,hxw,hws,g0,g1,gb,e2,e4,e5,e6,e7,e31,e32,hol,hos,hval⟩ next
  simp only at hk gb e32 hol hos hval
  by_cases hkn:(k:Int) < (((dig x).length:Nat):Int)
  case neg =>
   have hkk:k=(dig x).length:=Ya
   subst hkk
   rw [List.take_of_length_le (Nat.le_refl _),List.take_of_length_le Ya,ZaL,List.getElem?_eq_none (Nat.le_refl _)] at hval
   simp +decide only [go_sem,WR,WS,hsz,e2,e4,e5,e6,e7,e31,e32,hkn]
   refine Zaa Kok Ya (ZaI os w (Sl.made Ya gb YK YC) hos Ya) fun v w3 hx3 hv=> ?_
   have hq:val os=x / 2 ^ sh:=by
    have hlt:X0%2 ^ sh < 2 ^ sh:=Nat.mod_lt _ (Nat.two_pow_pos _)
    simp only [Option.getD_none,Nat.zero_mod,Nat.zero_mul,Nat.add_zero] at hval
    rw [← hval,Nat.add_comm,Nat.add_mul_div_right _ _ (Nat.two_pow_pos _),Nat.div_eq_of_lt hlt,Nat.zero_add]
   rw [hq] at hv
   obtain ⟨a3,c3,rfl,s3⟩:=hv.open
   have z7:w3.get (h.size+1)= .cells [.slice none 0 0] 1:=(hx3.2 _ Ya).trans g1
   have hz1:=hx3.1
   obtain ⟨w4,e9,hx4,hs4,z8,z9⟩:=put1 (hxw.trans hx3) (show h.size≤h.size+1 by omega) (.cells [.slice a3 (dig (x / 2 ^ sh)).length c3] 1)
   simp +decide only [go_sem,WR,WS,hsz,e4,z7,j4,e9,z8]
   exact hv.over z7 Yn Yn hs4 z8 z9
  have hkn':k < (dig x).length:=Ya
  obtain ⟨p,hp⟩:∃ p,(dig x)[k]? =some p:=⟨_,List.getElem?_eq_getElem hkn'⟩
  obtain ⟨o,ho⟩:∃ o,os[k]? =some o:=⟨_,List.getElem?_eq_getElem Ya⟩
  obtain ⟨b1,o1,cs1,rfl,hb1,hg1,hc1⟩:=(s.ext hxw).one (Za0 hp)
  have hpB:p < 4294967296:=Zap x p (List.mem_of_getElem? hp)
  rw [hp,Option.getD_some] at hval
  have i3:(0:Int)≤(k:Int):=Ya
  have i6:IntKind.i64.wrap ((k:Int)+0)=(k:Int):=by rw [Int.add_zero];exact wrap_i64 Ya Ya
  have i7:IntKind.i64.wrap ((k:Int)+1)=((k+1:Nat):Int):=Yd
  have i8:(0:Int)≤((k+1:Nat):Int):=Ya
  have hk1:k+1≤(lv os).length:=YK
  by_cases hn:((k+1:Nat):Int) < (((dig x).length:Nat):Int)
  ·obtain ⟨q,hq⟩:∃ q,(dig x)[k+1]? =some q:=⟨_,List.getElem?_eq_getElem Ya⟩
   have hqB:q < 4294967296:=Zap x q (List.mem_of_getElem? hq)
   obtain ⟨b2,o2,cs2,hbb,hb2,hg2,hc2⟩:=(s.ext hxw).one (Za0 hq)
   cases hbb
   rw [hg1] at hg2
   cases hg2
   have hst:=ZjT (q:=q) hp ho hsh hpB hval
   have q0:q*4294967296%18446744073709551616=q*4294967296:=Nat.mod_eq_of_lt Ya
   have q1:(p ||| q*4294967296)=p+q*4294967296:=by rw [Nat.or_comm,Zh8 hpB,Nat.add_comm]
   have q3:(p+q*4294967296) / 2 ^ sh%4294967296 < B:=by rw [B_eq];exact Nat.mod_lt _ Ya
   have hput:=ZbK (l:=os) (k:=k) Ya ((p+q*4294967296) / 2 ^ sh%4294967296)
   obtain ⟨w2,e9,hx2,hs2,z5,z6⟩:=put1 hxw j3 (.cells (lv (os.set k ((p+q*4294967296) / 2 ^ sh%4294967296))) 1)
   simp +decide only [go_sem,WR,WS,hsz,e2,e4,e5,e6,e7,e31,e32,hkn,g0,i3,i6,i7,i8,hn,Nat.mul_one,Nat.zero_add,Int.toNat_natCast,hg1,hc1,hc2,w64 (show p < 18446744073709551616 by omega),w64 (show q < 18446744073709551616 by omega),Zf4,q0,Zjo (show p < 18446744073709551616 by omega) (show q*4294967296 < 18446744073709551616 by omega),q1,ishr (show sh≤64 by omega),w32,gb,List.length_cons,List.length_nil,j3,hk1,hput,e9]
   refine next (k+1,os.set k ((p+q*4294967296) / 2 ^ sh%4294967296)) _ _ ⟨by simp only;omega,Yb,hx2,by omega,(z6 _ Ya).trans g0,(z6 _ Ya).trans g1,z5,Ys,Yg,Yo,Ym,Yi,by simp +decide only [go_sem,hsz,e31],Yb,by simp [hol],hos.set q3 _,?_⟩ Yj
   simp only
   rw [hq,Option.getD_some]
   exact hst
  ·have hst:=ZjT (q:=0) hp ho hsh hpB hval
   rw [Nat.zero_mul,Nat.add_zero] at hst
   have q3:p / 2 ^ sh%4294967296 < B:=by rw [B_eq];exact Nat.mod_lt _ Ya
   have hput:=ZbK (l:=os) (k:=k) Ya (p / 2 ^ sh%4294967296)
   obtain ⟨w2,e9,hx2,hs2,z5,z6⟩:=put1 hxw j3 (.cells (lv (os.set k (p / 2 ^ sh%4294967296))) 1)
   simp +decide only [go_sem,WR,WS,hsz,e2,e4,e5,e6,e7,e31,e32,hkn,g0,i3,i6,i7,i8,hn,Nat.mul_one,Nat.zero_add,Int.toNat_natCast,hg1,hc1,w64 (show p < 18446744073709551616 by omega),ishr (show sh≤64 by omega),w32,gb,List.length_cons,List.length_nil,j3,hk1,hput,e9]
   refine next (k+1,os.set k (p / 2 ^ sh%4294967296)) _ _ ⟨by simp only;omega,Yb,hx2,by omega,(z6 _ Ya).trans g0,(z6 _ Ya).trans g1,z5,Ys,Yg,Yo,Ym,Yi,by simp +decide only [go_sem,hsz,e31],Yb,by simp [hol],hos.set q3 _,?_⟩ Yj
   simp only
   rw [List.getElem?_eq_none Ya]
   exact hst
end Go.Proofs.YtachkofbmodnnaaGreat.N5
namespace Go.Proofs.YtachkofbmodnnaaGreat.N6
open Go Go.Im Go.Im.Limbs Go.Proofs Go.RowKit Hd N1 N2 N3 N4 N5
set_option maxRecDepth 100000
def But (b:Nat) (h w:Heap):Prop:=h.size≤w.size∧∀ q,q < h.size→q≠b→w.get q=h.get q
theorem But.refl (b:Nat) (h:Heap):But b h h:=⟨Nat.le_refl _,fun _ _ _=>rfl⟩
theorem But.ext {b:Nat} {h w w':Heap} (k:But b h w) (x:Ext w w'):But b h w':=⟨Nat.le_trans k.1 x.1,fun q h1 h2=>(x.2 q (by have:=k.1;omega)).trans (k.2 q h1 h2)⟩
theorem But.set {b:Nat} {h w:Heap} (k:But b h w) (x:Blk):But b h (w.set b x):=⟨k.1,fun q h1 h2=>by rw [Heap.Zae,if_neg h2];exact k.2 q h1 h2⟩
def SlX (b:Nat) (h:Heap) (size:Nat) (a:Option Addr) (n c:Nat) (xs:List Value):Prop:=∀ w,But b h w→Sl w size a n c xs
theorem Zmq {α:Type} {pre seg post:List α} {i:Nat} (h:i < seg.length):(pre++seg++post)[pre.length+i]? =seg[i]? :=by
 rw [List.append_assoc,List.getElem?_append_right Ya,Nat.add_sub_cancel_left,List.getElem?_append_left h]
theorem Zhh {α:Type} {pre seg post:List α} {i:Nat} (h:i < seg.length) (v:α):(pre++seg++post).set (pre.length+i) v=pre++seg.set i v++post:=by
 rw [List.append_assoc,List.append_assoc,List.set_append_right _ _ Ya,Nat.add_sub_cancel_left,List.set_append_left _ _ h]
theorem take_set {l:List Nat} {k:Nat} (h:k < l.length) (d:Nat):val ((l.set k d).take (k+1))=val (l.take k)+d*B ^ k:=by
 have:=Zao (l:=l.set k d) (k:=k) (d:=d) (by rw [List.getElem?_set_self h])
 rw [this,List.take_set_of_le (Nat.le_refl _)]
theorem drop_set {l:List Nat} {k:Nat} (d:Nat):(l.set k d).drop (k+1)=l.drop (k+1):=by
 rw [List.drop_set_of_lt Ya]
theorem ZkD {vs seg seg':List Nat} {k g p s cy bw:Nat} (hp:vs[k]? =some p) (hs:seg[k]? =some s) (hk:k < seg'.length) (hsB:s < 4294967296) (hbw:bw≤1)
  (hv:val (seg'.take k)+g*val (vs.take k)=val (seg.take k)+(cy+bw)*B ^ k) :
  val ((seg'.set k ((s+8589934592 - (g*p+cy)%4294967296 - bw)%4294967296)).take (k+1))+g*val (vs.take (k+1)) =
   val (seg.take (k+1))+((g*p+cy) / 4294967296+(if s < (g*p+cy)%4294967296+bw then 1 else 0))*B ^ (k+1):=by
 rw [take_set hk,Zao hp,Zao hs,Nat.pow_succ]
 have h4:(g*p+cy)%4294967296+B*((g*p+cy) / 4294967296)=g*p+cy:=by
  rw [B_eq]
  exact Nat.mod_add_div _ _
 have hlo:(g*p+cy)%4294967296 < 4294967296:=Nat.mod_lt _ Ya
 generalize (g*p+cy) / 4294967296=t at *
 generalize (g*p+cy)%4294967296=lo at *
 have h5:(s+8589934592 - lo - bw)%4294967296+lo+bw=s+(if s < lo+bw then 1 else 0)*B:=by
  rw [B_eq]
  split<;>omega
 generalize (s+8589934592 - lo - bw)%4294967296=d at *
 generalize (if s < lo+bw then 1 else 0)=z at *
 grind
theorem Zci (pre seg post vs:List Nat) (g b n cu:Nat) (h:Heap) {low:Nat} {va:Option Addr} {cv:Nat} (hb:b < h.size) (hlow:low≤b) (hg:h.get b= .cells (lv (pre++seg++post)) 1) (hseg:seg.length=n+1) (hsm:Small seg)
  (hvl:vs.length=n) (hvs:Small vs) (sv:SlX b h 1 va n cv (lv vs)) (hg4:g≤4294967296) (hn:n≤549755813887) (hpre:pre.length≤549755813887) :
  Does K low 192 #[.slice (some ⟨b,pre.length,none⟩) (n+1) cu,.slice va n cv,.int .u64 (g:Int)] h fun r w=>∃ seg' bw,r= .bool (decide (bw=1))∧bw≤1∧seg'.length=n+1∧Small seg'∧But b h w∧w.get b= .cells (lv (pre++seg'++post)) 1 ∧
   val seg'+g*val vs=val seg+bw*B ^ (n+1):=by
 refine Does.intro rfl Ye Tryz.func192 rfl ?_
 simp +decide only [go_sem,WR,WS]
 refine Zah (α:=Nat × List Nat × Nat × Nat) (fun k e w=>k.1≤n∧e.size=60∧But b h w∧w.get b= .cells (lv (pre++k.2.1++post)) 1∧e.get 0= .slice (some ⟨b,pre.length,none⟩) (n+1) cu∧e.get 1= .slice va n cv∧e.get 2= .int .u64 (g:Int) ∧
  e.get 7= .int .u64 (k.2.2.1:Int)∧e.get 8= .int .u32 (k.2.2.2:Int)∧e.get 12= .slice va n cv∧e.get 13= .int .i64 (n:Int)∧e.get 14= .int .i64 (k.1:Int) ∧
  k.2.1.length=n+1∧Small k.2.1∧k.2.2.1 < 4294967296∧k.2.2.2≤1∧k.2.1.drop k.1=seg.drop k.1∧val (k.2.1.take k.1)+g*val (vs.take k.1)=val (seg.take k.1)+(k.2.2.1+k.2.2.2)*B ^ k.1) (fun k=>n - k.1) (0,seg,0,0) ?_ ?_
 ·refine ⟨Nat.zero_le _,Yc,But.refl _ _,hg,Yc,Yc,Yc,by simp +decide only [go_sem];rfl,by simp +decide only [go_sem];rfl,Yc,Yc,by simp +decide only [go_sem];rfl,hseg,hsm,by simp only;omega,by simp only;omega,rfl,by simp [ZaQ]⟩
 ·rintro ⟨k,seg',cy,bw⟩ e w ⟨hk,hsz,hbut,hgw,e0,e1,e2,e7,e8,e12,e13,e14,hl',hsm',hcy,hbw,hdr,hval⟩ next
  simp only at hk hgw e7 e8 e14 hl' hsm' hcy hbw hdr hval
  have hsame:∀ i,k≤i→seg'[i]? =seg[i]? :=by
   intro i hi
   have h1:(seg'.drop k)[i - k]? =(seg.drop k)[i - k]? :=by rw [hdr]
   rw [List.getElem?_drop,List.getElem?_drop,show k+(i - k)=i by omega] at h1
   exact h1
  have hlowsz:low≤w.size:=by have:=hbut.1;omega
  obtain ⟨s,hs⟩:∃ s,seg[k]? =some s:=⟨_,List.getElem?_eq_getElem Ya⟩
  have hsB:s < 4294967296:=hsm.get hs
  have hs':seg'[k]? =some s:=(hsame k (Nat.le_refl _)).trans hs
  have hget:∀ w2:Heap,w2.get b= .cells (lv (pre++seg'++post)) 1→(lv (pre++seg'++post))[pre.length+k]? =some (.int .u32 (s:Int)):=fun _ _=>Za0 (by rw [Zmq Ya];exact hs')
  have hget:=hget w hgw
  have hlen:pre.length+k+1≤(lv (pre++seg'++post)).length:=by rw [Zan];simp;omega
  have i3:(0:Int)≤(k:Int):=Ya
  have i4:(k:Int) < ((n+1:Nat):Int):=Ya
  have i5:IntKind.i64.wrap ((k:Int)+1)=((k+1:Nat):Int):=Yd
  by_cases hkn:(k:Int) < (n:Int)
  case neg =>
   have hkk:k=n:=Ya
   subst hkk
   have c1:cy%4294967296=cy:=Nat.mod_eq_of_lt hcy
   simp +decide only [go_sem,WR,WS,hsz,e0,e1,e2,e7,e8,e12,e13,e14,hkn,i3,i4,Nat.mul_one,Int.toNat_natCast,hgw,hget,w32,c1]
   refine Zaa Kok hlowsz (ZhS s cy bw w hsB hcy hbw) fun v w2 hx2 hv=> ?_
   subst hv
   have hgw2:w2.get b=_:=(hx2.2 b (by have:=hbut.1;omega)).trans hgw
   have hput:=ZbK (l:=pre++seg'++post) (k:=pre.length+k) Yl ((s+8589934592 - cy - bw)%4294967296)
   rw [Zhh Ya] at hput
   simp +decide only [go_sem,WR,WS,hsz,e0,e1,e2,e7,e8,e12,e13,e14,i3,i4,Nat.mul_one,Int.toNat_natCast,hgw2,List.length_cons,List.length_nil,hlow,hlen,hput]
   refine ⟨seg'.set k ((s+8589934592 - cy - bw)%4294967296),if s < cy+bw then 1 else 0,?_,by split<;>omega,by simp [hl'],hsm'.set (by rw [B_eq];exact Nat.mod_lt _ Ya) _,(hbut.ext hx2).set _,by first | rfl | rw [Heap.Zae,if_pos rfl],?_⟩
   ·congr 1
    rw [decide_eq_decide]
    split<;>omega
   ·have q1:=ZcB hs' ((s+8589934592 - cy - bw)%4294967296)
    have q2:val seg'=val (seg'.take k)+s*B ^ k:=by
     rw [← Zao hs',List.take_of_length_le Ya]
    have q3:val seg=val (seg.take k)+s*B ^ k:=by
     rw [← Zao hs,List.take_of_length_le Ya]
    rw [List.take_of_length_le (Nat.le_of_eq hvl)] at hval
    have h5:(s+8589934592 - cy - bw)%4294967296+cy+bw=s+(if s < cy+bw then 1 else 0)*B:=by
     rw [B_eq]
     split<;>omega
    rw [Nat.pow_succ]
    generalize (s+8589934592 - cy - bw)%4294967296=d at *
    generalize (if s < cy+bw then 1 else 0)=z at *
    grind
  have hkn':k < n:=Ya
  obtain ⟨p,hp⟩:∃ p,vs[k]? =some p:=⟨_,List.getElem?_eq_getElem Ya⟩
  have hpB:p < 4294967296:=hvs.get hp
  obtain ⟨b1,o1,cs1,rfl,hb1,hg1,hc1⟩:=(sv w hbut).one (Za0 hp)
  have hgp:g*p+cy < 18446744073709551616:=by
   have:g*p≤4294967296*4294967295:=Nat.mul_le_mul hg4 Ya
   omega
  have hst:=ZkD (bw:=bw) hp hs Ya hsB hbw hval
  have hlo:(g*p+cy)%4294967296 < 4294967296:=Nat.mod_lt _ Ya
  simp +decide only [go_sem,WR,WS,hsz,e0,e1,e2,e7,e8,e12,e13,e14,hkn,i3,i4,Nat.mul_one,Int.toNat_natCast,hg1,hc1,w64 (show p < 18446744073709551616 by omega),wmul (show g*p < 18446744073709551616 by omega),wadd hgp,Zio,hgw,hget,w32]
  refine Zaa Kok hlowsz (ZhS s ((g*p+cy)%4294967296) bw w hsB hlo hbw) fun v w2 hx2 hv=> ?_
  subst hv
  have hgw2:w2.get b=_:=(hx2.2 b (by have:=hbut.1;omega)).trans hgw
  have hput:=ZbK (l:=pre++seg'++post) (k:=pre.length+k) Yl ((s+8589934592 - (g*p+cy)%4294967296 - bw)%4294967296)
  rw [Zhh Ya] at hput
  simp +decide only [go_sem,WR,WS,hsz,e0,e1,e2,e7,e8,e12,e13,e14,i3,i4,Nat.mul_one,Int.toNat_natCast,hgw2,List.length_cons,List.length_nil,hlow,hlen,hput,i5]
  refine next (k+1,seg'.set k ((s+8589934592 - (g*p+cy)%4294967296 - bw)%4294967296),(g*p+cy) / 4294967296,if s < (g*p+cy)%4294967296+bw then 1 else 0) _ _ ⟨by simp only;omega,Yb,(hbut.ext hx2).set _,by rw [Heap.Zae,if_pos rfl],Yf,Yk,Ys,Yb,Yb,Yy,Yw,Yb,by simp [hl'],hsm'.set (by rw [B_eq];exact Nat.mod_lt _ Ya) _,by simp only;omega,by simp only;split<;>omega,?_,hst⟩ Yj
  simp only
  rw [drop_set]
  have:=congrArg (List.drop 1) hdr
  rw [List.drop_drop,List.drop_drop] at this
  exact this
theorem Zny {vs seg seg':List Nat} {k p s cy:Nat} (hp:vs[k]? =some p) (hs:seg[k]? =some s) (hk:k < seg'.length)
  (hv:val (seg'.take k)+cy*B ^ k=val (seg.take k)+val (vs.take k)) :
  val ((seg'.set k ((s+p+cy)%4294967296)).take (k+1))+(s+p+cy) / 4294967296*B ^ (k+1)=val (seg.take (k+1))+val (vs.take (k+1)):=by
 rw [take_set hk,Zao hp,Zao hs,Nat.pow_succ]
 have h4:(s+p+cy)%4294967296+B*((s+p+cy) / 4294967296)=s+p+cy:=by
  rw [B_eq]
  exact Nat.mod_add_div _ _
 generalize (s+p+cy) / 4294967296=t at *
 generalize (s+p+cy)%4294967296=lo at *
 grind
theorem Zes (pre seg post vs:List Nat) (b n cu:Nat) (h:Heap) {low:Nat} {va:Option Addr} {cv:Nat} (hb:b < h.size) (hlow:low≤b) (hg:h.get b= .cells (lv (pre++seg++post)) 1) (hseg:seg.length=n+1) (hsm:Small seg)
  (hvl:vs.length=n) (hvs:Small vs) (sv:SlX b h 1 va n cv (lv vs)) (hn:n≤549755813887) (hpre:pre.length≤549755813887) :
  Does K low 193 #[.slice (some ⟨b,pre.length,none⟩) (n+1) cu,.slice va n cv] h fun r w=>∃ seg' c,seg'.length=n+1∧Small seg'∧But b h w∧w.get b= .cells (lv (pre++seg'++post)) 1 ∧
   val seg'+c*B ^ (n+1)=val seg+val vs:=by
 refine Does.intro rfl Ye Tryz.func193 rfl ?_
 simp +decide only [go_sem,WR,WS]
 refine Zah (α:=Nat × List Nat × Nat) (fun k e w=>k.1≤n∧e.size=36∧But b h w∧w.get b= .cells (lv (pre++k.2.1++post)) 1∧e.get 0= .slice (some ⟨b,pre.length,none⟩) (n+1) cu∧e.get 1= .slice va n cv ∧
  e.get 4= .int .u32 (k.2.2:Int)∧e.get 7= .slice va n cv∧e.get 8= .int .i64 (n:Int)∧e.get 9= .int .i64 (k.1:Int) ∧
  k.2.1.length=n+1∧Small k.2.1∧k.2.2≤1∧k.2.1.drop k.1=seg.drop k.1∧val (k.2.1.take k.1)+k.2.2*B ^ k.1=val (seg.take k.1)+val (vs.take k.1)) (fun k=>n - k.1) (0,seg,0) ?_ ?_
 ·refine ⟨Nat.zero_le _,Yc,But.refl _ _,hg,Yc,Yc,by simp +decide only [go_sem];rfl,Yc,Yc,by simp +decide only [go_sem];rfl,hseg,hsm,by simp only;omega,rfl,by simp [ZaQ]⟩
 ·rintro ⟨k,seg',cy⟩ e w ⟨hk,hsz,hbut,hgw,e0,e1,e4,e7,e8,e9,hl',hsm',hcy,hdr,hval⟩ next
  simp only at hk hgw e4 e9 hl' hsm' hcy hdr hval
  have hsame:∀ i,k≤i→seg'[i]? =seg[i]? :=by
   intro i hi
   have h1:(seg'.drop k)[i - k]? =(seg.drop k)[i - k]? :=by rw [hdr]
   rw [List.getElem?_drop,List.getElem?_drop,show k+(i - k)=i by omega] at h1
   exact h1
  have hlowsz:low≤w.size:=by have:=hbut.1;omega
  obtain ⟨s,hs⟩:∃ s,seg[k]? =some s:=⟨_,List.getElem?_eq_getElem Ya⟩
  have hsB:s < 4294967296:=hsm.get hs
  have hs':seg'[k]? =some s:=(hsame k (Nat.le_refl _)).trans hs
  have hget:(lv (pre++seg'++post))[pre.length+k]? =some (.int .u32 (s:Int)):=Za0 (by rw [Zmq Ya];exact hs')
  have hlen:pre.length+k+1≤(lv (pre++seg'++post)).length:=by rw [Zan];simp;omega
  have i3:(0:Int)≤(k:Int):=Ya
  have i4:(k:Int) < ((n+1:Nat):Int):=Ya
  have i5:IntKind.i64.wrap ((k:Int)+1)=((k+1:Nat):Int):=Yd
  by_cases hkn:(k:Int) < (n:Int)
  case neg =>
   have hkk:k=n:=Ya
   subst hkk
   have c1:IntKind.u32.wrap ((s:Int)+(cy:Int))=(((s+cy)%4294967296:Nat):Int):=by rw [← Int.natCast_add,w32]
   have hput:=ZbK (l:=pre++seg'++post) (k:=pre.length+k) Yl ((s+cy)%4294967296)
   rw [Zhh Ya] at hput
   simp +decide only [go_sem,WR,WS,hsz,e0,e1,e4,e7,e8,e9,hkn,i3,i4,Nat.mul_one,Int.toNat_natCast,hgw,hget,c1,List.length_cons,List.length_nil,hlow,hlen,hput]
   refine ⟨seg'.set k ((s+cy)%4294967296),(s+cy) / 4294967296,by simp [hl'],hsm'.set (by rw [B_eq];exact Nat.mod_lt _ Ya) _,hbut.set _,by first | rfl | rw [Heap.Zae,if_pos rfl],?_⟩
   have q1:=ZcB hs' ((s+cy)%4294967296)
   have q2:val seg'=val (seg'.take k)+s*B ^ k:=by
    rw [← Zao hs',List.take_of_length_le Ya]
   have q3:val seg=val (seg.take k)+s*B ^ k:=by
    rw [← Zao hs,List.take_of_length_le Ya]
   rw [List.take_of_length_le (Nat.le_of_eq hvl)] at hval
   have h5:(s+cy)%4294967296+B*((s+cy) / 4294967296)=s+cy:=by
    rw [B_eq]
    exact Nat.mod_add_div _ _
   rw [Nat.pow_succ]
   generalize (s+cy)%4294967296=d at *
   generalize (s+cy) / 4294967296=z at *
   grind
  have hkn':k < n:=Ya
  obtain ⟨p,hp⟩:∃ p,vs[k]? =some p:=⟨_,List.getElem?_eq_getElem Ya⟩
  have hpB:p < 4294967296:=hvs.get hp
  obtain ⟨b1,o1,cs1,rfl,hb1,hg1,hc1⟩:=(sv w hbut).one (Za0 hp)
  have hst:=Zny hp hs Ya hval
  simp +decide only [go_sem,WR,WS,hsz,e0,e1,e4,e7,e8,e9,hkn,i3,i4,Nat.mul_one,Int.toNat_natCast,hg1,hc1,hgw,hget]
  refine Zaa Kok hlowsz (Zc3 s p cy w hsB hpB hcy) fun v w2 hx2 hv=> ?_
  subst hv
  have hgw2:w2.get b=_:=(hx2.2 b (by have:=hbut.1;omega)).trans hgw
  have hput:=ZbK (l:=pre++seg'++post) (k:=pre.length+k) Yl ((s+p+cy)%4294967296)
  rw [Zhh Ya] at hput
  simp +decide only [go_sem,WR,WS,hsz,e0,e1,e4,e7,e8,e9,i3,i4,Nat.mul_one,Int.toNat_natCast,hgw2,List.length_cons,List.length_nil,hlow,hlen,hput,i5]
  refine next (k+1,seg'.set k ((s+p+cy)%4294967296),(s+p+cy) / 4294967296) _ _ ⟨by simp only;omega,Yb,(hbut.ext hx2).set _,by rw [Heap.Zae,if_pos rfl],Yf,Yk,Yb,Yi,Yu,Yb,by simp [hl'],hsm'.set (by rw [B_eq];exact Nat.mod_lt _ Ya) _,by simp only;omega,?_,hst⟩ Yj
  simp only
  rw [drop_set]
  have:=congrArg (List.drop 1) hdr
  rw [List.drop_drop,List.drop_drop] at this
  exact this
end Go.Proofs.YtachkofbmodnnaaGreat.N6
namespace Go.Proofs.YtachkofbmodnnaaGreat.N7
open Go Go.Im Go.Im.Limbs Go.Proofs Go.RowKit
section
variable {top next vlow u0 ulow head M V U:Nat}
structure Div (top next vlow u0 ulow head M V U:Nat):Prop where
 hV:V=(top*B+next)*M+vlow
 hU:U=(head*B+u0)*M+ulow
 vl:vlow < M
 ul:ulow < M
 t1:2147483648≤top
 t2:top < B
 n1:next < B
 u1:u0 < B
 lt:U < V*B
 hd:head < (top+1)*B
variable (D:Div top next vlow u0 ulow head M V U)
include D
theorem Div.Zv1:0 < M:=Nat.lt_of_le_of_lt (Nat.zero_le _) D.vl
theorem Div.V_ge:B*M≤V:=by
 have h1:1*B*M≤top*B*M:=Nat.mul_le_mul_right _ (Nat.mul_le_mul_right _ (by have:=D.t1;omega))
 have h2:(top*B+next)*M=top*B*M+next*M:=Yac
 have:=D.hV
 rw [Nat.one_mul] at h1
 omega
theorem Div.Zrh:0 < V:=by
 have h1:=D.V_ge
 have h2:0 < B*M:=Nat.mul_pos ZdP D.Zv1
 omega
theorem Div.q_lt:U / V < B:=by
 rw [Nat.div_lt_iff_lt_mul D.Zrh,Nat.mul_comm]
 exact D.lt
theorem Div.ZuK:U / V*V≤U:=by
 have _:=D.hV
 exact Nat.div_mul_le_self U V
theorem Div.start:U / V≤head / top:=by
 rw [Nat.le_div_iff_mul_le (by have:=D.t1;omega)]
 have h1:=D.ZuK
 have h2:U / V*(top*B*M)≤U / V*V:=by
  apply Nat.mul_le_mul_left
  have:(top*B+next)*M=top*B*M+next*M:=by grind
  have:=D.hV
  omega
 have h3:U < (head+1)*B*M:=by
  have h4:(head*B+u0+1)*M≤(head+1)*B*M:=by
   apply Nat.mul_le_mul_right
   have:(head+1)*B=head*B+B:=by grind
   have:=D.u1
   omega
  have h5:(head*B+u0+1)*M=(head*B+u0)*M+M:=Yac
  have:=D.hU
  have:=D.ul
  omega
 have h6:U / V*top*(B*M) < (head+1)*(B*M):=by
  have e1:U / V*top*(B*M)=U / V*(top*B*M):=Yac
  have e2:(head+1)*(B*M)=(head+1)*B*M:=Yac
  omega
 have:=Nat.lt_of_mul_lt_mul_right h6
 omega
theorem Div.first:head / top≤B+1:=by
 have ht:0 < top:=by have:=D.t1;omega
 have h1:head / top < B+2:=by
  rw [Nat.div_lt_iff_lt_mul ht]
  have h2:(B+2)*top=top*B+2*top:=Yac
  have h3:(top+1)*B=top*B+B:=Yac
  have:=D.hd
  have h4:=D.t1
  rw [B_eq] at *
  omega
 omega
theorem Div.more {guess rest:Nat} (h1:guess*top+rest=head) (h2:rest*B+u0 < guess*next):U / V < guess:=by
 rw [Nat.div_lt_iff_lt_mul D.Zrh]
 have h3:head*B+u0+1≤guess*(top*B+next):=by
  have e1:guess*(top*B+next)=guess*top*B+guess*next:=Yac
  have e2:head*B=guess*top*B+rest*B:=by rw [← h1];grind
  omega
 have h4:(head*B+u0+1)*M≤guess*(top*B+next)*M:=Nat.mul_le_mul_right _ h3
 have h5:guess*(top*B+next)*M≤guess*V:=by
  have:guess*V=guess*(top*B+next)*M+guess*vlow:=by rw [D.hV];grind
  omega
 have h6:(head*B+u0+1)*M=(head*B+u0)*M+M:=Yac
 have:=D.hU
 have:=D.ul
 omega
theorem Div.near {guess rest:Nat} (h1:guess*top+rest=head) (h2:guess*next≤rest*B+u0) (h3:guess≤B):guess≤U / V+1:=by
 have h4:guess*(top*B+next)≤head*B+u0:=by
  have e1:guess*(top*B+next)=guess*top*B+guess*next:=Yac
  have e2:head*B=guess*top*B+rest*B:=by rw [← h1];grind
  omega
 have h5:guess*(top*B+next)*M≤(head*B+u0)*M:=Nat.mul_le_mul_right _ h4
 have h6:guess*vlow≤B*M:=Nat.mul_le_mul h3 (by have:=D.vl;omega)
 have h7:=D.V_ge
 have h8:guess*V=guess*(top*B+next)*M+guess*vlow:=by rw [D.hV];grind
 have h9:guess*V≤U+V:=by
  have:=D.hU
  omega
 have h10:(guess - 1)*V≤U:=by
  rw [Nat.sub_mul,Nat.one_mul]
  omega
 have:=(Nat.le_div_iff_mul_le D.Zrh).2 h10
 omega
end
theorem settle {U V g bw s1 N:Nat} (hV:0 < V) (h1:s1+g*V=U+bw*N) (h2:s1 < N) (h3:bw≤1) (h4:U / V≤g) (h5:g≤U / V+1) :
  (bw=0→g=U / V∧s1=U%V)∧(bw=1→g=U / V+1∧∀ s2 c,s2 < N→V≤N→s2+c*N=s1+V→s2=U%V):=by
 have hdm:=Nat.div_add_mod U V
 have hmod:=Nat.mod_lt U hV
 constructor
 ·intro hb
  subst hb
  have hg:g*V≤U:=Ya
  have:=(Nat.le_div_iff_mul_le hV).2 hg
  have e:g=U / V:=Ya
  refine ⟨e,?_⟩
  rw [e,Nat.mul_comm] at h1
  omega
 ·intro hb
  subst hb
  have hg:U < g*V:=Ya
  have:=(Nat.div_lt_iff_lt_mul hV).2 hg
  have e:g=U / V+1:=Ya
  refine ⟨e,fun s2 c hs hN hc=> ?_⟩
  have e2:g*V=V*(U / V)+V:=by rw [e,Nat.add_mul,Nat.one_mul,Nat.mul_comm]
  have h6:s2+c*N=U%V+N:=Ya
  have hc1:c=1:=by
   rcases Nat.lt_trichotomy c 1 with h | h | h
   ·have:c=0:=by omega
    subst this
    omega
   ·exact h
   ·have:2*N≤c*N:=Nat.mul_le_mul_right _ h
    omega
  subst hc1
  omega
end Go.Proofs.YtachkofbmodnnaaGreat.N7
namespace Go.Proofs.YtachkofbmodnnaaGreat.N8
open Go Go.Im Go.Im.Limbs Go.Proofs Go.RowKit Hd N1 N2 N3 N4 N5 N6 N7
set_option maxRecDepth 100000
theorem top1 {l:List Nat} {k a:Nat} (hl:l.length=k+1) (h0:l[k]? =some a):val l=val (l.take k)+B ^ k*a:=by
 have:=ZhO h0
 rw [List.drop_of_length_le Ya,ZaQ,Nat.mul_zero,Nat.add_zero] at this
 exact this
theorem top2 {l:List Nat} {k a b:Nat} (hl:l.length=k+2) (h0:l[k]? =some a) (h1:l[k+1]? =some b):val l=val (l.take k)+B ^ k*(a+B*b):=by
 have q:=ZhO h0
 have h2:l.drop (k+1)=[b]:=by
  rw [List.drop_eq_getElem_cons Ya,List.drop_of_length_le Ya,(List.getElem?_eq_some_iff.1 h1).2]
 rw [h2] at q
 simpa [ZaE,ZaQ] using q
theorem top3 {l:List Nat} {k a b c:Nat} (hl:l.length=k+3) (h0:l[k]? =some a) (h1:l[k+1]? =some b) (h2:l[k+2]? =some c):val l=val (l.take k)+B ^ k*(a+B*(b+B*c)):=by
 have q:=ZhO h0
 have h3:l.drop (k+1)=[b,c]:=by
  rw [List.drop_eq_getElem_cons Ya,List.drop_eq_getElem_cons Ya,List.drop_of_length_le Ya,(List.getElem?_eq_some_iff.1 h1).2,(List.getElem?_eq_some_iff.1 h2).2]
 rw [h3] at q
 simpa [ZaE,ZaQ] using q
theorem ZqZ {y lb tb s:Nat} (hlb:(dig y).length=lb+1) (ht:(dig y)[lb]? =some tb) (hs:s=32 - bl tb) :
  s < 32∧(dig (y*2 ^ s)).length=lb+1∧2147483648*B ^ lb≤y*2 ^ s∧y*2 ^ s < B ^ (lb+1):=by
 have htB:tb < 4294967296:=Zap y tb (List.mem_of_getElem? ht)
 have ht0:tb≠0:=by
  have:=Zq1 y
  unfold Top at this
  rw [List.getLast?_eq_getElem?,hlb,Nat.add_sub_cancel,ht] at this
  exact fun h=>this (by rw [h])
 obtain ⟨n1,n2,n3⟩:=norm htB ht0
 rw [← hs] at n1 n2 n3
 have hv:=top1 hlb ht
 rw [ZaL] at hv
 have hlt:=ZdR ((Zap y).take lb)
 rw [List.length_take,Nat.min_eq_left Ya] at hlt
 have e32:(4294967296:Nat)=2 ^ (32 - s)*2 ^ s:=by rw [← Nat.pow_add,show 32 - s+s=32 by omega]
 have n4:tb+1≤2 ^ (32 - s):=by
  have:tb < 2 ^ (32 - s):=by
   apply Nat.lt_of_mul_lt_mul_right (a:=2 ^ s)
   rw [← e32]
   exact n3
  omega
 have h1:2147483648*B ^ lb≤y*2 ^ s:=by
  have h2:2147483648*B ^ lb≤tb*2 ^ s*B ^ lb:=Nat.mul_le_mul_right _ n2
  have h3:tb*2 ^ s*B ^ lb≤y*2 ^ s:=by
   have e:tb*2 ^ s*B ^ lb=B ^ lb*tb*2 ^ s:=Yac
   rw [e]
   exact Nat.mul_le_mul_right _ Ya
  omega
 have h2:y*2 ^ s < B ^ (lb+1):=by
  have h3:y+1≤(tb+1)*B ^ lb:=by
   have e:(tb+1)*B ^ lb=B ^ lb*tb+B ^ lb:=Yac
   omega
  have h4:(y+1)*2 ^ s≤(tb+1)*B ^ lb*2 ^ s:=Nat.mul_le_mul_right _ h3
  have h5:(tb+1)*B ^ lb*2 ^ s≤2 ^ (32 - s)*B ^ lb*2 ^ s:=Nat.mul_le_mul_right _ (Nat.mul_le_mul_right _ n4)
  have e:2 ^ (32 - s)*B ^ lb*2 ^ s=B ^ (lb+1):=by
   rw [Nat.pow_succ,B_eq,Nat.mul_right_comm,← e32,Nat.mul_comm]
  have h6:(y+1)*2 ^ s=y*2 ^ s+2 ^ s:=Yac
  have:=Nat.two_pow_pos s
  omega
 refine ⟨n1,?_,h1,h2⟩
 have h7:=Zaz.2 h2
 have h8:¬ (dig (y*2 ^ s)).length≤lb:=by
  rw [Zaz]
  have:0 < B ^ lb:=Nat.pow_pos ZdP
  omega
 omega
theorem ZuV {seg vs:List Nat} {k u0 u1 u2 next top:Nat} (hs:seg.length=k+3) (hv:vs.length=k+2) (ss:Small seg) (sv:Small vs) (h0:seg[k]? =some u0) (h1:seg[k+1]? =some u1) (h2:seg[k+2]? =some u2)
  (g0:vs[k]? =some next) (g1:vs[k+1]? =some top) (hbig:2147483648*B ^ (k+1)≤val vs) (hlt:val seg < val vs*B) :
  Div top next (val (vs.take k)) u0 (val (seg.take k)) (u2*B+u1) (B ^ k) (val vs) (val seg)∧u2≤top:=by
 have e1:=top3 hs h0 h1 h2
 have e2:=top2 hv g0 g1
 have l1:=ZdR (ss.take k)
 rw [List.length_take,Nat.min_eq_left Ya] at l1
 have l2:=ZdR (sv.take k)
 rw [List.length_take,Nat.min_eq_left Ya] at l2
 have hnB:next < B:=sv.get g0
 have htB:top < B:=sv.get g1
 have hM:0 < B ^ k:=Nat.pow_pos ZdP
 have ht:2147483648≤top:=by
  rw [Nat.pow_succ] at hbig
  have h3:val vs < (top+1)*(B ^ k*B):=by
   have e:(top+1)*(B ^ k*B)=B ^ k*(B*top)+B ^ k*B:=Yac
   have e3:B ^ k*(next+B*top)=B ^ k*next+B ^ k*(B*top):=Yac
   have h4:B ^ k*(next+1)≤B ^ k*B:=Nat.mul_le_mul_left _ hnB
   have e4:B ^ k*(next+1)=B ^ k*next+B ^ k:=Yac
   omega
  have h5:2147483648*(B ^ k*B) < (top+1)*(B ^ k*B):=Ya
  have:=Nat.lt_of_mul_lt_mul_right h5
  omega
 have hu:u2≤top:=by
  by_cases hc:u2≤top
  ·exact hc
  ·exfalso
   have h3:B ^ k*(B*(B*(top+1)))≤val seg:=by
    have h4:B ^ k*(B*(B*(top+1)))≤B ^ k*(u0+B*(u1+B*u2)):=by
     apply Nat.mul_le_mul_left
     have h6:B*(B*(top+1))≤B*(u1+B*u2):=by
      apply Nat.mul_le_mul_left
      have:B*(top+1)≤B*u2:=Nat.mul_le_mul_left _ Ya
      omega
     omega
    omega
   have h5:val vs*B≤B ^ k*(B*(B*(top+1))):=by
    have h6:val vs≤B ^ k*(B*(top+1)):=by
     have h7:B ^ k*(next+B*top+1)≤B ^ k*(B*(top+1)):=by
      apply Nat.mul_le_mul_left
      have:B*(top+1)=B*top+B:=by grind
      omega
     have e4:B ^ k*(next+B*top+1)=B ^ k*(next+B*top)+B ^ k:=Yac
     omega
    have h8:=Nat.mul_le_mul_right B h6
    have e5:B ^ k*(B*(top+1))*B=B ^ k*(B*(B*(top+1))):=Yac
    omega
   omega
 refine ⟨⟨by rw [e2];grind,by rw [e1];grind,l2,l1,ht,htB,hnB,ss.get h0,hlt,?_⟩,hu⟩
 have h3:u2*B≤top*B:=Nat.mul_le_mul_right _ hu
 have h4:(top+1)*B=top*B+B:=Yac
 have:=ss.get h1
 omega
theorem below {l:List Nat} {i N:Nat} (hl:i≤l.length) (h:val l < N*B ^ i):val (l.drop i) < N:=by
 rw [ZfB l i hl] at h
 have h1:B ^ i*val (l.drop i) < B ^ i*N:=by
  rw [Nat.mul_comm (B ^ i) N]
  omega
 exact Nat.lt_of_mul_lt_mul_left h1
end Go.Proofs.YtachkofbmodnnaaGreat.N8
