/- Proved here: parts of the way to CTokenCuts (CR3 CR4 CR5); no condition beyond those that each theorem names. -/
import Derived.Test.YtjlaenglmdpboaaGreatK10
set_option linter.unusedSimpArgs false
set_option linter.unusedVariables false
namespace Go.Proofs.YtjlaenglmdpboaaGreat.R3
open Go Go.Im Go.Im.Limbs Go.Im.Dec Go.Proofs Go.RowKit Hd N12 R1 R2
set_option maxRecDepth 100000
theorem quo_step {p B d n:Nat} (hB:0 < B) (h1:n*B≤p%B*10+d) (h2:p%B*10+d - n*B < B):(p*10+d) / B=p / B*10+n∧(p*10+d)%B=p%B*10+d - n*B:=by
 have e1:p*10+d=(p%B*10+d - n*B)+B*(p / B*10+n):=by
  have e2:=Nat.mod_add_div p B
  have e3:B*(p / B*10+n)=10*(B*(p / B))+n*B:=by rw [Nat.mul_add,Nat.mul_comm n B,← Nat.mul_assoc,Nat.mul_comm _ 10]
  rw [e3]
  omega
 rw [e1]
 constructor
 ·rw [Nat.add_mul_div_left _ _ hB,Nat.div_eq_of_lt h2,Nat.zero_add]
 ·rw [Nat.add_mul_mod_self_left,Nat.mod_eq_of_lt h2]
theorem divmod_run (A B:Nat) (h:Heap) (hB:B≠0) (hla:(ds A).length≤200000) (hlb:(ds B).length≤200000) :
  Runs K 165 #[.string (text (ds A)),.string (text (ds B))] h fun r _=>r= .tuple #[.string (text (ds (A / B))),.string (text (ds (A%B)))]:=by
 refine Runs.of Kok (Does.intro rfl (by decide +kernel) Tryz.func165 rfl ?_)
 obtain ⟨la,hla'⟩:∃ la,la=(ds A).length:=⟨_,rfl⟩
 have hB0:0 < B:=Nat.pos_of_ne_zero hB
 have hBlt:=ds_lt_pow B
 have hlb1:=ds_pos B
 have m1:imk h.size 1 1 [.int .u8 0] 0 (la:Int)=some (.slice (some ⟨h.size,0,none⟩) 0 la,some (.cells (List.replicate la (.int .u8 0)) 1)):=by
  rw [imk_ok (by omega) (by omega) (by omega) (by omega)]
  simp [List.flatten_replicate_singleton]
 obtain ⟨w1,e1',x1,hs1,g1⟩:=lay1 h (.cells (List.replicate la (.int .u8 0)) 1)
 simp +decide only [go_sem,WR,WS,← hla',m1,e1']
 refine W_loop (α:=Nat × List UInt8) (fun k e w=>k.1≤la∧e.size=50∧Ext h w∧h.size < w.size∧e.get 0= .string (text (ds A))∧e.get 1= .string (text (ds B))∧e.get 6= .slice (some ⟨h.size,0,none⟩) k.1 la ∧
  e.get 7= .string (text (ds (dec ((ds A).take k.1)%B)))∧e.get 8= .int .i64 (k.1:Int)∧w.get h.size= .cells (byteCells k.2++List.replicate (la - k.1) (.int .u8 0)) 1∧k.2.length=k.1∧Digs k.2∧dec k.2=dec ((ds A).take k.1) / B) (fun k=>la - k.1) (0,[]) ?_ ?_
 ·refine ⟨Nat.zero_le _,by simp +decide only [go_sem],x1,by omega,by simp +decide only [go_sem],by simp +decide only [go_sem],by simp +decide only [go_sem],?_,by simp +decide only [go_sem];rfl,by simp [g1,byteCells],rfl,fun b hb=>by simp at hb,by simp [dec_nil]⟩
  simp +decide only [go_sem,WR,WS,List.take_zero,dec_nil,Nat.zero_mod,ds_zero]
  rfl
 ·rintro ⟨i,q⟩ e w ⟨hi,hsz,hxw,hws,e0,e1,e6,e7,e8,gw,hql,hqd,hqv⟩ next
  simp only at hi e6 e7 e8 gw hql hqd hqv
  obtain ⟨p,hp⟩:∃ p,p=dec ((ds A).take i):=⟨_,rfl⟩
  rw [← hp] at e7 hqv
  by_cases hc:(i:Int) < (la:Int)
  ·obtain ⟨c,hcd⟩:∃ c,(ds A)[i]? =some c:=⟨_,List.getElem?_eq_getElem (by omega)⟩
   have hcr:=ds_digs A c (List.mem_of_getElem? hcd)
   obtain ⟨hil,hcg⟩:=List.getElem?_eq_some_iff.1 hcd
   have htk:(ds A).take (i+1)=(ds A).take i++[c]:=by rw [List.take_succ_eq_append_getElem hil,hcg]
   have hp':dec ((ds A).take (i+1))=p*10+(c.toNat - 48):=by rw [htk,dec_snoc,← hp]
   obtain ⟨d,hd⟩:∃ d,d=c.toNat - 48:=⟨_,rfl⟩
   have hd9:d≤9:=by omega
   rw [← hd] at hp'
   have hpm:=Nat.mod_lt p hB0
   have hdl:(ds (p%B)).length≤(ds B).length:=ds_mono (by omega)
   have hcat:∀ t,ibinop Tryz.prog .add t (.string (text (ds (p%B)))) (.string (text [c]))=some (.string (text (ds (p%B)++[c]))):=fun t=>cat_ok (by simp;omega)
   have f1:(0:Int)≤(i:Int):=by omega
   have f2:(0:Int)≤((i+1:Nat):Int):=by omega
   have f3:i≤i+1:=by omega
   have f4:i+1≤la:=by omega
   have f5:((ds A).drop i).take (i+1 - i)=[c]:=by
    rw [List.drop_eq_getElem_cons hil,hcg,show i+1 - i=1 by omega]
    rfl
   have i1:IntKind.i64.wrap ((i:Int)+1)=((i+1:Nat):Int):=by rw [wrap_i64 (by omega) (by omega)];omega
   simp +decide only [go_sem,WR,WS,← hla',hsz,e0,e1,e6,e7,e8,hc,i1,f1,f2,f3,f4,f5,Int.toNat_natCast,hcat]
   have hdg:Digs (ds (p%B)++[c]):=by
    intro b hb
    rcases List.mem_append.1 hb with hb | hb
    ·exact ds_digs _ b hb
    ·rw [List.mem_singleton] at hb
     subst hb
     exact hcr
   refine W_call Kok hxw.1 (trim_ds_run hdg (by simp) w (by simp;omega)) fun r w2 x2 hr=> ?_
   subst hr
   rw [dec_snoc,dec_ds,← hd]
   obtain ⟨R,hR⟩:∃ R,R=p%B*10+d:=⟨_,rfl⟩
   rw [← hR]
   have hRB:R < 10*B:=by omega
   have hRl:(ds R).length≤(ds B).length+1:=by
    refine ds_len ?_ (by omega)
    rw [Nat.pow_succ]
    omega
   simp +decide only [go_sem,WR,WS,hsz,e0,e1,e6,e7,e8]
   refine W_loop (α:=Nat) (fun n e' w'=>n*B≤R∧e'.size=50∧Ext w2 w'∧e'.get 0= .string (text (ds A))∧e'.get 1= .string (text (ds B))∧e'.get 6= .slice (some ⟨h.size,0,none⟩) i la ∧
    e'.get 7= .string (text (ds (R - n*B)))∧e'.get 8= .int .i64 (i:Int)∧e'.get 9= .int .i64 (n:Int)) (fun n=>R - n*B) 0 ?_ ?_
   ·exact ⟨by simp,by simp +decide only [go_sem,hsz],Ext.refl _,by simp +decide only [go_sem,hsz,e0],by simp +decide only [go_sem,hsz,e1],by simp +decide only [go_sem,hsz,e6],by simp +decide only [go_sem,hsz,Nat.zero_mul,Nat.sub_zero],by simp +decide only [go_sem,hsz,e8],by simp +decide only [go_sem,hsz];rfl⟩
   ·rintro n e' w' ⟨hn,hsz,hx2,e0,e1,e6,e7,e8,e9⟩ next2
    have hx0:=hxw.trans (x2.trans hx2)
    have hn10:n < 10:=by
     refine Nat.lt_of_not_le fun hh=> ?_
     have:10*B≤n*B:=Nat.mul_le_mul_right _ hh
     omega
    have hn10':(n:Int) < 10:=by omega
    simp +decide only [go_sem,WR,WS,hsz,e0,e1,e6,e7,e8,e9]
    refine W_call Kok hx0.1 (cmp_run (R - n*B) B w') fun r w3 x3 hr=> ?_
    by_cases hlt:R - n*B < B
    ·rw [if_pos hlt] at hr
     subst hr
     obtain ⟨m,hm⟩:∃ m,la - i=m+1:=⟨la - i - 1,by omega⟩
     have hm2:la - (i+1)=m:=by omega
     have gw3:w3.get h.size= .cells (byteCells q++List.replicate (m+1) (.int .u8 0)) 1:=by
      rw [← hm]
      exact ((x2.trans (hx2.trans x3)).2 _ hws).trans gw
     obtain ⟨w4,e4',x4,hs4,g4⟩:=lay1 w3 (.cells [.int .u8 ((48+n:Nat):Int)] 1)
     have hx3:=hx0.trans x3
     have hws3:h.size < w3.size:=by have:=(x2.trans (hx2.trans x3)).1;omega
     have gw4:w4.get h.size=_:=(x4.2 _ hws3).trans gw3
     have hroom:=iapp_room (low:=h.size) (bytes:=1) (o:=0) (n:=i) (k:=1) (cap:=la) (new:=[.int .u8 ((48+n:Nat):Int)]) gw4 (Nat.le_refl _) (by omega) (by omega) (by omega) (by simp only [big];omega) (by simp [byteCells];omega)
     have hsp:splice (byteCells q++List.replicate (m+1) (.int .u8 0)) (0+i*1) [.int .u8 ((48+n:Nat):Int)]=byteCells (q++[UInt8.ofNat (48+n)])++List.replicate m (.int .u8 0):=by
      have e1:=splice_room (xs:=q) (z:= .int .u8 0) (k:=m) (x:=UInt8.ofNat (48+n))
      rw [of48 (by omega),hql] at e1
      rw [Nat.zero_add,Nat.mul_one]
      exact e1
     rw [hsp] at hroom
     obtain ⟨w5,e5',x5,hs5,g5,k5⟩:=put1 (hx3.trans x4) (Nat.le_refl _) (.cells (byteCells (q++[UInt8.ofNat (48+n)])++List.replicate m (.int .u8 0)) 1)
     have j1:IntKind.i64.wrap (48+(n:Int))=((48+n:Nat):Int):=by rw [wrap_i64 (by omega) (by omega)];omega
     have j2:IntKind.u8.wrap ((48+n:Nat):Int)=((48+n:Nat):Int):=wrap_u8 (by omega) (by omega)
     have j3:¬ ((0:Int)≤ -1):=by omega
     simp +decide only [go_sem,WR,WS,hsz,e0,e1,e6,e7,e8,e9,hn10',j1,j2,j3,e4',g4,hroom,e5',i1]
     have hqs:=quo_step (p:=p) (d:=d) (n:=n) hB0 (by omega) (by omega)
     rw [← hR] at hqs
     refine next (i+1,q++[UInt8.ofNat (48+n)]) _ _ ⟨f4,by simp +decide only [go_sem,hsz],x5,by omega,by simp +decide only [go_sem,hsz,e0],by simp +decide only [go_sem,hsz,e1],by simp +decide only [go_sem,hsz],?_,by simp +decide only [go_sem,hsz],by rw [hm2];exact g5,by simp [hql],?_,?_⟩ (by simp only;omega)
     ·rw [hp',hqs.2]
      simp +decide only [go_sem,WR,WS,hsz,e7]
     ·intro b hb
      rcases List.mem_append.1 hb with hb | hb
      ·exact hqd b hb
      ·rw [List.mem_singleton] at hb
       subst hb
       rw [of48 (by omega)]
       omega
     ·simp only
      rw [hp',hqs.1,dec_snoc,of48 (by omega),hqv]
      omega
    ·have hz:∃ z:Int,(if R - n*B < B then (-1:Int) else if R - n*B=B then 0 else 1)=z∧0≤z:=by
      rw [if_neg hlt]
      split
      ·exact ⟨0,rfl,by omega⟩
      ·exact ⟨1,rfl,by omega⟩
     obtain ⟨z,hz1,hz2⟩:=hz
     rw [hz1] at hr
     subst hr
     have i2:IntKind.i64.wrap ((n:Int)+1)=((n+1:Nat):Int):=by rw [wrap_i64 (by omega) (by omega)];omega
     simp +decide only [go_sem,WR,WS,hsz,e0,e1,e6,e7,e8,e9,hz2,hn10']
     have hl3:(ds (R - n*B)).length≤900000:=by
      have:=ds_mono (show R - n*B≤R by omega)
      omega
     refine W_call Kok (hx0.trans x3).1 (sub_run (R - n*B) B w3 (by omega) hl3) fun r w4 x4 hr=> ?_
     subst hr
     have hs':R - n*B - B=R - (n+1)*B:=by rw [Nat.add_mul,Nat.one_mul];omega
     simp +decide only [go_sem,WR,WS,hsz,e0,e1,e6,e7,e8,e9,i2,hs']
     have hnn:(n+1)*B≤R:=by rw [Nat.add_mul,Nat.one_mul];omega
     refine next2 (n+1) _ _ ⟨hnn,by simp +decide only [go_sem,hsz],hx2.trans (x3.trans x4),by simp +decide only [go_sem,hsz,e0],by simp +decide only [go_sem,hsz,e1],by simp +decide only [go_sem,hsz,e6],by simp +decide only [go_sem,hsz],by simp +decide only [go_sem,hsz,e8],by simp +decide only [go_sem,hsz]⟩ ?_
     have:(n+1)*B=n*B+B:=by rw [Nat.add_mul,Nat.one_mul]
     omega
  ·have hii:i=la:=by omega
   subst hii
   have hla1:=ds_pos A
   have hfull:p=A:=by rw [hp,hla',List.take_length,dec_ds]
   rw [hfull] at e7 hqv
   have hisl:isl (.cells (byteCells q++List.replicate (i - i) (.int .u8 0)) 1) 1 0 i=some (byteCells q):=by
    rw [isl_cells,if_pos ⟨rfl,by simp [byteCells];omega⟩]
    simp only [List.drop_zero,Nat.mul_one]
    rw [Nat.sub_self,List.replicate_zero,List.append_nil,List.take_of_length_le (by simp [byteCells];omega)]
   have hrd:(w.get h.size).read= .cells (byteCells q++List.replicate (i - i) (.int .u8 0)) 1:=by rw [gw];rfl
   generalize Blk.cells (byteCells q++List.replicate (i - i) (.int .u8 0)) 1=blk at hisl hrd
   simp +decide only [go_sem,WR,WS,← hla',hsz,e0,e1,e6,e7,e8,hc,hrd,hisl,icvs_bytes]
   refine W_call Kok hxw.1 (trim_ds_run hqd (fun hh=>by rw [hh] at hql;simp at hql;omega) w (by omega)) fun r w2 x2 hr=> ?_
   subst hr
   simp +decide only [go_sem,WR,WS,hsz,e7,hqv]
theorem big_pow:(10:Nat) ^ (2900+2900)≤2 ^ 19999:=by decide +kernel
theorem sq_lt {y r n:Nat} (h:y < 10 ^ n) (hr:r < y):y*r < 10 ^ (n+n):=by
 rw [Nat.pow_add]
 exact Nat.mul_lt_mul_of_lt_of_lt h (Nat.lt_trans hr h)
theorem gcd_run (a b:Nat) (h:Heap) (hla:(ds a).length≤2900) (hlb:(ds b).length≤2900) :
  Runs K 164 #[.string (text (ds a)),.string (text (ds b))] h fun r _=>r= .string (text (ds (Nat.gcd a b))):=by
 refine Runs.of Kok (Does.intro rfl (by decide +kernel) Tryz.func164 rfl ?_)
 simp +decide only [go_sem,WR,WS]
 refine W_loop (α:=Nat × Nat × Nat × Nat) (fun k e w=>e.size=25∧Ext h w∧e.get 0= .string (text (ds k.2.1))∧e.get 1= .string (text (ds k.2.2.1))∧e.get 5= .int .i64 (k.1:Int)∧Nat.gcd k.2.1 k.2.2.1=Nat.gcd a b∧(ds k.2.1).length≤2900∧(ds k.2.2.1).length≤2900 ∧
  k.1≤20000∧(k.1=0∨(k.2.2.1 < k.2.1∧k.2.1*k.2.2.1 < 2 ^ k.2.2.2∧k.1+k.2.2.2≤20000))) (fun k=>20000 - k.1) (0,a,b,0) ?_ ?_
 ·exact ⟨by simp +decide only [go_sem],Ext.refl h,by simp +decide only [go_sem],by simp +decide only [go_sem],by simp +decide only [go_sem];rfl,rfl,hla,hlb,by simp,.inl rfl⟩
 ·rintro ⟨i,x,y,m⟩ e w ⟨hsz,hxw,e0,e1,e5,hg,hlx,hly,hi,hm⟩ next
  simp only at e0 e1 e5 hg hlx hly hi hm
  by_cases hy:y=0
  ·subst hy
   rw [Nat.gcd_zero_right] at hg
   rw [ds_zero] at e1
   by_cases hi2:(i:Int) < 20000
   ·simp +decide only [go_sem,WR,WS,hsz,e0,e1,e5,hi2,hg]
   ·simp +decide only [go_sem,WR,WS,hsz,e0,e1,e5,hi2,hg]
  ·have hi2:i < 20000:=by
    rcases hm with h0 | ⟨h1,h2,h3⟩
    ·omega
    ·have:1≤x*y:=Nat.mul_pos (by omega) (by omega)
     have hm0:m≠0:=by
      rintro rfl
      simp at h2
      omega
     omega
   have hi3:(i:Int) < 20000:=by omega
   have hyne:¬ text (ds y)=(⟨#[48]⟩:ByteArray):=fun hh=>hy (ds_inj.1 ((text_inj.1 hh).trans ds_zero.symm))
   have i1:IntKind.i64.wrap ((i:Int)+1)=((i+1:Nat):Int):=by rw [wrap_i64 (by omega) (by omega)];omega
   simp +decide only [go_sem,WR,WS,hsz,e0,e1,e5,hi3,hyne]
   refine W_call Kok hxw.1 (divmod_run x y w hy (by omega) (by omega)) fun r w2 x2 hr=> ?_
   subst hr
   have hxy:(ds (x%y)).length≤2900:=by
    have:=ds_mono (Nat.le_of_lt (Nat.mod_lt x (Nat.pos_of_ne_zero hy)))
    omega
   simp +decide only [go_sem,WR,WS,hsz,e0,e1,e5,i1]
   refine next (i+1,y,x%y,if i=0 then 19999 else m - 1) _ _ ⟨by simp +decide only [go_sem,hsz],hxw.trans x2,by simp +decide only [go_sem,hsz],by simp +decide only [go_sem,hsz],by simp +decide only [go_sem,hsz],?_,hly,hxy,by simp only;omega,.inr ?_⟩ (by simp only;omega)
   ·simp only
    rw [← hg,Nat.gcd_comm x y]
    exact (Nat.gcd_rec y x).symm ▸ Nat.gcd_comm _ _
   ·simp only
    have hml:=Nat.mod_lt x (Nat.pos_of_ne_zero hy)
    refine ⟨hml,?_⟩
    by_cases h0:i=0
    ·rw [if_pos h0]
     exact ⟨Nat.lt_of_lt_of_le (sq_lt (Nat.lt_of_lt_of_le (ds_lt_pow y) (Nat.pow_le_pow_right (by omega) hly)) hml) big_pow,by omega⟩
    ·rw [if_neg h0]
     obtain ⟨h1,h2,h3⟩:=hm.resolve_left h0
     have hm0:m≠0:=by
      rintro rfl
      have:1≤x*y:=Nat.mul_pos (by omega) (by omega)
      simp at h2
      omega
     obtain ⟨m',rfl⟩:∃ m',m=m'+1:=⟨m - 1,by omega⟩
     refine ⟨?_,by omega⟩
     have e2:x%y+y*(x / y)=x:=Nat.mod_add_div x y
     have e3:1≤x / y:=Nat.div_pos (Nat.le_of_lt h1) (Nat.pos_of_ne_zero hy)
     have e4:y*1≤y*(x / y):=Nat.mul_le_mul_left _ e3
     have e5:2*(x%y)≤x:=by omega
     have e6:y*(2*(x%y))≤y*x:=Nat.mul_le_mul_left _ e5
     rw [Nat.pow_succ] at h2
     rw [Nat.mul_comm x y] at h2
     have e7:y*(2*(x%y))=2*(y*(x%y)):=by rw [← Nat.mul_assoc,Nat.mul_comm y 2,Nat.mul_assoc]
     simp only [Nat.add_sub_cancel]
     omega
end Go.Proofs.YtjlaenglmdpboaaGreat.R3
namespace Go.Im.Dec
open Go Go.Im Go.Im.Limbs Go.Proofs.YtjlaenglmdpboaaGreat.N12
def intA (s:Bool) (n:Nat):Value:= .agg #[.bool s,.string (text (ds n))]
def numA (s:Bool) (m k:Nat):Value:= .agg #[.bool s,.string (text (ds m)),.string (text (ds k))]
theorem zt {n:Nat}:(text (ds n)=(⟨#[48]⟩:ByteArray))=(n=0):=propext ⟨fun h=>ds_inj.1 ((text_inj.1 (h.trans (show (⟨#[48]⟩:ByteArray)=text [48] from rfl))).trans ds_zero.symm),fun h=>by subst h;rw [ds_zero];rfl⟩
theorem ds_pow (n:Nat):ds (10 ^ n)=49::List.replicate n 48:=by
 induction n with
 | zero=>exact ds_one
 | succ n ih =>
   have:1≤10 ^ n:=Nat.pow_pos (by omega)
   rw [ds_ge (by rw [Nat.pow_succ];omega),Nat.pow_succ,Nat.mul_div_cancel _ (by omega),Nat.mul_mod_left,ih,List.replicate_succ']
   rfl
theorem ds_mul {m k a b:Nat} (h1:(ds m).length≤a) (h2:(ds k).length≤b):(ds (m*k)).length≤a+b:=by
 have l1:=Nat.lt_of_lt_of_le (ds_lt_pow m) (Nat.pow_le_pow_right (by omega) h1)
 have l2:=Nat.lt_of_lt_of_le (ds_lt_pow k) (Nat.pow_le_pow_right (by omega) h2)
 have:=ds_pos m
 refine ds_len ?_ (by omega)
 rw [Nat.pow_add]
 exact Nat.mul_lt_mul_of_lt_of_lt l1 l2
end Go.Im.Dec
namespace Go.Proofs.YtjlaenglmdpboaaGreat.R4
open Go Go.Im Go.Im.Limbs Go.Im.Dec Go.Proofs Go.RowKit Hd N12 R1 R2 R3
set_option maxRecDepth 100000
theorem of_run (s:Bool) {t:List UInt8} (hd:Digs t) (hne:t≠[]) (hl:t.length≤1000000) (h:Heap):Runs K 129 #[.bool s,.string (text t)] h fun r _=>r=intA (s && decide (dec t≠0)) (dec t):=by
 refine Runs.of Kok (Does.intro rfl (by decide +kernel) Tryz.func129 rfl ?_)
 obtain ⟨w0,e0,x0,hs0,z0⟩:=lay1 h (.cells [.bool false,.string ByteArray.empty] 2)
 simp +decide only [go_sem,WR,WS,e0]
 refine W_call Kok x0.1 (trim_ds_run hd hne w0 (by omega)) fun r w1 x1 hr=> ?_
 subst hr
 have z1:w1.get h.size=_:=(x1.2 _ (by omega)).trans z0
 cases s
 ·obtain ⟨w2,e2,x2,hs2,z2,_⟩:=put1 (x0.trans x1) (Nat.le_refl _) (.cells [.bool false,.string (text (ds (dec t)))] 2)
  simp +decide only [go_sem,WR,WS,z1,e2,z2,Nat.le_refl]
  rfl
 ·obtain ⟨w2,e2,x2,hs2,z2,_⟩:=put1 (x0.trans x1) (Nat.le_refl _) (.cells [.bool (!decide (dec t=0)),.string (text (ds (dec t)))] 2)
  simp +decide only [go_sem,WR,WS,z1,zt,e2,z2,Nat.le_refl]
  simp [intA]
theorem of_ds (s:Bool) (n:Nat) (hl:(ds n).length≤1000000) (h:Heap):Runs K 129 #[.bool s,.string (text (ds n))] h fun r _=>r=intA (s && decide (n≠0)) n:=by
 have:=of_run s (ds_digs n) (ds_ne n) hl h
 rwa [dec_ds] at this
theorem mul2_run (s u:Bool) (m k:Nat) (h:Heap) (h1:(ds m).length≤200000) (h2:(ds k).length≤200000):Runs K 156 #[intA s m,intA u k] h fun r _=>r=intA (!decide (s=u) && decide (m*k≠0)) (m*k):=by
 refine Runs.of Kok (Does.intro rfl (by decide +kernel) Tryz.func156 rfl ?_)
 obtain ⟨w0,e0,x0,hs0,z0,z1,z2⟩:=lay3 h (.cells [.bool s,.string (text (ds m))] 2) (.cells [.bool u,.string (text (ds k))] 2) (.cells [.bool false,.string ByteArray.empty] 2)
 simp +decide only [go_sem,WR,WS,intA,e0,z0,z1]
 refine W_call Kok x0.1 (mul_run m k w0 h1 h2) fun r w1 x1 hr=> ?_
 subst hr
 have hl:=ds_mul h1 h2
 simp +decide only [go_sem,WR,WS]
 refine W_call Kok (x0.trans x1).1 (of_ds (!decide (s=u)) (m*k) (by omega) w1) fun r w2 x2 hr=> ?_
 subst hr
 have z2':w2.get (h.size+2)=_:=(x2.2 _ (by have:=x1.1;omega)).trans ((x1.2 _ (by omega)).trans z2)
 have j1:h.size≤h.size+2:=by omega
 obtain ⟨w3,e3,x3,hs3,z3,_⟩:=put1 (x0.trans (x1.trans x2)) j1 (.cells [.bool (!decide (s=u) && decide (m*k≠0)),.string (text (ds (m*k)))] 2)
 simp +decide only [go_sem,WR,WS,intA,z2',j1,e3,z3]
theorem top_run (s:Bool) (m k:Nat) (h:Heap) (hl:(ds m).length≤1000000):Runs K 157 #[numA s m k] h fun r _=>r=intA (s && decide (m≠0)) m:=by
 refine Runs.of Kok (Does.intro rfl (by decide +kernel) Tryz.func157 rfl ?_)
 obtain ⟨w0,e0,x0,hs0,z0,z1⟩:=lay2 h (.cells [.bool s,.string (text (ds m)),.string (text (ds k))] 3) (.cells [.bool false,.string ByteArray.empty] 2)
 simp +decide only [go_sem,WR,WS,numA,e0,z0]
 refine W_call Kok x0.1 (of_ds s m hl w0) fun r w2 x2 hr=> ?_
 subst hr
 have z1':w2.get (h.size+1)=_:=(x2.2 _ (by omega)).trans z1
 have j1:h.size≤h.size+1:=by omega
 obtain ⟨w3,e3,x3,hs3,z3,_⟩:=put1 (x0.trans x2) j1 (.cells [.bool (s && decide (m≠0)),.string (text (ds m))] 2)
 simp +decide only [go_sem,WR,WS,intA,z1',j1,e3,z3]
theorem bot_run (s:Bool) (m k:Nat) (h:Heap) (hl:(ds k).length≤1000000):Runs K 158 #[numA s m k] h fun r _=>r=intA false k:=by
 refine Runs.of Kok (Does.intro rfl (by decide +kernel) Tryz.func158 rfl ?_)
 obtain ⟨w0,e0,x0,hs0,z0,z1⟩:=lay2 h (.cells [.bool s,.string (text (ds m)),.string (text (ds k))] 3) (.cells [.bool false,.string ByteArray.empty] 2)
 simp +decide only [go_sem,WR,WS,numA,e0,z0]
 refine W_call Kok x0.1 (of_ds false k hl w0) fun r w2 x2 hr=> ?_
 subst hr
 have z1':w2.get (h.size+1)=_:=(x2.2 _ (by omega)).trans z1
 have j1:h.size≤h.size+1:=by omega
 obtain ⟨w3,e3,x3,hs3,z3,_⟩:=put1 (x0.trans x2) j1 (.cells [.bool false,.string (text (ds k))] 2)
 simp +decide only [go_sem,WR,WS,intA,z1',j1,e3,z3]
theorem zero_run (h:Heap):Runs K 125 #[] h fun r _=>r=numA false 0 1:=by
 refine Runs.of Kok (Does.intro rfl (by decide +kernel) Tryz.func125 rfl ?_)
 obtain ⟨w0,e0,x0,hs0,z0⟩:=lay1 h (.cells [.bool false,.string ByteArray.empty,.string ByteArray.empty] 3)
 obtain ⟨w1,e1,x1,hs1,z1,_⟩:=put1 x0 (Nat.le_refl _) (.cells [.bool false,.string ⟨#[48]⟩,.string ⟨#[49]⟩] 3)
 have sz:(Env.start 2 []).size=2:=rfl
 simp +decide only [go_sem,WR,WS,e0,z0,Nat.le_refl,e1,z1,sz]
 rw [numA,ds_zero,ds_one]
 rfl
theorem whole_run (s:Bool) (m:Nat) (h:Heap):Runs K 128 #[intA s m] h fun r _=>r=numA s m 1:=by
 refine Runs.of Kok (Does.intro rfl (by decide +kernel) Tryz.func128 rfl ?_)
 have j1:h.size≤h.size+1:=by omega
 obtain ⟨w0,e0,x0,hs0,z0,z1⟩:=lay2 h (.cells [.bool s,.string (text (ds m))] 2) (.cells [.bool false,.string ByteArray.empty,.string ByteArray.empty] 3)
 obtain ⟨w1,e1,x1,hs1,z1',_⟩:=put1 x0 j1 (.cells [.bool s,.string (text (ds m)),.string ⟨#[49]⟩] 3)
 simp +decide only [go_sem,WR,WS,intA,e0,z0,z1,j1,e1,z1']
 rw [numA,ds_one]
 rfl
theorem new_run (s u:Bool) (m k:Nat) (h:Heap) (hk:k≠0) (h1:(ds m).length≤2900) (h2:(ds k).length≤2900) :
  Runs K 155 #[intA s m,intA u k] h fun r _=>r= .tuple #[numA (!decide (s=u) && decide (m / Nat.gcd m k≠0)) (m / Nat.gcd m k) (k / Nat.gcd m k),.bool true]:=by
 refine Runs.of Kok (Does.intro rfl (by decide +kernel) Tryz.func155 rfl ?_)
 obtain ⟨w0,e0,x0,hs0,z0,z1,z2⟩:=lay3 h (.cells [.bool s,.string (text (ds m))] 2) (.cells [.bool u,.string (text (ds k))] 2) (.cells [.bool false,.string ByteArray.empty,.string ByteArray.empty] 3)
 have hg:Nat.gcd m k≠0:=fun hh=>hk (Nat.gcd_eq_zero_iff.1 hh).2
 have hgl:(ds (Nat.gcd m k)).length≤2900:=Nat.le_trans (ds_mono (Nat.gcd_le_right m (Nat.pos_of_ne_zero hk))) h2
 simp +decide only [go_sem,WR,WS,intA,e0,z0,z1,zt,hk]
 refine W_call Kok x0.1 (gcd_run m k w0 h1 h2) fun r w1 x1 hr=> ?_
 subst hr
 have z1':w1.get (h.size+1)=_:=(x1.2 _ (by omega)).trans z1
 have z0':w1.get h.size=_:=(x1.2 _ (by omega)).trans z0
 simp +decide only [go_sem,WR,WS,z0']
 refine W_call Kok (x0.trans x1).1 (divmod_run m (Nat.gcd m k) w1 hg (by omega) (by omega)) fun r w2 x2 hr=> ?_
 subst hr
 have z1'':w2.get (h.size+1)=_:=(x2.2 _ (by have:=x1.1;omega)).trans z1'
 simp +decide only [go_sem,WR,WS,z1'']
 refine W_call Kok (x0.trans (x1.trans x2)).1 (divmod_run k (Nat.gcd m k) w2 hg (by omega) (by omega)) fun r w3 x3 hr=> ?_
 subst hr
 have x13:=x1.trans (x2.trans x3)
 have y0:w3.get h.size=_:=(x13.2 _ (by omega)).trans z0
 have y1:w3.get (h.size+1)=_:=(x13.2 _ (by omega)).trans z1
 have y2:w3.get (h.size+2)=_:=(x13.2 _ (by omega)).trans z2
 have j1:h.size≤h.size+2:=by omega
 obtain ⟨w4,e4,x4,hs4,z4,_⟩:=put1 (x0.trans x13) j1 (.cells [.bool (!decide (s=u) && decide (m / Nat.gcd m k≠0)),.string (text (ds (m / Nat.gcd m k))),.string (text (ds (k / Nat.gcd m k)))] 3)
 by_cases hsu:s=u
 ·have d1:decide (s=u)=true:=by simpa using hsu
  rw [d1] at e4 z4
  simp only [Bool.not_true,Bool.false_and] at e4 z4
  simp +decide only [go_sem,WR,WS,y0,y1,y2,d1,j1,e4,z4]
  simp [numA,hsu]
 ·have d1:decide (s=u)=false:=by simpa using hsu
  rw [d1] at e4 z4
  simp only [Bool.not_false,Bool.true_and,ne_eq,decide_not] at e4 z4
  simp +decide only [go_sem,WR,WS,y0,y1,y2,d1,zt,j1,e4,z4]
  simp only [numA,d1,Bool.not_false,Bool.true_and,ne_eq,decide_not]
theorem mul3_run (s u:Bool) (m k m2 k2:Nat) (h:Heap) (hk:k≠0) (hk2:k2≠0) (h1:(ds m).length≤1400) (h2:(ds k).length≤1400) (h3:(ds m2).length≤1400) (h4:(ds k2).length≤1400) :
  Runs K 144 #[numA s m k,numA u m2 k2] h fun r _=>r=numA (!decide ((s && decide (m≠0))=(u && decide (m2≠0))) && decide (m*m2≠0)) (m*m2 / Nat.gcd (m*m2) (k*k2)) (k*k2 / Nat.gcd (m*m2) (k*k2)):=by
 refine Runs.of Kok (Does.intro rfl (by decide +kernel) Tryz.func144 rfl ?_)
 obtain ⟨w0,e0,x0,hs0,z0,z1,z2⟩:=lay3 h (.cells [.bool s,.string (text (ds m)),.string (text (ds k))] 3) (.cells [.bool u,.string (text (ds m2)),.string (text (ds k2))] 3) (.cells [.bool false,.string ByteArray.empty,.string ByteArray.empty] 3)
 simp +decide only [go_sem,WR,WS,numA,e0,z0]
 refine W_call Kok x0.1 (top_run s m k w0 (by omega)) fun r w1 x1 hr=> ?_
 subst hr
 have a1:w1.get (h.size+1)=_:=(x1.2 _ (by omega)).trans z1
 simp +decide only [go_sem,WR,WS,a1]
 have y1:=x0.trans x1
 refine W_call Kok y1.1 (top_run u m2 k2 w1 (by omega)) fun r w2 x2 hr=> ?_
 subst hr
 have y2:=y1.trans x2
 simp +decide only [go_sem,WR,WS]
 refine W_call Kok y2.1 (mul2_run (s && decide (m≠0)) (u && decide (m2≠0)) m m2 w2 (by omega) (by omega)) fun r w3 x3 hr=> ?_
 subst hr
 generalize hS1:(!decide ((s && decide (m≠0))=(u && decide (m2≠0))) && decide (m*m2≠0))=S1
 have y3:=y2.trans x3
 have x13:=x1.trans (x2.trans x3)
 have a0:w3.get h.size=_:=(x13.2 _ (by omega)).trans z0
 simp +decide only [go_sem,WR,WS,a0]
 refine W_call Kok y3.1 (bot_run s m k w3 (by omega)) fun r w4 x4 hr=> ?_
 subst hr
 have y4:=y3.trans x4
 have x14:=x13.trans x4
 have a1:w4.get (h.size+1)=_:=(x14.2 _ (by omega)).trans z1
 simp +decide only [go_sem,WR,WS,a1]
 refine W_call Kok y4.1 (bot_run u m2 k2 w4 (by omega)) fun r w5 x5 hr=> ?_
 subst hr
 have y5:=y4.trans x5
 simp +decide only [go_sem,WR,WS]
 refine W_call Kok y5.1 (mul2_run false false k k2 w5 (by omega) (by omega)) fun r w6 x6 hr=> ?_
 subst hr
 generalize hS2:(!decide (false=false) && decide (k*k2≠0))=S2
 have y6:=y5.trans x6
 have l1:=ds_mul h1 h3
 have l2:=ds_mul h2 h4
 have hkk:k*k2≠0:=Nat.mul_ne_zero hk hk2
 simp +decide only [go_sem,WR,WS]
 refine W_call Kok y6.1 (new_run _ _ (m*m2) (k*k2) w6 hkk (by omega) (by omega)) fun r w7 x7 hr=> ?_
 subst hr
 have x17:=x14.trans (x5.trans (x6.trans x7))
 have y7:=y6.trans x7
 have a2:w7.get (h.size+2)=_:=(x17.2 _ (by omega)).trans z2
 have hsg:(!decide ((!decide ((s && decide (m≠0))=(u && decide (m2≠0))) && decide (m*m2≠0))=(!decide (false=false) && decide (k*k2≠0))) && decide (m*m2 / Nat.gcd (m*m2) (k*k2)≠0)) =
   (!decide ((s && decide (m≠0))=(u && decide (m2≠0))) && decide (m*m2≠0)):=by
  have e1:decide (m*m2 / Nat.gcd (m*m2) (k*k2)≠0)=decide (m*m2≠0):=decide_eq_decide.2 (Go.Proofs.YtjlaenglmdpboaaGreat.N14.gcd_quo hkk)
  rw [e1]
  cases (!decide ((s && decide (m≠0))=(u && decide (m2≠0))))<;>cases decide (m*m2≠0)<;>rfl
 subst hS1
 subst hS2
 rw [hsg]
 generalize (!decide ((s && decide (m≠0))=(u && decide (m2≠0))) && decide (m*m2≠0))=sg
 generalize m*m2 / Nat.gcd (m*m2) (k*k2)=M
 generalize k*k2 / Nat.gcd (m*m2) (k*k2)=D
 obtain ⟨w8,e8,x8,hs8,z8⟩:=lay1 w7 (.cells [.bool false,.string ByteArray.empty,.string ByteArray.empty] 3)
 have j1:h.size≤h.size+2:=by omega
 have j2:h.size≤w7.size:=y7.1
 obtain ⟨w9,e9,x9,hs9,z9,k9⟩:=put1 (y7.trans x8) j2 (.cells [.bool sg,.string (text (ds M)),.string (text (ds D))] 3)
 have lt7:h.size+2 < w7.size:=by have:=x17.1;omega
 have a3:w9.get (h.size+2)=_:=(k9 _ (by omega)).trans ((x8.2 _ lt7).trans a2)
 obtain ⟨w10,e10,x10,hs10,z10,_⟩:=put1 x9 j1 (.cells [.bool sg,.string (text (ds M)),.string (text (ds D))] 3)
 simp +decide only [go_sem,WR,WS,numA,e8,z8,j1,j2,e9,z9,a3,e10,z10]
theorem div3_run (s u:Bool) (m k m2 k2:Nat) (h:Heap) (hk:k≠0) (hm2:m2≠0) (h1:(ds m).length≤1400) (h2:(ds k).length≤1400) (h3:(ds m2).length≤1400) (h4:(ds k2).length≤1400) (hk2:k2≠0) :
  Runs K 146 #[numA s m k,numA u m2 k2] h fun r _=>r= .tuple #[numA (!decide ((s && decide (m≠0))=u) && decide (m≠0)) (m*k2 / Nat.gcd (m*k2) (k*m2)) (k*m2 / Nat.gcd (m*k2) (k*m2)),.bool true]:=by
 refine Runs.of Kok (Does.intro rfl (by decide +kernel) Tryz.func146 rfl ?_)
 obtain ⟨w0,e0,x0,hs0,z0,z1,z2⟩:=lay3 h (.cells [.bool s,.string (text (ds m)),.string (text (ds k))] 3) (.cells [.bool u,.string (text (ds m2)),.string (text (ds k2))] 3) (.cells [.bool false,.string ByteArray.empty,.string ByteArray.empty] 3)
 simp +decide only [go_sem,WR,WS,numA,e0,z0]
 refine W_call Kok x0.1 (top_run s m k w0 (by omega)) fun r w1 x1 hr=> ?_
 subst hr
 have a1:w1.get (h.size+1)=_:=(x1.2 _ (by omega)).trans z1
 simp +decide only [go_sem,WR,WS,a1]
 have y1:=x0.trans x1
 refine W_call Kok y1.1 (bot_run u m2 k2 w1 (by omega)) fun r w2 x2 hr=> ?_
 subst hr
 have y2:=y1.trans x2
 simp +decide only [go_sem,WR,WS]
 refine W_call Kok y2.1 (mul2_run (s && decide (m≠0)) false m k2 w2 (by omega) (by omega)) fun r w3 x3 hr=> ?_
 subst hr
 generalize hS1:(!decide ((s && decide (m≠0))=false) && decide (m*k2≠0))=S1
 have y3:=y2.trans x3
 have x13:=x1.trans (x2.trans x3)
 have a0:w3.get h.size=_:=(x13.2 _ (by omega)).trans z0
 simp +decide only [go_sem,WR,WS,a0]
 refine W_call Kok y3.1 (bot_run s m k w3 (by omega)) fun r w4 x4 hr=> ?_
 subst hr
 have y4:=y3.trans x4
 have x14:=x13.trans x4
 have a1:w4.get (h.size+1)=_:=(x14.2 _ (by omega)).trans z1
 simp +decide only [go_sem,WR,WS,a1]
 refine W_call Kok y4.1 (top_run u m2 k2 w4 (by omega)) fun r w5 x5 hr=> ?_
 subst hr
 have y5:=y4.trans x5
 simp +decide only [go_sem,WR,WS]
 refine W_call Kok y5.1 (mul2_run false (u && decide (m2≠0)) k m2 w5 (by omega) (by omega)) fun r w6 x6 hr=> ?_
 subst hr
 generalize hS2:(!decide (false=(u && decide (m2≠0))) && decide (k*m2≠0))=S2
 have y6:=y5.trans x6
 have l1:=ds_mul h1 h4
 have l2:=ds_mul h2 h3
 have hkk:k*m2≠0:=Nat.mul_ne_zero hk hm2
 simp +decide only [go_sem,WR,WS]
 refine W_call Kok y6.1 (new_run _ _ (m*k2) (k*m2) w6 hkk (by omega) (by omega)) fun r w7 x7 hr=> ?_
 subst hr
 have x17:=x14.trans (x5.trans (x6.trans x7))
 have y7:=y6.trans x7
 have a2:w7.get (h.size+2)=_:=(x17.2 _ (by omega)).trans z2
 have hmk:(m*k2≠0)=(m≠0):=propext ⟨fun hh h0=>hh (by rw [h0,Nat.zero_mul]),fun hh=>Nat.mul_ne_zero hh hk2⟩
 have hsg:(!decide ((!decide ((s && decide (m≠0))=false) && decide (m*k2≠0))=(!decide (false=(u && decide (m2≠0))) && decide (k*m2≠0))) && decide (m*k2 / Nat.gcd (m*k2) (k*m2)≠0)) =
   (!decide ((s && decide (m≠0))=u) && decide (m≠0)):=by
  have e1:decide (m*k2 / Nat.gcd (m*k2) (k*m2)≠0)=decide (m≠0):=decide_eq_decide.2 ((Go.Proofs.YtjlaenglmdpboaaGreat.N14.gcd_quo hkk).trans (by rw [hmk]))
  rw [e1]
  simp only [hmk,decide_eq_true hm2,decide_eq_true hkk,Bool.and_true]
  cases decide (m≠0)<;>cases s<;>cases u<;>rfl
 subst hS1
 subst hS2
 rw [hsg]
 generalize (!decide ((s && decide (m≠0))=u) && decide (m≠0))=sg
 generalize m*k2 / Nat.gcd (m*k2) (k*m2)=M
 generalize k*m2 / Nat.gcd (m*k2) (k*m2)=D
 have j1:h.size≤h.size+2:=by omega
 obtain ⟨w10,e10,x10,hs10,z10,_⟩:=put1 y7 j1 (.cells [.bool sg,.string (text (ds M)),.string (text (ds D))] 3)
 simp +decide only [go_sem,WR,WS,numA,a2,j1,e10,z10]
theorem zeros_run (n:Nat) (h:Heap) (hn:n≤1000000):Runs K 145 #[.int .i64 (n:Int)] h fun r _=>r= .string (text (List.replicate n 48)):=by
 refine Runs.of Kok (Does.intro rfl (by decide +kernel) Tryz.func145 rfl ?_)
 simp +decide only [go_sem,WR,WS]
 refine W_loop (α:=Nat) (fun i e w=>i≤n∧e.size=13∧Ext h w∧e.get 0= .int .i64 (n:Int)∧e.get 3= .string (text (List.replicate i 48))∧e.get 4= .int .i64 (i:Int)) (fun i=>n - i) 0 ?_ ?_
 ·exact ⟨Nat.zero_le _,by simp +decide only [go_sem],Ext.refl h,by simp +decide only [go_sem],by simp +decide only [go_sem];rfl,by simp +decide only [go_sem];rfl⟩
 ·rintro i e w ⟨hi,hsz,hxw,e0,e3,e4⟩ next
  by_cases hc:(i:Int) < (n:Int)
  ·have hcat:∀ t,ibinop Tryz.prog .add t (.string (text (List.replicate i 48))) (.string (⟨#[48]⟩:ByteArray))=some (.string (text (List.replicate (i+1) 48))):=fun t=>by
    rw [List.replicate_succ']
    exact cat_ok (b:=[48]) (by simp;omega)
   have i1:IntKind.i64.wrap ((i:Int)+1)=((i+1:Nat):Int):=by rw [wrap_i64 (by omega) (by omega)];omega
   simp +decide only [go_sem,WR,WS,hsz,e0,e3,e4,hc,hcat,i1]
   exact next (i+1) _ _ ⟨by omega,by simp +decide only [go_sem,hsz],hxw,by simp +decide only [go_sem,hsz,e0],by simp +decide only [go_sem,hsz],by simp +decide only [go_sem,hsz]⟩ (by omega)
  ·have:i=n:=by omega
   subst this
   simp +decide only [go_sem,WR,WS,hsz,e0,e3,e4,hc]
theorem times10_run (s:Bool) (m k:Nat) (n:Int) (h:Heap) (hk:k≠0) (h1:(ds m).length≤1400) (h2:(ds k).length≤1400) (hn1: -1300≤n) (hn2:n≤1300) :
  Runs K 127 #[numA s m k,.int .i64 n] h fun r _=>if 0≤n then r=numA (s && decide (m≠0)) (m*10 ^ n.toNat / Nat.gcd (m*10 ^ n.toNat) k) (k / Nat.gcd (m*10 ^ n.toNat) k)
   else r=numA (s && decide (m≠0)) (m / Nat.gcd m (k*10 ^ (-n).toNat)) (k*10 ^ (-n).toNat / Nat.gcd m (k*10 ^ (-n).toNat)):=by
 refine Runs.of Kok (Does.intro rfl (by decide +kernel) Tryz.func127 rfl ?_)
 obtain ⟨w0,e0,x0,hs0,z0,z1⟩:=lay2 h (.cells [.bool s,.string (text (ds m)),.string (text (ds k))] 3) (.cells [.bool false,.string ByteArray.empty,.string ByteArray.empty] 3)
 have j1:h.size≤h.size+1:=by omega
 by_cases hn:0≤n
 ·obtain ⟨N,rfl⟩:=Int.eq_ofNat_of_zero_le hn
  simp +decide only [go_sem,WR,WS,numA,e0,z0,hn]
  refine W_call Kok x0.1 (zeros_run N w0 (by omega)) fun r w1 x1 hr=> ?_
  subst hr
  have hcat:∀ t,ibinop Tryz.prog .add t (.string (⟨#[49]⟩:ByteArray)) (.string (text (List.replicate N 48)))=some (.string (text (ds (10 ^ N)))):=fun t=>by
   rw [ds_pow]
   exact cat_ok (a:=[49]) (by simp;omega)
  simp +decide only [go_sem,WR,WS,hcat]
  have hp:(ds (10 ^ N)).length≤1400:=by rw [ds_pow];simp;omega
  have hp0:10 ^ N≠0:=Nat.ne_of_gt (Nat.pow_pos (by omega))
  have e1:(⟨#[49]⟩:ByteArray)=text (ds 1):=by rw [ds_one];rfl
  have l1:(ds 1).length≤1400:=by rw [ds_one];simp
  rw [e1]
  refine W_call Kok (x0.trans x1).1 (mul3_run s false m k (10 ^ N) 1 w1 hk (by omega) h1 h2 hp l1) fun r w2 x2 hr=> ?_
  subst hr
  have z1':w2.get (h.size+1)=_:=((x1.trans x2).2 _ (by omega)).trans z1
  have hsg:(!decide ((s && decide (m≠0))=(false && decide (10 ^ N≠0))) && decide (m*10 ^ N≠0))=(s && decide (m≠0)):=by
   have:(m*10 ^ N≠0)=(m≠0):=propext ⟨fun hh h0=>hh (by rw [h0,Nat.zero_mul]),fun hh=>Nat.mul_ne_zero hh hp0⟩
   simp only [this,Bool.false_and]
   cases decide (m≠0)<;>cases s<;>rfl
  rw [hsg,Nat.mul_one]
  obtain ⟨w3,e3,x3,hs3,z3,_⟩:=put1 (x0.trans (x1.trans x2)) j1 (.cells [.bool (s && decide (m≠0)),.string (text (ds (m*10 ^ N / Nat.gcd (m*10 ^ N) k))),.string (text (ds (k / Nat.gcd (m*10 ^ N) k)))] 3)
  simp +decide only [go_sem,WR,WS,numA,z1',j1,e3,z3,Int.toNat_natCast]
 ·obtain ⟨N,hN⟩:∃ N:Nat, -n=(N:Int):=⟨(-n).toNat,by omega⟩
  have hn':n= -(N:Int):=by omega
  subst hn'
  have i1:IntKind.i64.wrap (0 - -(N:Int))=(N:Int):=by rw [wrap_i64 (by omega) (by omega)];omega
  simp +decide only [go_sem,WR,WS,numA,e0,z0,hn,i1]
  refine W_call Kok x0.1 (zeros_run N w0 (by omega)) fun r w1 x1 hr=> ?_
  subst hr
  have hcat:∀ t,ibinop Tryz.prog .add t (.string (⟨#[49]⟩:ByteArray)) (.string (text (List.replicate N 48)))=some (.string (text (ds (10 ^ N)))):=fun t=>by
   rw [ds_pow]
   exact cat_ok (a:=[49]) (by simp;omega)
  simp +decide only [go_sem,WR,WS,hcat]
  have hp:(ds (10 ^ N)).length≤1400:=by rw [ds_pow];simp;omega
  have hp0:10 ^ N≠0:=Nat.ne_of_gt (Nat.pow_pos (by omega))
  have e1:(⟨#[49]⟩:ByteArray)=text (ds 1):=by rw [ds_one];rfl
  have l1:(ds 1).length≤1400:=by rw [ds_one];simp
  rw [e1]
  refine W_call Kok (x0.trans x1).1 (div3_run s false m k (10 ^ N) 1 w1 hk hp0 h1 h2 hp l1 (by omega)) fun r w2 x2 hr=> ?_
  subst hr
  have z1':w2.get (h.size+1)=_:=((x1.trans x2).2 _ (by omega)).trans z1
  have hsg:(!decide ((s && decide (m≠0))=false) && decide (m≠0))=(s && decide (m≠0)):=by
   cases decide (m≠0)<;>cases s<;>rfl
  rw [hsg,Nat.mul_one]
  obtain ⟨w3,e3,x3,hs3,z3⟩:=lay1 w2 (.cells [.bool false,.string ByteArray.empty,.string ByteArray.empty] 3)
  have y2:=x0.trans (x1.trans x2)
  have j2:=y2.1
  obtain ⟨w4,e4,x4,hs4,z4,k4⟩:=put1 (y2.trans x3) j2 (.cells [.bool (s && decide (m≠0)),.string (text (ds (m / Nat.gcd m (k*10 ^ N)))),.string (text (ds (k*10 ^ N / Nat.gcd m (k*10 ^ N))))] 3)
  have lt2:h.size+1 < w2.size:=by have:=(x1.trans x2).1;omega
  have z1'':w4.get (h.size+1)=_:=(k4 _ (by omega)).trans ((x3.2 _ lt2).trans z1')
  obtain ⟨w5,e5,x5,hs5,z5,_⟩:=put1 x4 j1 (.cells [.bool (s && decide (m≠0)),.string (text (ds (m / Nat.gcd m (k*10 ^ N)))),.string (text (ds (k*10 ^ N / Nat.gcd m (k*10 ^ N))))] 3)
  have i2:(- -(N:Int)).toNat=N:=by omega
  simp +decide only [go_sem,WR,WS,numA,e3,z3,j1,j2,e4,z4,z1'',e5,z5,hn,i2]
end Go.Proofs.YtjlaenglmdpboaaGreat.R4
namespace Go.Im.Lexing
open Go.Proofs.YtjlaenglmdpboaaGreat.N12 Go.Proofs.YtjlaenglmdpboaaGreat.N14 Go.Im.Dec
def expoN (s:List Int):Int :=
 if s[0]? =some 69 then
  if hi (s.drop 1)=1 then - ((dec (dbs (digs (s.drop (1+hi (s.drop 1))))):Nat):Int) else ((dec (dbs (digs (s.drop (1+hi (s.drop 1))))):Nat):Int)
 else 0
def tailS (s:List Int):List Int:=if pt (s.drop (hi s+(digs (s.drop (hi s))).length))=1 then digs (s.drop (hi s+(digs (s.drop (hi s))).length+1)) else []
def readN (s:List Int):Bool × Nat × Int :=
 (decide (hi s=1),dec (dbs (digs (s.drop (hi s)))++dbs (tailS s)),expoN (s.drop (hi s+(digs (s.drop (hi s))).length+pt (s.drop (hi s+(digs (s.drop (hi s))).length))+(tailS s).length)) - ((tailS s).length:Int))
theorem readN_eq {l:List Int} {i A B C:Nat} {D T:List Int} {neg p:Bool} (hn:neg=decide (l[i]? =some 175)) (hA:A=i+if neg then 1 else 0) (hD:D=digs (l.drop A)) (hB:B=A+D.length) (hp:p=decide (l[B]? =some 46))
  (hT:T=if p then digs (l.drop (B+1)) else []) (hC:C=B+if p then 1+T.length else 0):readN (l.drop i)=(neg,dec (dbs D++dbs T),expoN (l.drop C) - (T.length:Int)):=by
 have e1:hi (l.drop i)=if neg then 1 else 0:=by
  unfold hi
  rw [List.getElem?_drop,hn]
  simp
 have e2:i+hi (l.drop i)=A:=by rw [e1,hA]
 have e3:pt (l.drop B)=if p then 1 else 0:=by
  rw [Go.Proofs.YtjlaenglmdpboaaGreat.N17.pt_drop,hp]
  simp
 have e4:tailS (l.drop i)=T:=by
  unfold tailS
  simp only [List.drop_drop]
  rw [e2,← hD,← Nat.add_assoc,e2,← hB,e3,show i+(hi (l.drop i)+D.length+1)=B+1 by omega,hT]
  cases p<;>rfl
 unfold readN
 rw [e4]
 simp only [List.drop_drop]
 have e6:i+(hi (l.drop i)+D.length)=B:=by omega
 rw [e2,← hD,e6,e3]
 have e5:i+(hi (l.drop i)+D.length+(if p=true then 1 else 0)+T.length)=C:=by
  cases p with
  | false =>
    have:T=[]:=hT
    subst this
    simp at hC ⊢
    omega
  | true =>
    simp at hC ⊢
    omega
 rw [e5,e1]
 cases neg<;>rfl
def ratN (x:Bool × Nat × Int):Value:=numA (x.1 && decide (x.2.1≠0)) (scM x.2.1 x.2.2) (scK x.2.1 x.2.2)
end Go.Im.Lexing
namespace Go.Proofs.YtjlaenglmdpboaaGreat.R5
open Go Go.Im Go.Im.Limbs Go.Im.Lexing Go.Im.Dec Go.Proofs Go.RowKit Hd N12 N14 N16 N17 R1 R4
set_option maxRecDepth 100000
theorem rdigit_run (c:Int) (h:Heap):Runs K 97 #[.int .i32 c] h fun r _=>r= .bool (isD c):=by
 refine Runs.of Kok (Does.intro rfl (by decide +kernel) Tryz.func97 rfl ?_)
 by_cases a1:48≤c
 ·simp +decide only [go_sem,WR,WS,a1]
  simp [isD,a1]
 ·simp +decide only [go_sem,WR,WS,a1]
  simp [isD,a1]
theorem rbegins_run (l:List Int) (i:Nat) {v:Value} (h:Heap) (t:Tx h v l) (hm:l.length≤1099511627776) (hi:i≤l.length):Runs K 74 #[v,.int .i64 (i:Int)] h fun r _=>r= .bool (begins (l.drop i)):=by
 obtain ⟨a,c,rfl⟩:=t.open
 refine Runs.of Kok (Does.intro rfl (by decide +kernel) Tryz.func74 rfl ?_)
 have i0:¬ (i:Int) < 0:=by omega
 have i0':(0:Int)≤(i:Int):=by omega
 by_cases hil:((l.length:Nat):Int)≤(i:Int)
 ·have:begins (l.drop i)=false:=by
   rw [List.drop_of_length_le (by omega)]
   rfl
  simp +decide only [go_sem,WR,WS,i0,hil,this]
 obtain ⟨x,hx⟩:∃ x,l[i]? =some x:=⟨_,List.getElem?_eq_getElem (by omega)⟩
 obtain ⟨b,o,cs,q1,q2,q3,q4⟩:=t.one hx
 cases q1
 have hil':(i:Int) < ((l.length:Nat):Int):=by omega
 have b0:(l.drop i)[0]? =some x:=by rw [List.getElem?_drop];exact hx
 have b1:(l.drop i)[1]? =l[i+1]? :=by rw [List.getElem?_drop]
 simp +decide only [go_sem,WR,WS,i0,i0',hil,hil',Int.toNat_natCast,Nat.mul_one,q3,q4]
 refine W_call Kok (Nat.le_refl _) (rdigit_run x h) fun r w x1 hr=> ?_
 subst hr
 obtain ⟨b',o',cs',q1,q2,q3,q4⟩:=(t.ext x1).one hx
 cases q1
 have i2:IntKind.i64.wrap ((i:Int)+1)=((i+1:Nat):Int):=by rw [wrap_i64 (by omega) (by omega)];omega
 have i4:IntKind.i64.wrap (((l.length:Nat):Int) - 1)=((l.length - 1:Nat):Int):=by rw [wrap_i64 (by omega) (by omega)];omega
 cases hd:isD x with
 | true =>
   have:begins (l.drop i)=true:=by simp [begins,b0,hd]
   simp +decide only [go_sem,WR,WS,this]
 | false =>
 by_cases h175:x=175
 ·have:begins (l.drop i)=true:=by simp [begins,b0,h175]
  simp +decide only [go_sem,WR,WS,i0',hil',Int.toNat_natCast,Nat.mul_one,q3,q4,h175,this]
 by_cases h46:x=46
 case neg =>
  have:begins (l.drop i)=false:=by simp [begins,b0,hd,h175,h46]
  simp +decide only [go_sem,WR,WS,i0',hil',Int.toNat_natCast,Nat.mul_one,q3,q4,h175,h46,this]
 by_cases hl2:(i:Int) < ((l.length - 1:Nat):Int)
 case neg =>
  have hnone:l[i+1]? =none:=List.getElem?_eq_none (by omega)
  have:begins (l.drop i)=false:=by simp [begins,b0,b1,hd,h175,h46,hnone,show isD 46=false from rfl]
  simp +decide only [go_sem,WR,WS,i0',hil',Int.toNat_natCast,Nat.mul_one,q3,q4,h175,h46,i4,hl2,this]
 obtain ⟨y,hy⟩:∃ y,l[i+1]? =some y:=⟨_,List.getElem?_eq_getElem (by omega)⟩
 obtain ⟨b2,o2,cs2,p1,p2,p3,p4⟩:=(t.ext x1).one hy
 cases p1
 rw [q3] at p3
 cases p3
 have i3:(0:Int)≤((i+1:Nat):Int):=by omega
 have i5:((i+1:Nat):Int) < ((l.length:Nat):Int):=by omega
 simp +decide only [go_sem,WR,WS,i0',hil',Int.toNat_natCast,Nat.mul_one,q3,q4,h175,h46,i2,i4,hl2,i3,i5,p4]
 refine W_call Kok x1.1 (rdigit_run y w) fun r w2 x2 hr=> ?_
 subst hr
 simp +decide only [go_sem,WR,WS]
 simp [begins,b0,b1,hy,hd,h175,h46,show isD 46=false from rfl]
theorem rrun_run (l:List Int) (i:Nat) {v:Value} (h:Heap) (t:Tx h v l) (hm:l.length≤1099511627776) (hi:i≤l.length) :
  Runs K 126 #[v,.int .i64 (i:Int)] h fun r _=>r= .int .i64 (((digs (l.drop i)).length:Nat):Int):=by
 obtain ⟨a,c,rfl⟩:=t.open
 refine Runs.of Kok (Does.intro rfl (by decide +kernel) Tryz.func126 rfl ?_)
 obtain ⟨D,hD⟩:∃ D,D=digs (l.drop i):=⟨_,rfl⟩
 rw [← hD]
 have hDl:i+D.length≤l.length:=by rw [hD];exact digs_len hi
 simp +decide only [go_sem,WR,WS]
 refine W_loop (α:=Nat) (fun k e w=>k≤D.length∧e.size=24∧Ext h w∧e.get 0= .slice a l.length c∧e.get 1= .int .i64 (i:Int)∧e.get 5= .int .i64 (k:Int)) (fun k=>D.length - k) 0 ?_ ?_
 ·exact ⟨Nat.zero_le _,by simp +decide only [go_sem],Ext.refl h,by simp +decide only [go_sem],by simp +decide only [go_sem],by simp +decide only [go_sem];rfl⟩
 ·rintro k e w ⟨hk,hsz,hxw,e0,e1,e5⟩ next
  have i1:IntKind.i64.wrap ((i:Int)+(k:Int))=((i+k:Nat):Int):=by rw [wrap_i64 (by omega) (by omega)];omega
  have i2:IntKind.i64.wrap ((k:Int)+1)=((k+1:Nat):Int):=by rw [wrap_i64 (by omega) (by omega)];omega
  have i0:(0:Int)≤((i+k:Nat):Int):=by omega
  by_cases hkl:k < D.length
  ·obtain ⟨x,hx,hdx⟩:=tw_lt (p:=isD) (l:=l.drop i) (k:=k) (by rw [← digs,← hD];exact hkl)
   rw [List.getElem?_drop] at hx
   have hil:=(List.getElem?_eq_some_iff.1 hx).1
   have hil':((i+k:Nat):Int) < ((l.length:Nat):Int):=by omega
   obtain ⟨b,o,cs,q1,q2,q3,q4⟩:=(t.ext hxw).one hx
   cases q1
   simp +decide only [go_sem,WR,WS,hsz,e0,e1,e5,i1,hil',i0,Int.toNat_natCast,Nat.mul_one,q3,q4]
   refine W_call Kok hxw.1 (rdigit_run x w) fun r w2 x2 hr=> ?_
   subst hr
   simp +decide only [go_sem,WR,WS,hsz,e0,e1,e5,hdx,i2]
   exact next (k+1) _ _ ⟨by omega,by simp +decide only [go_sem,hsz],hxw.trans x2,by simp +decide only [go_sem,hsz,e0],by simp +decide only [go_sem,hsz,e1],by simp +decide only [go_sem,hsz]⟩ (by omega)
  ·have hkD:k=D.length:=by omega
   subst hkD
   by_cases hil:((i+D.length:Nat):Int) < ((l.length:Nat):Int)
   case neg =>
    simp +decide only [go_sem,WR,WS,hsz,e0,e1,e5,i1,hil]
   obtain ⟨x,hx⟩:∃ x,l[i+D.length]? =some x:=⟨_,List.getElem?_eq_getElem (by omega)⟩
   have hdx:isD x=false:=by
    refine tw_end (l:=l.drop i) ?_
    rw [List.getElem?_drop,← digs,← hD]
    exact hx
   obtain ⟨b,o,cs,q1,q2,q3,q4⟩:=(t.ext hxw).one hx
   cases q1
   simp +decide only [go_sem,WR,WS,hsz,e0,e1,e5,i1,hil,i0,Int.toNat_natCast,Nat.mul_one,q3,q4]
   refine W_call Kok hxw.1 (rdigit_run x w) fun r w2 x2 hr=> ?_
   subst hr
   simp +decide only [go_sem,WR,WS,hsz,e0,e1,e5,hdx]
end Go.Proofs.YtjlaenglmdpboaaGreat.R5
