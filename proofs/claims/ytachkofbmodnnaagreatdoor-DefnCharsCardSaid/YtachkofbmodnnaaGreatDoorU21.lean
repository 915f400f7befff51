/- Proved here: parts of the way to BDefnChars (BP3 BL4 BM11 BM9); no condition beyond those that each theorem names. -/
import Derived.Test.YtachkofbmodnnaaGreatDoorU14
import Derived.Test.YtachkofbmodnnaaGreatDoorU20
import Derived.Test.YtachkofbmodnnaaGreatDoorU4
import Derived.Deep.Slices
import Derived.ChangeSame
import Derived.ChangeSlices
import Derived.Lib.SmallJoins
import Derived.Laws.RangeAny
set_option linter.unusedSimpArgs false
set_option linter.unusedVariables false
namespace Go.Im.Arrays
open Go Go.Im Go.Im.Lexing Go.Im.Limbs
theorem iv_get {l:List Int} {i:Nat} {d:Int} (h:l[i]? =some d):(iv l)[i]? =some (.int .i64 d):=by simp [iv,h]
def cntF:List Int→Nat→Bool→Option Nat
 | [],n,z=>some (if z=true then 0 else n)
 | d::l,n,z=>if d < 0∨4096 < n*max 1 d.toNat then none else cntF l (n*max 1 d.toNat) (z || decide (d=0))
theorem cnt_bad {d:Int} {l:List Int} {n:Nat} {z:Bool} (h:d < 0∨4096 < n*max 1 d.toNat):cntF (d::l) n z=none:=by rw [cntF,if_pos h]
theorem cnt_pos {d:Nat} {l:List Int} {n:Nat} {z:Bool} (h0:d≠0) (h:n*d≤4096):cntF ((d:Int)::l) n z=cntF l (n*d) z:=by
 have e:max 1 ((d:Int)).toNat=d:=by rw [Int.toNat_natCast];omega
 rw [cntF,e,if_neg (by omega)]
 have:decide ((d:Int)=0)=false:=by simp;omega
 rw [this,Bool.or_false]
theorem cnt_zero {l:List Int} {n:Nat} {z:Bool} (h:n≤4096):cntF (0::l) n z=cntF l n true:=by
 rw [cntF,if_neg (by simp;omega)]
 simp
def cntV (o:Option Nat):Value:=match o with
 | some n=> .tuple #[.int .i64 (n:Int),.bool true]
 | none=> .tuple #[.int .i64 0,.bool false]
theorem drop_of {l:List Int} {i:Nat} {d:Int} (h:l[i]? =some d):l.drop i=d::l.drop (i+1):=by
 obtain ⟨hi,e⟩:=List.getElem?_eq_some_iff.1 h
 rw [List.drop_eq_getElem_cons hi,e]
abbrev NT3:=Bool × List UInt8 × List UInt8
def ncs (l:List NT3):List Value:=l.flatMap fun x=>[.bool x.1,.string (text x.2.1),.string (text x.2.2)]
theorem ncs_length (l:List NT3):(ncs l).length=l.length*3:=by
 induction l with
 | nil=>rfl
 | cons x l ih=>simp only [ncs,List.flatMap_cons,List.length_append,List.length_cons,List.length_nil] at ih ⊢;omega
theorem ncs_at:∀ {l:List NT3} {i:Nat} {x:NT3},l[i]? =some x→((ncs l).drop (i*3)).take 3=[.bool x.1,.string (text x.2.1),.string (text x.2.2)]
 | [],i,x,h=>by simp at h
 | y::l,0,x,h=>by
   cases h
   rfl
 | y::l,i+1,x,h=>by
   have e:ncs (y::l)= .bool y.1:: .string (text y.2.1):: .string (text y.2.2)::ncs l:=rfl
   rw [e,show (i+1)*3=i*3+3 by omega]
   exact ncs_at (l:=l) (by simpa using h)
theorem sl_num {h:Heap} {a:Option Addr} {c i:Nat} {l:List NT3} (s:Sl h 3 a l.length c (ncs l)) {x:NT3} (hx:l[i]? =some x) :
  ∃ b o cs,a=some ⟨b,o,none⟩∧b < h.size∧(h.get b).read= .cells cs 3∧(cs.drop (o+i*3)).take 3=[.bool x.1,.string (text x.2.1),.string (text x.2.2)]∧o+i*3+3≤cs.length ∧
    cs[o+i*3+1]? =some (.string (text x.2.1))∧cs[o+i*3+2]? =some (.string (text x.2.2)):=by
 have hi:i < l.length:=(List.getElem?_eq_some_iff.1 hx).1
 obtain ⟨b,o,cs,h1,h2,h3,h4,h5⟩:=s.at hi
 have e:=ncs_at hx
 rw [h5,List.drop_take,List.drop_drop,List.take_take,Nat.min_eq_left (by omega)] at e
 have g:∀ j,j < 3→cs[o+i*3+j]? =([.bool x.1,.string (text x.2.1),.string (text x.2.2)]:List Value)[j]? :=by
  intro j hj
  rw [← e,List.getElem?_take,if_pos hj,List.getElem?_drop]
 exact ⟨b,o,cs,h1,h2,h3,e,by omega,g 1 (by omega),g 2 (by omega)⟩
structure PlT where
 shape:List Int
 ch:Bool
 tx:List Int
 nums:List NT3
def PV (w:Heap) (v:Value) (p:PlT):Prop:=∃ a c a1 c1 a2 c2,v= .agg #[.slice a p.shape.length c,.bool p.ch,.slice a1 p.tx.length c1,.slice a2 p.nums.length c2] ∧
 Sl w 1 a p.shape.length c (iv p.shape)∧Sl w 1 a1 p.tx.length c1 (rv p.tx)∧Sl w 3 a2 p.nums.length c2 (ncs p.nums)
theorem PV.ext {w w':Heap} (k:Ext w w') {v:Value} {p:PlT} (H:PV w v p):PV w' v p:=by
 obtain ⟨a,c,a1,c1,a2,c2,h1,h2,h3,h4⟩:=H
 exact ⟨a,c,a1,c1,a2,c2,h1,h2.ext k,h3.ext k,h4.ext k⟩
end Go.Im.Arrays
namespace Go.Proofs.YtachkofbmodnnaaGreatDoor.P3
open Go Go.Im Go.Im.Limbs Go.Im.Lexing Go.Im.Arrays Go.Proofs Go.RowKit Hd P2
set_option maxRecDepth 100000
theorem rcount_run (l:List Int) (h:Heap) {a:Option Addr} {c:Nat} (s:Sl h 1 a l.length c (iv l)) (hl:l.length≤8):Runs K 71 #[.slice a l.length c] h fun r w=>h=w∧r=cntV (cntF l 1 false):=by
 refine Runs.of Kok (Does.intro rfl (by decide +kernel) Tryz.func71 rfl ?_)
 simp +decide only [go_sem,WR,WS]
 refine W_loop (α:=Nat × Nat × Bool) (fun k e w=>k.1≤l.length∧e.size=49∧h=w∧e.get 0= .slice a l.length c∧e.get 4= .int .i64 (k.2.1:Int)∧e.get 5= .int .i64 (if k.2.2=true then 0 else (k.2.1:Int))∧e.get 6= .int .i64 (k.1:Int)∧1≤k.2.1∧k.2.1≤4096∧cntF l 1 false=cntF (l.drop k.1) k.2.1 k.2.2)
  (fun k=>l.length - k.1) (0,1,false) ?_ ?_
 ·exact ⟨Nat.zero_le _,by simp +decide only [go_sem],rfl,by simp +decide only [go_sem],by simp +decide only [go_sem];rfl,by simp +decide only [go_sem];rfl,by simp +decide only [go_sem];rfl,by simp,by simp,by simp⟩
 rintro ⟨i,n,z⟩ e w ⟨hi,hsz,hw,e0,e4,e5,e6,hn1,hn2,hc⟩ next
 simp only at hi e4 e5 e6 hn1 hn2 hc
 subst hw
 by_cases hil:(i:Int) < ((l.length:Nat):Int)
 case neg =>
  rw [List.drop_of_length_le (by omega),cntF] at hc
  rw [hc]
  simp +decide only [go_sem,WR,WS,hsz,e0,e4,e5,e6,hil]
  simp only [cntV]
  cases z<;>simp
 obtain ⟨d,hd⟩:∃ d,l[i]? =some d:=⟨_,List.getElem?_eq_getElem (by omega)⟩
 rw [drop_of hd] at hc
 obtain ⟨b,o,cs,rfl,q2,q3,q4⟩:=s.one (iv_get hd)
 have c0:(0:Int)≤(i:Int):=by omega
 have c8:¬ (8:Int)≤(i:Int):=by omega
 have i1:IntKind.i64.wrap ((i:Int)+1)=((i+1:Nat):Int):=by rw [wrap_i64 (by omega) (by omega)];omega
 by_cases d0:d < 0
 ·rw [cnt_bad (.inl d0)] at hc
  rw [hc]
  simp +decide only [go_sem,WR,WS,hsz,e0,e4,e5,e6,hil,c0,c8,Int.toNat_natCast,q3,q4,d0]
  rfl
 by_cases d4:(4096:Int) < d
 ·have:4096 < n*max 1 d.toNat:=by
   have h1:1*max 1 d.toNat≤n*max 1 d.toNat:=Nat.mul_le_mul_right _ hn1
   omega
  rw [cnt_bad (.inr this)] at hc
  rw [hc]
  simp +decide only [go_sem,WR,WS,hsz,e0,e4,e5,e6,hil,c0,c8,Int.toNat_natCast,q3,q4,d0,d4]
  rfl
 obtain ⟨m,rfl⟩:∃ m:Nat,d=(m:Int):=⟨d.toNat,by omega⟩
 by_cases m0:m=0
 ·subst m0
  have hz:(if z=true then (0:Int) else (n:Int))*((0:Nat):Int)=0:=by simp
  have w0:IntKind.i64.wrap 0=0:=rfl
  have g0:¬ (0:Int) < ((0:Nat):Int):=by omega
  have g4:¬ (4096:Int) < (n:Int):=by omega
  have hc':=hc
  rw [show ((0:Nat):Int)=0 from rfl,cnt_zero hn2] at hc'
  simp +decide only [go_sem,WR,WS,hsz,e0,e4,e5,e6,hil,c0,c8,Int.toNat_natCast,q3,q4,d0,d4,hz,w0,g0,g4,i1]
  exact next (i+1,n,true) _ _ ⟨by simp only;omega,by simp +decide only [go_sem,hsz],rfl,by simp +decide only [go_sem,hsz,e0],by simp +decide only [go_sem,hsz,e4],by simp +decide only [go_sem,hsz],by simp +decide only [go_sem,hsz],hn1,hn2,hc'⟩ (by simp only;omega)
 ·have g0:(0:Int) < (m:Int):=by omega
  have hnm:n*m≤4096*4096:=Nat.mul_le_mul hn2 (by omega)
  have w1:IntKind.i64.wrap ((n:Int)*(m:Int))=((n*m:Nat):Int):=by
   rw [← Int.natCast_mul]
   exact wrap_i64 (by omega) (by omega)
  have w2:IntKind.i64.wrap ((if z=true then (0:Int) else (n:Int))*(m:Int))=if z=true then (0:Int) else ((n*m:Nat):Int):=by
   cases z
   ·simp only [Bool.false_eq_true,if_false]
    exact w1
   ·simp only [if_true,Int.zero_mul]
    rfl
  by_cases g4:(4096:Int) < ((n*m:Nat):Int)
  ·have:4096 < n*max 1 ((m:Int)).toNat:=by
    rw [Int.toNat_natCast,show max 1 m=m by omega]
    omega
   rw [cnt_bad (.inr this)] at hc
   rw [hc]
   simp +decide only [go_sem,WR,WS,hsz,e0,e4,e5,e6,hil,c0,c8,Int.toNat_natCast,q3,q4,d0,d4,w1,w2,g0,g4]
   rfl
  ·rw [cnt_pos m0 (by omega)] at hc
   have h1:1*1≤n*m:=Nat.mul_le_mul hn1 (by omega)
   simp +decide only [go_sem,WR,WS,hsz,e0,e4,e5,e6,hil,c0,c8,Int.toNat_natCast,q3,q4,d0,d4,w1,w2,g0,g4,i1]
   exact next (i+1,n*m,z) _ _ ⟨by simp only;omega,by simp +decide only [go_sem,hsz],rfl,by simp +decide only [go_sem,hsz,e0],by simp +decide only [go_sem,hsz],by simp +decide only [go_sem,hsz],by simp +decide only [go_sem,hsz],by simp only;omega,by simp only;omega,hc⟩ (by simp only;omega)
theorem acount_run (l:List Int) (h:Heap) {a:Option Addr} {c:Nat} (s:Sl h 1 a l.length c (iv l)) (hl:l.length≤8):Runs K 93 #[.slice a l.length c] h fun r w=>h=w∧r=cntV (cntF l 1 false):=by
 refine Runs.of Kok (Does.intro rfl (by decide +kernel) Tryz.func93 rfl ?_)
 have h8:¬ (8:Int) < ((l.length:Nat):Int):=by omega
 simp +decide only [go_sem,WR,WS,h8]
 refine W_loop (α:=Nat × Nat × Bool) (fun k e w=>k.1≤l.length∧e.size=37∧h=w∧e.get 4= .int .i64 (k.2.1:Int)∧e.get 5= .bool k.2.2∧e.get 11= .slice a l.length c∧e.get 12= .int .i64 ((l.length:Nat):Int)∧e.get 13= .int .i64 (k.1:Int)∧1≤k.2.1∧k.2.1≤4096∧cntF l 1 false=cntF (l.drop k.1) k.2.1 k.2.2)
  (fun k=>l.length - k.1) (0,1,false) ?_ ?_
 ·exact ⟨Nat.zero_le _,by simp +decide only [go_sem],rfl,by simp +decide only [go_sem];rfl,by simp +decide only [go_sem],by simp +decide only [go_sem],by simp +decide only [go_sem],by simp +decide only [go_sem];rfl,by simp,by simp,by simp⟩
 rintro ⟨i,n,z⟩ e w ⟨hi,hsz,hw,e4,e5,e11,e12,e13,hn1,hn2,hc⟩ next
 simp only at hi e4 e5 e13 hn1 hn2 hc
 subst hw
 by_cases hil:(i:Int) < ((l.length:Nat):Int)
 case neg =>
  rw [List.drop_of_length_le (by omega),cntF] at hc
  rw [hc]
  cases z
  ·simp +decide only [go_sem,WR,WS,hsz,e4,e5,e11,e12,e13,hil]
   rfl
  ·simp +decide only [go_sem,WR,WS,hsz,e4,e5,e11,e12,e13,hil]
   rfl
 obtain ⟨d,hd⟩:∃ d,l[i]? =some d:=⟨_,List.getElem?_eq_getElem (by omega)⟩
 rw [drop_of hd] at hc
 obtain ⟨b,o,cs,rfl,q2,q3,q4⟩:=s.one (iv_get hd)
 have c0:(0:Int)≤(i:Int):=by omega
 have i1:IntKind.i64.wrap ((i:Int)+1)=((i+1:Nat):Int):=by rw [wrap_i64 (by omega) (by omega)];omega
 by_cases d0:d < 0
 ·rw [cnt_bad (.inl d0)] at hc
  rw [hc]
  simp +decide only [go_sem,WR,WS,hsz,e4,e5,e11,e12,e13,hil,c0,Int.toNat_natCast,q3,q4,d0]
  rfl
 obtain ⟨m,rfl⟩:∃ m:Nat,d=(m:Int):=⟨d.toNat,by omega⟩
 have n0:(n:Int)≠0:=by omega
 have qn:IntKind.i64.wrap ((4096:Int).tdiv (n:Int))=((4096 / n:Nat):Int):=by
  have hd:4096 / n≤4096:=Nat.div_le_self _ _
  have e:(4096:Int).tdiv (n:Int)=((4096 / n:Nat):Int):=by
   rw [Int.tdiv_eq_ediv_of_nonneg (by omega),Int.natCast_ediv]
   rfl
  rw [e]
  generalize 4096 / n=q at *
  exact wrap_i64 (by omega) (by omega)
 have hq:(m≤4096 / n)↔n*m≤4096:=by rw [Nat.le_div_iff_mul_le (by omega),Nat.mul_comm]
 by_cases g4:((4096 / n:Nat):Int) < (m:Int)
 ·have hnm:¬ n*m≤4096:=fun hh=>by
   have:=hq.2 hh
   generalize 4096 / n=q at *
   omega
  have:4096 < n*max 1 ((m:Int)).toNat:=by
   rw [Int.toNat_natCast]
   have:n*m≤n*max 1 m:=Nat.mul_le_mul_left _ (by omega)
   omega
  rw [cnt_bad (.inr this)] at hc
  rw [hc]
  simp +decide only [go_sem,WR,WS,hsz,e4,e5,e11,e12,e13,hil,c0,Int.toNat_natCast,q3,q4,d0,ibinop_quo n0,qn,g4]
  rfl
 have hnm:n*m≤4096:=hq.1 (by generalize 4096 / n=q at *;omega)
 by_cases m0:m=0
 ·subst m0
  have mx:max (1:Int) ((0:Nat):Int)=1:=rfl
  have w1:IntKind.i64.wrap ((n:Int)*1)=(n:Int):=by rw [Int.mul_one];exact wrap_i64 (by omega) (by omega)
  have z0:(((0:Nat):Int)=0)=True:=eq_true rfl
  have hc':=hc
  rw [show ((0:Nat):Int)=0 from rfl,cnt_zero hn2] at hc'
  cases z
  ·simp +decide only [go_sem,WR,WS,hsz,e4,e5,e11,e12,e13,hil,c0,Int.toNat_natCast,q3,q4,d0,ibinop_quo n0,qn,g4,mx,w1,z0,i1]
   exact next (i+1,n,true) _ _ ⟨by simp only;omega,by simp +decide only [go_sem,hsz],rfl,by simp +decide only [go_sem,hsz],by simp +decide only [go_sem,hsz],by simp +decide only [go_sem,hsz,e11],by simp +decide only [go_sem,hsz,e12],by simp +decide only [go_sem,hsz],hn1,hn2,hc'⟩ (by simp only;omega)
  ·simp +decide only [go_sem,WR,WS,hsz,e4,e5,e11,e12,e13,hil,c0,Int.toNat_natCast,q3,q4,d0,ibinop_quo n0,qn,g4,mx,w1,z0,i1]
   exact next (i+1,n,true) _ _ ⟨by simp only;omega,by simp +decide only [go_sem,hsz],rfl,by simp +decide only [go_sem,hsz],by simp +decide only [go_sem,hsz],by simp +decide only [go_sem,hsz,e11],by simp +decide only [go_sem,hsz,e12],by simp +decide only [go_sem,hsz],hn1,hn2,hc'⟩ (by simp only;omega)
 ·rw [cnt_pos m0 hnm] at hc
  have mx:max (1:Int) (m:Int)=(m:Int):=by omega
  have w1:IntKind.i64.wrap ((n:Int)*(m:Int))=((n*m:Nat):Int):=by
   rw [← Int.natCast_mul]
   exact wrap_i64 (by omega) (by omega)
  have z0:¬ ((m:Int)=0):=by omega
  have h1:1*1≤n*m:=Nat.mul_le_mul hn1 (by omega)
  cases z
  ·simp +decide only [go_sem,WR,WS,hsz,e4,e5,e11,e12,e13,hil,c0,Int.toNat_natCast,q3,q4,d0,ibinop_quo n0,qn,g4,mx,w1,z0,i1]
   exact next (i+1,n*m,false) _ _ ⟨by simp only;omega,by simp +decide only [go_sem,hsz],rfl,by simp +decide only [go_sem,hsz],by simp +decide only [go_sem,hsz],by simp +decide only [go_sem,hsz,e11],by simp +decide only [go_sem,hsz,e12],by simp +decide only [go_sem,hsz],by simp only;omega,hnm,hc⟩ (by simp only;omega)
  ·simp +decide only [go_sem,WR,WS,hsz,e4,e5,e11,e12,e13,hil,c0,Int.toNat_natCast,q3,q4,d0,ibinop_quo n0,qn,g4,mx,w1,z0,i1]
   exact next (i+1,n*m,true) _ _ ⟨by simp only;omega,by simp +decide only [go_sem,hsz],rfl,by simp +decide only [go_sem,hsz],by simp +decide only [go_sem,hsz],by simp +decide only [go_sem,hsz,e11],by simp +decide only [go_sem,hsz,e12],by simp +decide only [go_sem,hsz],by simp only;omega,hnm,hc⟩ (by simp only;omega)
structure LightP (p:PlT):Prop where
 few:p.shape.length≤8
 tl:p.tx.length≤1500
 nl:p.nums.length≤1500
 short:∀ x ∈ p.nums,x.2.1.length≤40∧x.2.2.length≤40
 cnt:∃ n,cntF p.shape 1 false=some n∧(p.ch=true→p.tx.length=n∧p.nums=[])∧(p.ch=false→p.nums.length=n∧p.tx=[])
 right:∀ x ∈ p.nums,RightN x.1 x.2.1 x.2.2
theorem right06_run (p:PlT) (h:Heap) {v:Value} (V:PV h v p) (hl:p.shape.length≤8) (h1:p.tx.length≤1500) (h2:p.nums.length≤1500) (hz:∀ x ∈ p.nums,x.2.1.length≤40∧x.2.2.length≤40) :
  Runs K 69 #[v] h fun r w=>∃ x,r= .bool x∧(x=true→LightP p):=by
 obtain ⟨a,c,a1,c1,a2,c2,rfl,s1,s2,s3⟩:=V
 refine Runs.of Kok (Does.intro rfl (by decide +kernel) Tryz.func69 rfl ?_)
 obtain ⟨w0,e0,x0,hs0,z0⟩:=lay1 h (.cells [.slice a p.shape.length c,.bool p.ch,.slice a1 p.tx.length c1,.slice a2 p.nums.length c2] 4)
 have no:∃ x,Value.bool false= .bool x∧(x=true→LightP p):=⟨_,rfl,fun hh=>by cases hh⟩
 obtain ⟨shape,ch,tx,nums⟩:=p
 simp only at s1 s2 s3 hl h1 h2 hz z0 e0 no ⊢
 simp +decide only [go_sem,WR,WS,e0,z0]
 refine W_call Kok x0.1 (rcount_run shape w0 (s1.ext x0) hl) fun r w x hr=> ?_
 obtain ⟨hw,rfl⟩:=hr
 subst hw
 cases hc:cntF shape 1 false with
 | none =>
   simp +decide only [go_sem,WR,WS,cntV,hc]
   exact no
 | some n =>
 have fin:∀ (e:Env) (hsz:e.size=63) (e1:e.get 1= .pointer (some ⟨h.size,0,none⟩)),((ch=true→tx.length=n∧nums=[])∧(ch=false→nums.length=n∧tx=[]))→True:=fun _ _ _ _=>trivial
 have cases2:(ch=true∧tx.length=n∧nums=[])∨(ch=true∧¬ tx.length=n)∨(ch=true∧tx.length=n∧nums≠[])∨(ch=false∧nums.length=n∧tx=[])∨(ch=false∧¬ nums.length=n)∨(ch=false∧nums.length=n∧tx≠[]):=by
  cases ch
  ·by_cases q1:nums.length=n
   ·by_cases q2:tx=[]
    ·exact .inr (.inr (.inr (.inl ⟨rfl,q1,q2⟩)))
    ·exact .inr (.inr (.inr (.inr (.inr ⟨rfl,q1,q2⟩))))
   ·exact .inr (.inr (.inr (.inr (.inl ⟨rfl,q1⟩))))
  ·by_cases q1:tx.length=n
   ·by_cases q2:nums=[]
    ·exact .inl ⟨rfl,q1,q2⟩
    ·exact .inr (.inr (.inl ⟨rfl,q1,q2⟩))
   ·exact .inr (.inl ⟨rfl,q1⟩)
 have ne0:∀ {α:Type} {l:List α},l≠[]→¬ ((l.length:Nat):Int)=0:=fun hh h0=>hh (List.eq_nil_of_length_eq_zero (by omega))
 rcases cases2 with ⟨rfl,q1,rfl⟩ | ⟨rfl,q1⟩ | ⟨rfl,q1,q2⟩ | ⟨rfl,q1,rfl⟩ | ⟨rfl,q1⟩ | ⟨rfl,q1,q2⟩
 ·have b1:(((tx.length:Nat):Int)=(n:Int))=True:=eq_true (by omega)
  simp +decide only [go_sem,WR,WS,cntV,hc,z0,b1,List.length_nil,Int.natCast_zero]
  rw [W_round]
  simp +decide only [go_sem,WR,WS,z0,List.length_nil,Int.natCast_zero]
  exact ⟨_,rfl,fun _=>⟨hl,h1,h2,hz,⟨n,hc,fun _=>⟨q1,rfl⟩,fun hh=>by cases hh⟩,by simp⟩⟩
 ·have b1:¬ ((tx.length:Nat):Int)=(n:Int):=by omega
  simp +decide only [go_sem,WR,WS,cntV,hc,z0,b1]
  exact no
 ·have b1:(((tx.length:Nat):Int)=(n:Int))=True:=eq_true (by omega)
  simp +decide only [go_sem,WR,WS,cntV,hc,z0,b1,ne0 q2]
  exact no
 ·have b1:(((nums.length:Nat):Int)=(n:Int))=True:=eq_true (by omega)
  simp +decide only [go_sem,WR,WS,cntV,hc,z0,b1,List.length_nil,Int.natCast_zero]
  refine W_loop (α:=Nat) (fun i e w=>i≤nums.length∧e.size=63∧Ext w0 w∧e.get 1= .pointer (some ⟨h.size,0,none⟩)∧e.get 5= .int .i64 (i:Int)∧∀ x ∈ nums.take i,RightN x.1 x.2.1 x.2.2) (fun i=>nums.length - i) 0 ?_ ?_
  ·exact ⟨Nat.zero_le _,by simp +decide only [go_sem],Ext.refl _,by simp +decide only [go_sem],by simp +decide only [go_sem];rfl,by simp⟩
  rintro i e w ⟨hi,hsz,xw,e1,e5,hall⟩ next
  have zw:w.get h.size=_:=(xw.2 _ (by omega)).trans z0
  by_cases hil:(i:Int) < ((nums.length:Nat):Int)
  ·obtain ⟨y,hy⟩:∃ y,nums[i]? =some y:=⟨_,List.getElem?_eq_getElem (by omega)⟩
   obtain ⟨b,o,cs,rfl,p2,p3,p4,p5,_⟩:=sl_num (s3.ext (x0.trans xw)) hy
   have c0:(0:Int)≤(i:Int):=by omega
   have i1:IntKind.i64.wrap ((i:Int)+1)=((i+1:Nat):Int):=by rw [wrap_i64 (by omega) (by omega)];omega
   have hyz:=hz y (List.mem_of_getElem? hy)
   simp +decide only [go_sem,WR,WS,hsz,e1,e5,zw,hil,c0,Int.toNat_natCast,p3,p4,p5]
   refine W_call Kok (x0.trans xw).1 (right_run y.1 y.2.1 y.2.2 w (by omega) (by omega)) fun r w2 x2 hr=> ?_
   obtain ⟨b1,rfl,hb⟩:=hr
   cases b1
   ·simp +decide only [go_sem,WR,WS,hsz]
    exact no
   ·simp +decide only [go_sem,WR,WS,hsz,e1,e5,i1]
    refine next (i+1) _ _ ⟨by omega,by simp +decide only [go_sem,hsz],xw.trans x2,by simp +decide only [go_sem,hsz,e1],by simp +decide only [go_sem,hsz],?_⟩ (by omega)
    intro x hx
    rw [List.take_add_one,hy,List.mem_append] at hx
    rcases hx with hx | hx
    ·exact hall x hx
    ·simp only [Option.toList_some,List.mem_singleton] at hx
     subst hx
     exact hb rfl
  ·simp +decide only [go_sem,WR,WS,hsz,e1,e5,zw,hil]
   rw [List.take_of_length_le (by omega)] at hall
   exact ⟨_,rfl,fun _=>⟨hl,h1,h2,hz,⟨n,hc,fun hh=>(by cases hh),fun _=>⟨q1,rfl⟩⟩,hall⟩⟩
 ·have b1:¬ ((nums.length:Nat):Int)=(n:Int):=by omega
  simp +decide only [go_sem,WR,WS,cntV,hc,z0,b1]
  exact no
 ·have b1:(((nums.length:Nat):Int)=(n:Int))=True:=eq_true (by omega)
  simp +decide only [go_sem,WR,WS,cntV,hc,z0,b1,ne0 q2]
  exact no
theorem light_run (p:PlT) (h:Heap) {v:Value} (V:PV h v p) (hnl:p.nums.length≤1000000∨True):Runs K 24 #[v,.int .i64 1500] h fun r w=>∃ x,r= .bool x∧(x=true→LightP p):=by
 have V0:=V
 obtain ⟨a,c,a1,c1,a2,c2,rfl,s1,s2,s3⟩:=V0
 refine Runs.of Kok (Does.intro rfl (by decide +kernel) Tryz.func24 rfl ?_)
 obtain ⟨w0,e0,x0,hs0,z0⟩:=lay1 h (.cells [.slice a p.shape.length c,.bool p.ch,.slice a1 p.tx.length c1,.slice a2 p.nums.length c2] 4)
 have no:∃ x,Value.bool false= .bool x∧(x=true→LightP p):=⟨_,rfl,fun hh=>by cases hh⟩
 by_cases q1:(1500:Int) < ((p.tx.length:Nat):Int)
 ·simp +decide only [go_sem,WR,WS,e0,z0,q1]
  exact no
 by_cases q2:(1500:Int) < ((p.nums.length:Nat):Int)
 ·simp +decide only [go_sem,WR,WS,e0,z0,q1,q2]
  exact no
 by_cases q3:(8:Int) < ((p.shape.length:Nat):Int)
 ·simp +decide only [go_sem,WR,WS,e0,z0,q1,q2,q3]
  exact no
 simp +decide only [go_sem,WR,WS,e0,z0,q1,q2,q3]
 refine W_loop (α:=Nat) (fun i e w=>i≤p.nums.length∧e.size=51∧w0=w∧e.get 2= .pointer (some ⟨h.size,0,none⟩)∧e.get 5= .int .i64 (i:Int)∧∀ x ∈ p.nums.take i,x.2.1.length≤40∧x.2.2.length≤40) (fun i=>p.nums.length - i) 0 ?_ ?_
 ·exact ⟨Nat.zero_le _,by simp +decide only [go_sem],rfl,by simp +decide only [go_sem],by simp +decide only [go_sem];rfl,by simp⟩
 rintro i e w ⟨hi,hsz,hw,e2,e5,hall⟩ next
 subst hw
 by_cases hil:(i:Int) < ((p.nums.length:Nat):Int)
 ·obtain ⟨y,hy⟩:∃ y,p.nums[i]? =some y:=⟨_,List.getElem?_eq_getElem (by omega)⟩
  obtain ⟨b,o,cs,rfl,p2,p3,_,_,p6,p7⟩:=sl_num (s3.ext x0) hy
  have c0:(0:Int)≤(i:Int):=by omega
  have i1:IntKind.i64.wrap ((i:Int)+1)=((i+1:Nat):Int):=by rw [wrap_i64 (by omega) (by omega)];omega
  by_cases g1:(40:Int) < ((y.2.1.length:Nat):Int)
  ·simp +decide only [go_sem,WR,WS,hsz,e2,e5,z0,hil,c0,Int.toNat_natCast,p3,p6,p7,text_size,g1]
   exact no
  ·by_cases g2:(40:Int) < ((y.2.2.length:Nat):Int)
   ·simp +decide only [go_sem,WR,WS,hsz,e2,e5,z0,hil,c0,Int.toNat_natCast,p3,p6,p7,text_size,g1,g2]
    exact no
   ·simp +decide only [go_sem,WR,WS,hsz,e2,e5,z0,hil,c0,Int.toNat_natCast,p3,p6,p7,text_size,g1,g2,i1]
    refine next (i+1) _ _ ⟨by omega,by simp +decide only [go_sem,hsz],rfl,by simp +decide only [go_sem,hsz,e2],by simp +decide only [go_sem,hsz],?_⟩ (by omega)
    intro x hx
    rw [List.take_add_one,hy,List.mem_append] at hx
    rcases hx with hx | hx
    ·exact hall x hx
    ·simp only [Option.toList_some,List.mem_singleton] at hx
     subst hx
     omega
 ·rw [List.take_of_length_le (by omega)] at hall
  simp +decide only [go_sem,WR,WS,hsz,e2,e5,z0,hil]
  refine W_call Kok x0.1 (right06_run p w0 (V.ext x0) (by omega) (by omega) (by omega) hall) fun r w2 x2 hr=> ?_
  obtain ⟨b1,rfl,hb⟩:=hr
  simp +decide only [go_sem,WR,WS,hsz]
  exact ⟨_,rfl,hb⟩
end Go.Proofs.YtachkofbmodnnaaGreatDoor.P3
namespace Go.Im
open Go.RowKit
theorem LaidOK.rows {W:World} {vs:List View} (L:LaidOK W vs) {size:Nat} {a:Option Addr} {k c:Nat} {vals:List Value} (hs:0 < size) (hkc:k≤c) (A:Arg W a (k*size) (c*size) vals) (hat:vals.all Im.atomic=true) :
  ∃ vs' a' c',LaidOK W vs'∧(∀ b l,vPlaces vs b=some l→vPlaces vs' b=some l)∧Ext (laid vs) (laid vs')∧RV (vPlaces vs') (.slice a' k c') (.slice a k c)∧Sl (laid vs') size a' k c' vals∧(c'=0∨c'=big):=by
 obtain ⟨hl,hk,h⟩:=A
 have hc0:c*size=0→c=0:=fun hh=>by
  rcases Nat.mul_eq_zero.1 hh with h1 | h1
  ·exact h1
  ·omega
 rcases h with ⟨rfl,hc⟩ | ⟨hc,ad,rfl⟩ | ⟨b,o,cc,e,fr,rfl,hc,hb,hoc,hcell⟩
 ·have:=hc0 hc
  subst this
  have:k=0:=by omega
  subst this
  have hv:vals=[]:=List.eq_nil_of_length_eq_zero (by simpa using hl)
  subst hv
  exact ⟨vs,none,0,L,fun _ _ h=>h,Ext.refl _,.nilSlice,Sl.nil _ _,.inl rfl⟩
 ·have:=hc0 hc
  subst this
  have:k=0:=by omega
  subst this
  have hv:vals=[]:=List.eq_nil_of_length_eq_zero (by simpa using hl)
  subst hv
  exact ⟨vs,some ⟨0,0,none⟩,0,L,fun _ _ h=>h,Ext.refl _,.void 0 0 ad,.inr (.inl ⟨0,0,rfl,rfl,rfl,rfl⟩),.inl rfl⟩
 ·have hcp:0 < c:=Nat.pos_of_ne_zero fun hh=>by subst hh;simp at hc
  refine ⟨⟨b,o,o+c*size,size,vals⟩::vs,some ⟨vs.length,0,none⟩,big,?_,vPlaces_old,(Ext.refl _).push _,?_,?_,.inr rfl⟩
  ·intro i v hv
   rw [vAt_cons] at hv
   split at hv
   ·cases hv
    refine ⟨hs,cc,e,fr,hb,by simp;omega,fun i x hi=> ?_⟩
    have hx:Im.atomic x=true:=List.all_eq_true.1 hat x (List.mem_of_getElem? hi)
    refine ⟨?_,x,hcell i x hi,RV.atomic _ hx⟩
    cases x<;>simp_all [Im.atomic,cellOK]
   ·exact View.of_mono vPlaces_old (L i v hv)
  ·have hφ:vPlaces (⟨b,o,o+c*size,size,vals⟩::vs) vs.length=some ⟨b,o,vals.length,o+c*size,size⟩:=by
    simp only [vPlaces,vAt_cons,if_true,Option.map_some,View.loc]
   have:=RV.unknown (φ:=vPlaces (⟨b,o,o+c*size,size,vals⟩::vs)) vs.length 0 k c _ hφ hkc (by simp only;omega) (by simp only;omega) (by simp only;omega)
   simpa using this
  ·right;right
   refine ⟨vs.length,0,vals,rfl,by simp [big],?_,?_,by omega,?_,.inr rfl⟩
   ·rw [laid_size];simp
   ·rw [laid_get _ _ ⟨b,o,o+c*size,size,vals⟩ (by rw [vAt_cons,if_pos rfl])]
    rfl
   ·rw [List.drop_zero,List.take_of_length_le (by omega)]
end Go.Im
namespace Go.Proofs.YtachkofbmodnnaaGreatDoor.L4
open Go Go.Im Go.Im.Lexing Go.Im.Arrays Go.ChangeShapes Go.WideShapes Go.ChangeAt Go.RowKit Go.Deep Go.Joins
theorem ncs_atomic (l:List NT3):(ncs l).all Im.atomic=true:=by
 rw [List.all_eq_true]
 intro x hx
 simp only [ncs,List.mem_flatMap] at hx
 obtain ⟨p,_,hx⟩:=hx
 simp at hx
 rcases hx with rfl | rfl | rfl<;>rfl
theorem iv_atomic (l:List Int):(iv l).all Im.atomic=true:=by simp [iv,Im.atomic]
theorem ncs_take (l:List NT3) (k:Nat):(ncs l).take (k*3)=ncs (l.take k):=by
 induction l generalizing k with
 | nil=>simp [ncs]
 | cons p l ih =>
   cases k with
   | zero=>simp [ncs]
   | succ k =>
     rw [show (k+1)*3=k*3+3 by omega]
     show _::_::_::(ncs l).take (k*3)=_
     rw [ih]
     rfl
theorem text_ex (b:ByteArray):∃ L:List UInt8,b=text L:=⟨b.data.toList,by simp [text]⟩
theorem ints_at {H:Type} {enc:TypeId × Value→H} {P:Program} {t e:TypeId} {k':IntKind} (ht:P.underlying t=some (.slice e)) (he:P.underlying e=some (.int k')) (ce:P.cellsOf e=1)
  {W:World} {v:Value} {n:Nat} {y:DataW H × List MemPlace} (h:DataW.trod enc P W 0 (fun _=>true) true n t [v]=some y) :
  ∃ a k c,v= .slice a k c∧∃ l:List Int,Arg W a k c (l.map (Value.int k'))∧l.length=k:=by
 rcases open_ints ht he ce h with ⟨hcs,_⟩ | ⟨a',k,c,zs,hcs,_,hk,hm,hz,_,hcell,hwf⟩
 ·simp at hcs
  subst hcs
  exact ⟨_,_,_,rfl,[],⟨rfl,Nat.le_refl _,.inl ⟨rfl,rfl⟩⟩,rfl⟩
 ·simp at hcs
  subst hcs
  simp only [if_true] at hz
  refine ⟨_,_,_,rfl,zs.take k,?_,by simp;omega⟩
  have:=Arg.of_cells (W:=W) (a:=a') (k:=k) (c:=c) (vals:=zs.map (Value.int k')) (by simp [hz]) hk (fun i hi=>by
   rw [hcell i (by omega)]
   simp [List.getD,List.getElem?_eq_getElem (show i < zs.length by omega)])
  rw [← List.map_take] at this
  exact this
theorem nums_at {H:Type} {enc:TypeId × Value→H} {P:Program} {t e:TypeId} {f0 f1 f2:Field} (ht:P.underlying t=some (.slice e)) (he:P.underlying e=some (.struct #[f0,f1,f2])) (ce:P.cellsOf e=3) (o0:f0.offset=0) (o1:f1.offset=1) (o2:f2.offset=2)
  (c0:P.cellsOf f0.type=1) (c1:P.cellsOf f1.type=1) (c2:P.cellsOf f2.type=1) (u0:P.underlying f0.type=some .bool) (u1:P.underlying f1.type=some .string) (u2:P.underlying f2.type=some .string)
  {W:World} {v:Value} {n:Nat} {y:DataW H × List MemPlace} (h:DataW.trod enc P W 0 (fun _=>true) true n t [v]=some y) :
  ∃ a k c,v= .slice a k c∧k≤c∧∃ l:List NT3,Arg W a (k*3) (c*3) (ncs l)∧l.length=k:=by
 rcases open_slice ht h with ⟨hcs,_⟩ | ⟨a',len,cap,m,n',D,Pl,hcs,_,hlc,hcm,hm,_,hx⟩
 ·simp at hcs
  subst hcs
  exact ⟨_,_,_,rfl,Nat.le_refl _,[],⟨rfl,Nat.le_refl _,.inl ⟨rfl,rfl⟩⟩,rfl⟩
 ·simp at hcs
  subst hcs
  simp only [if_true] at hm
  subst hm
  have each:∀ i,i < m→∃ q:NT3,W.cell? (a'.add (i*3))=some (.bool q.1)∧W.cell? (a'.add (i*3+1))=some (.string (text q.2.1))∧W.cell? (a'.add (i*3+2))=some (.string (text q.2.2)):=by
   intro i hi
   obtain ⟨cs',h1,h2⟩:=hx i hi
   rw [ce] at h1
   obtain ⟨_,hlen,hcell⟩:=World.cells?_some h1
   obtain ⟨xs,k,hk,hxy,_,hxl,hf⟩:=DataW.trod_struct he h2
   match xs,hxl,cs',hlen with
   | [y0,y1,y2],_,[v0,v1,v2],_ =>
     have g0:=hf 0 f0 rfl
     have g1:=hf 1 f1 rfl
     have g2:=hf 2 f2 rfl
     simp [o0,o1,o2,c0,c1,c2] at g0 g1 g2
     have e0:=hcell 0 (by omega)
     have e1:=hcell 1 (by omega)
     have e2:=hcell 2 (by omega)
     rw [add_add] at e0 e1 e2
     obtain ⟨b,hb,_⟩:=DataW.trod_bool u0 g0
     obtain ⟨s,hs,_⟩:=DataW.trod_string u1 g1
     obtain ⟨r,hr,_⟩:=DataW.trod_string u2 g2
     simp at hb hs hr
     obtain ⟨S,rfl⟩:=text_ex s
     obtain ⟨R,rfl⟩:=text_ex r
     subst hb
     subst hs
     subst hr
     exact ⟨(b,S,R),by simpa using e0,by simpa using e1,by simpa using e2⟩
  have:Inhabited NT3:=⟨(false,[],[])⟩
  obtain ⟨q,hq⟩:=choose_lt each
  obtain ⟨l,hl⟩:∃ l,l=(List.range m).map q:=⟨_,rfl⟩
  have hll:l.length=m:=by simp [hl]
  have hget:∀ i,i < m→l[i]? =some (q i):=by
   intro i hi
   rw [hl,List.getElem?_map,List.getElem?_range hi]
   rfl
  have hA:=Arg.of_cells (W:=W) (a:=a') (k:=len*3) (c:=m*3) (vals:=ncs l) (by rw [ncs_length,hll]) (by omega) (fun j hj=>by
   have e:=ncs_at (hget (j / 3) (by omega))
   obtain ⟨q0,q1,q2⟩:=hq (j / 3) (by omega)
   have g:∀ r,r < 3→(ncs l)[j / 3*3+r]? =([.bool (q (j / 3)).1,.string (text (q (j / 3)).2.1),.string (text (q (j / 3)).2.2)]:List Value)[r]? :=by
    intro r hr
    rw [← e,List.getElem?_take,if_pos hr,List.getElem?_drop]
   have hr:j%3=0∨j%3=1∨j%3=2:=by omega
   rcases hr with hj0 | hj0 | hj0
   ·have hj':j / 3*3=j:=by omega
    have:=g 0 (by omega)
    rw [Nat.add_zero,hj'] at this
    rw [hj'] at q0
    rw [this,q0]
    rfl
   ·have hj':j / 3*3+1=j:=by omega
    have:=g 1 (by omega)
    rw [hj'] at this
    rw [hj'] at q1
    rw [this,q1]
    rfl
   ·have hj':j / 3*3+2=j:=by omega
    have:=g 2 (by omega)
    rw [hj'] at this
    rw [hj'] at q2
    rw [this,q2]
    rfl)
  rw [ncs_take] at hA
  exact ⟨_,_,_,rfl,hlc,l.take len,hA,by simp;omega⟩
end Go.Proofs.YtachkofbmodnnaaGreatDoor.L4
namespace Go.Proofs.YtachkofbmodnnaaGreatDoor.M11
open Go Go.Im Go.Im.Limbs Go.Im.Lexing Go.Im.Heads Go.Im.Editing Go.Im.Defn Go.Proofs Go.RowKit Hd N19 H2 H3 H4 H5 H7 D2 D3 D4
set_option maxRecDepth 100000
theorem wide (s:ByteArray) (pos:Nat) (h:pos < s.size):1≤(Utf8.decode s pos).2:=by
 by_cases ha:(s[pos]'h).toNat < 128
 ·rw [Go.decode_ascii s pos h ha]
  exact Nat.le_refl _
 ·exact (Go.decode_high s pos h (by omega)).2
theorem runesL_end (s:ByteArray) {f i:Nat} (h:s.size≤i):runesL s f i=[]:=by
 cases f with
 | zero=>rfl
 | succ f=>rw [runesL,if_neg (by omega)]
theorem runesL_more (s:ByteArray) {f i:Nat} (h:i < s.size) (hf:s.size≤i+f):(runesL s f i).length=1+(runesL s (f - 1) (i+(Utf8.decode s i).2)).length:=by
 obtain ⟨g,rfl⟩:∃ g,f=g+1:=⟨f - 1,by omega⟩
 rw [runesL,if_pos h,List.length_cons,Nat.add_sub_cancel]
 omega
theorem count_run (s:ByteArray) (h:Heap) (hm:s.size≤1000000):Runs K 56 #[.string s] h fun r w=>r= .int .i64 (((runesI s).length:Nat):Int):=by
 refine Runs.of Kok (Does.intro rfl (by decide +kernel) Tryz.func56 rfl ?_)
 obtain ⟨w0,e0,x0,hs0,z0⟩:=lay1 h (.siter s 0)
 have hlen:=runesI_len s
 simp +decide only [go_sem,WR,WS,e0]
 refine W_loop (α:=Nat × Nat × Nat) (fun k e w=>e.size=10∧Ext h w∧h.size < w.size∧w.get h.size= .siter s k.1∧e.get 2= .int .i64 (k.2.1:Int)∧e.get 4= .pointer (some ⟨h.size,0,none⟩)∧s.size≤k.1+k.2.2∧(runesI s).length=k.2.1+(runesL s k.2.2 k.1).length)
  (fun k=>s.size - k.1) (0,0,s.size) ?_ ?_
 ·exact ⟨by simp +decide only [go_sem],x0,by omega,z0,by simp +decide only [go_sem];rfl,by simp +decide only [go_sem],by simp,by simp [runesI]⟩
 rintro ⟨pos,n,f⟩ e w ⟨hsz,hxw,hws,g0,e2,e4,hf,hn⟩ next
 simp only at g0 e2 hf hn
 by_cases hp:pos < s.size
 ·have hw:=wide s pos hp
  obtain ⟨w1,e1',x1,hs1,g1,k1⟩:=put1 hxw (Nat.le_refl _) (.siter s (pos+(Utf8.decode s pos).2))
  rw [runesL_more s hp hf] at hn
  have n1:IntKind.i64.wrap ((n:Int)+1)=((n+1:Nat):Int):=by rw [wrap_i64 (by omega) (by omega)];omega
  simp +decide only [go_sem,WR,WS,hsz,e2,e4,g0,inxt_more (Nat.le_refl _) hp,e1',n1]
  exact next (pos+(Utf8.decode s pos).2,n+1,f - 1) _ _ ⟨by simp +decide only [go_sem,hsz],x1,by omega,g1,by simp +decide only [go_sem,hsz],by simp +decide only [go_sem,hsz,e4],by simp only;omega,by simp only;omega⟩ (by simp only;omega)
 ·have hpe:s.size≤pos:=by omega
  rw [runesL_end s hpe] at hn
  simp +decide only [go_sem,WR,WS,hsz,e2,e4,g0,inxt_end (Nat.le_refl _) hpe]
  rw [hn]
  simp
end Go.Proofs.YtachkofbmodnnaaGreatDoor.M11
namespace Go.Im.Arrays
open Go Go.Im Go.Im.Lexing Go.Im.Defn
def wideT (l:List ByteArray):Nat:=l.foldl (fun m y=>max m (runesI y).length) 0
theorem wideT_snoc (l:List ByteArray) (y:ByteArray):wideT (l++[y])=max (wideT l) (runesI y).length:=by simp [wideT]
theorem fold_max:∀ (l:List ByteArray) (m:Nat),m≤l.foldl (fun m y=>max m (runesI y).length) m∧∀ y ∈ l,(runesI y).length≤l.foldl (fun m y=>max m (runesI y).length) m
 | [],m=>⟨Nat.le_refl _,by simp⟩
 | z::l,m=>by
   obtain ⟨h1,h2⟩:=fold_max l (max m (runesI z).length)
   refine ⟨by simp only [List.foldl_cons];omega,fun y hy=> ?_⟩
   simp only [List.foldl_cons]
   rcases List.mem_cons.1 hy with rfl | hy
   ·omega
   ·exact h2 y hy
theorem wideT_ge {l:List ByteArray} {y:ByteArray} (h:y ∈ l):(runesI y).length≤wideT l:=(fold_max l 0).2 y h
theorem fold_max_le {n:Nat}:∀ (l:List ByteArray) (m:Nat),m≤n→(∀ y ∈ l,(runesI y).length≤n)→l.foldl (fun m y=>max m (runesI y).length) m≤n
 | [],m,h,_=>h
 | z::l,m,h,hz=>fold_max_le l _ (Nat.max_le.2 ⟨h,hz z (by simp)⟩) fun y hy=>hz y (by simp [hy])
theorem wideT_le {l:List ByteArray} {n:Nat} (h:∀ y ∈ l,(runesI y).length≤n):wideT l≤n:=fold_max_le l 0 (Nat.zero_le _) h
def padI (W:Nat) (y:ByteArray):List Int:=runesI y++List.replicate (W - (runesI y).length) 32
theorem padI_length {W:Nat} {y:ByteArray} (h:(runesI y).length≤W):(padI W y).length=W:=by simp [padI];omega
def charsT (W:Nat) (l:List ByteArray):List Int:=l.flatMap (padI W)
theorem charsT_snoc (W:Nat) (l:List ByteArray) (y:ByteArray):charsT W (l++[y])=charsT W l++padI W y:=by simp [charsT]
theorem charsT_length {W:Nat}:∀ {l:List ByteArray},(∀ y ∈ l,(runesI y).length≤W)→(charsT W l).length=l.length*W
 | [],_=>by simp [charsT]
 | z::l,h=>by
   have h1:=charsT_length (l:=l) fun y hy=>h y (by simp [hy])
   have h2:=padI_length (h z (by simp))
   simp only [charsT,List.flatMap_cons,List.length_append,List.length_cons,Nat.add_mul,Nat.one_mul] at h1 ⊢
   omega
def tcells (xs:List ByteArray) (i:Nat):List Value:=sv (xs.take i)++List.replicate (xs.length - i) (.string ByteArray.empty)
theorem tcells_put {xs:List ByteArray} {i:Nat} {x:ByteArray} (h:xs[i]? =some x):(tcells xs i).take i++[.string x]++(tcells xs i).drop (i+1)=tcells xs (i+1):=by
 have hi:=(List.getElem?_eq_some_iff.1 h).1
 have hl:(sv (xs.take i)).length=i:=by simp [sv];omega
 unfold tcells
 rw [List.take_append_of_le_length (by omega),List.take_of_length_le (by omega),List.drop_append,List.drop_of_length_le (by omega),hl,List.take_add_one,h,show i+1 - i=1 by omega,show xs.length - i=(xs.length - (i+1))+1 by omega]
 simp [sv,List.replicate_succ]
theorem tcells_len (xs:List ByteArray) {i:Nat} (h:i≤xs.length):(tcells xs i).length=xs.length:=by simp [tcells,sv];omega
end Go.Im.Arrays
namespace Go.Proofs.YtachkofbmodnnaaGreatDoor.M9
open Go Go.Im Go.Im.Limbs Go.Im.Lexing Go.Im.Heads Go.Im.Editing Go.Im.Defn Go.Im.Arrays Go.Proofs Go.RowKit Hd H2 H3 H5 D2 D4 M8 M11
set_option maxRecDepth 100000
theorem achars_run (x y:Nat) (tx:List Int) (h:Heap) {b:Nat} {a1:Option Addr} {c1:Nat} (hg:h.get b= .cells [.int .i64 (x:Int),.int .i64 (y:Int)] 1) (hb:b < h.size) (s:Sl h 1 a1 tx.length c1 (rv tx)) (h1:1≤x) (hx:x≤1000) (hy:y≤1000) (hl:tx.length=x*y) :
  Runs K 58 #[.slice (some ⟨b,0,none⟩) 2 2,.slice a1 tx.length c1] h fun r w=>∃ v,r= .tuple #[v,.bool (ok2 x y)]∧(ok2 x y=true→AV w v [(x:Int),(y:Int)] tx)∧(ok2 x y=false→v=azero):=by
 refine Runs.of Kok (Does.intro rfl (by decide +kernel) Tryz.func58 rfl ?_)
 obtain ⟨w1,e1,x1,hs1,z1⟩:=lay1 h (.cells [.slice none 0 0,.bool false,.slice none 0 0,.slice none 0 0,.bool false] 5)
 have j0:h.size≤h.size:=Nat.le_refl _
 have hg1:w1.get b=_:=(x1.2 _ hb).trans hg
 simp +decide only [go_sem,WR,WS,e1]
 refine W_call Kok x1.1 (count2_run x y w1 hg1 (by omega) h1 (by omega) (by omega)) fun r w x' hr=> ?_
 obtain ⟨hw,rfl⟩:=hr
 subst hw
 have hxy:tx.length≤1000000:=by
  rw [hl]
  exact Nat.le_trans (Nat.mul_le_mul hx hy) (by decide)
 cases ho:ok2 x y
 ·obtain ⟨w2,e2,x2,hs2,z2,k2⟩:=put1 x1 (Nat.le_refl h.size) (.cells [.slice none 0 0,.bool false,.slice none 0 0,.slice none 0 0,.bool false] 5)
  simp +decide only [go_sem,WR,WS,z1,j0,e2,z2]
  exact ⟨_,rfl,fun hh=>(by cases hh),fun _=>rfl⟩
 ·have hn:((tx.length:Nat):Int)=((x*y:Nat):Int):=by rw [hl]
  simp +decide only [go_sem,WR,WS,hn]
  refine W_call Kok x1.1 (clonei_run w1 (n:=2) (xs:=iv [(x:Int),(y:Int)]) (.inr (.inr ⟨b,0,_,rfl,by omega,by omega,by rw [hg1];rfl,by simp,by simp [iv],.inl ⟨Nat.le_refl _,by simp [big]⟩⟩)) (by omega)) fun r w2 x2 hr=> ?_
  obtain ⟨sa,sc,rfl,ss⟩:=hr
  simp +decide only [go_sem,WR,WS]
  refine W_call Kok (x1.trans x2).1 (cloner_run w2 (s.ext (x1.trans x2)) hxy) fun r w3 x3 hr=> ?_
  obtain ⟨ta,tc,rfl,ts⟩:=hr
  have x13:=x1.trans (x2.trans x3)
  have z3:w3.get h.size=_:=((x2.trans x3).2 _ (by omega)).trans z1
  obtain ⟨w4,e4,x4,hs4,z4,k4⟩:=put1 x13 (Nat.le_refl h.size) (.cells [.slice sa 2 sc,.bool true,.slice ta tx.length tc,.slice none 0 0,.bool true] 5)
  simp +decide only [go_sem,WR,WS,z3,j0,e4,z4]
  refine ⟨_,rfl,fun _=>⟨sa,sc,ta,tc,rfl,?_,?_⟩,fun hh=>(by cases hh)⟩
  ·exact sl_put (ss.ext x3) z3 (by omega) e4
  ·exact sl_put ts z3 (by omega) e4
theorem shape_run (shape tx:List Int) (h:Heap) {v:Value} (V:AV h v shape tx) (hn:shape.length≤1000):Runs K 60 #[v] h fun r w=>∃ a c,r= .slice a shape.length c∧Sl w 1 a shape.length c (iv shape):=by
 obtain ⟨a,c,a1,c1,rfl,s1,s2⟩:=V
 refine Runs.of Kok (Does.intro rfl (by decide +kernel) Tryz.func60 rfl ?_)
 obtain ⟨w1,e1,x1,hs1,z1⟩:=lay1 h (.cells [.slice a shape.length c,.bool true,.slice a1 tx.length c1,.slice none 0 0,.bool true] 5)
 simp +decide only [go_sem,WR,WS,e1,z1]
 refine W_call Kok x1.1 (clonei_run w1 (s1.ext x1) (by omega)) fun r w2 x2 hr=> ?_
 obtain ⟨sa,sc,rfl,ss⟩:=hr
 simp +decide only [go_sem,WR,WS]
 exact ⟨_,_,rfl,ss⟩
theorem shape0_run (h:Heap):Runs K 60 #[azero] h fun r w=>∃ b,r= .slice (some ⟨b,0,none⟩) 1 1∧b < w.size∧w.get b= .cells [.int .i64 0] 1:=by
 refine Runs.of Kok (Does.intro rfl (by decide +kernel) Tryz.func60 rfl ?_)
 obtain ⟨w1,e1,x1,hs1,z1⟩:=lay1 h (.cells [.slice none 0 0,.bool false,.slice none 0 0,.slice none 0 0,.bool false] 5)
 obtain ⟨w2,e2,x2,hs2,z2⟩:=lay1 w1 (.cells [.int .i64 0] 1)
 simp +decide only [go_sem,WR,WS,azero,e1,z1,e2]
 exact ⟨_,rfl,by omega,z2⟩
theorem arunes_run (shape tx:List Int) (h:Heap) {v:Value} (V:AV h v shape tx) (hn:tx.length≤1000000):Runs K 68 #[v] h fun r w=>∃ a c,r= .slice a tx.length c∧Sl w 1 a tx.length c (rv tx):=by
 obtain ⟨a,c,a1,c1,rfl,s1,s2⟩:=V
 refine Runs.of Kok (Does.intro rfl (by decide +kernel) Tryz.func68 rfl ?_)
 obtain ⟨w1,e1,x1,hs1,z1⟩:=lay1 h (.cells [.slice a shape.length c,.bool true,.slice a1 tx.length c1,.slice none 0 0,.bool true] 5)
 simp +decide only [go_sem,WR,WS,e1,z1]
 refine W_call Kok x1.1 (cloner_run w1 (s2.ext x1) hn) fun r w2 x2 hr=> ?_
 obtain ⟨sa,sc,rfl,ss⟩:=hr
 simp +decide only [go_sem,WR,WS]
 exact ⟨_,_,rfl,ss⟩
theorem dchars_run (d:DefT) (h:Heap) {v:Value} (V:DV h v d) (G:Heads.Good d.hd) (hm:d.lines.length≤300) (hz:∀ y ∈ rowsT d,y.size≤100000) (hw:∀ y ∈ rowsT d,(runesI y).length≤512) :
  Runs K 21 #[v] h fun r w=>∃ u,r= .tuple #[u,.bool (ok2 (rowsT d).length (wideT (rowsT d)))]∧(ok2 (rowsT d).length (wideT (rowsT d))=true→AV w u [((rowsT d).length:Int),(wideT (rowsT d):Int)] (charsT (wideT (rowsT d)) (rowsT d)))∧(ok2 (rowsT d).length (wideT (rowsT d))=false→u=azero):=by
 have V0:=V
 obtain ⟨a,c,a1,c1,a2,c2,rfl,s1,s2,s3⟩:=V0
 refine Runs.of Kok (Does.intro rfl (by decide +kernel) Tryz.func21 rfl ?_)
 obtain ⟨w1,e1,x1,hs1,z1,y1⟩:=lay2 h (.cells (dl d.hd (.slice a d.hd.ls.length c) (.slice a1 d.lines.length c1) (.slice a2 d.labels.length c2)) 7) (.cells [.slice none 0 0,.bool false,.slice none 0 0,.slice none 0 0,.bool false] 5)
 have dr:=fun (w:Heap) (k:Ext w1 w)=>drows_run d w (V.ext (x1.trans k)) G (by omega)
 simp only [dl] at e1 z1 dr
 have hl:=rows_len d
 generalize hR:rowsT d=R at *
 have hW512:wideT R≤512:=wideT_le hw
 simp +decide only [go_sem,WR,WS,dl,e1,z1]
 refine W_call Kok x1.1 (dr w1 (Ext.refl _)) fun r w2 x2 hr=> ?_
 obtain ⟨ra,rc,rfl,s⟩:=hr
 simp +decide only [go_sem,WR,WS]
 refine W_loop (α:=Nat) (fun i e w=>i≤R.length∧e.size=52∧Ext w2 w∧e.get 1= .pointer (some ⟨h.size,0,none⟩)∧e.get 2= .pointer (some ⟨h.size+1,0,none⟩)∧e.get 4= .int .i64 ((wideT (R.take i):Nat):Int)∧e.get 12= .slice ra R.length rc∧e.get 13= .int .i64 ((R.length:Nat):Int)∧e.get 14= .int .i64 (i:Int)) (fun i=>R.length - i) 0 ?_ ?_
 ·exact ⟨Nat.zero_le _,by simp +decide only [go_sem],Ext.refl _,by simp +decide only [go_sem],by simp +decide only [go_sem],by simp +decide only [go_sem];rfl,by simp +decide only [go_sem],by simp +decide only [go_sem],by simp +decide only [go_sem];rfl⟩
 rintro i e w ⟨hi,hsz,xw,e1',e2',e4,e12,e13,e14⟩ next
 by_cases hil:(i:Int) < ((R.length:Nat):Int)
 ·obtain ⟨b,o,cs,rfl,q2,q3,q4⟩:=text_at (s.ext xw) (i:=i) (by omega)
  obtain ⟨y,hy⟩:∃ y,y=R[i]:=⟨_,rfl⟩
  have hyi:R[i]? =some y:=by rw [hy];exact List.getElem?_eq_getElem (by omega)
  rw [← hy] at q4
  have hyz:=hz y (List.mem_of_getElem? hyi)
  have hrl:=runesI_len y
  have mx:max ((wideT (R.take i):Nat):Int) (((runesI y).length:Nat):Int)=((wideT (R.take (i+1)):Nat):Int):=by
   rw [List.take_add_one,hyi,Option.toList_some,wideT_snoc]
   omega
  have c0:(0:Int)≤(i:Int):=by omega
  have i1:IntKind.i64.wrap ((i:Int)+1)=((i+1:Nat):Int):=by rw [wrap_i64 (by omega) (by omega)];omega
  simp +decide only [go_sem,WR,WS,hsz,e4,e12,e13,e14,hil,c0,Int.toNat_natCast,q3,q4]
  refine W_call Kok ((x1.trans x2).trans xw).1 (count_run y w (by omega)) fun r w3 x3 hr=> ?_
  subst hr
  simp +decide only [go_sem,WR,WS,hsz,e4,e12,e13,e14,mx,i1]
  exact next (i+1) _ _ ⟨by omega,by simp +decide only [go_sem,hsz],xw.trans x3,by simp +decide only [go_sem,hsz,e1'],by simp +decide only [go_sem,hsz,e2'],by simp +decide only [go_sem,hsz],by simp +decide only [go_sem,hsz,e12],by simp +decide only [go_sem,hsz,e13],by simp +decide only [go_sem,hsz]⟩ (by omega)
 have hie:i=R.length:=by omega
 subst hie
 rw [List.take_length] at e4
 have z2:w.get h.size=_:=((x2.trans xw).2 _ (by omega)).trans z1
 simp +decide only [go_sem,WR,WS,hsz,e1',e2',e4,e12,e13,e14,hil,z2]
 clear next
 refine W_call Kok ((x1.trans x2).trans xw).1 (dr w (x2.trans xw)) fun r wB xB hr=> ?_
 obtain ⟨ua,uc,rfl,t⟩:=hr
 have K0:=(x1.trans x2).trans (xw.trans xB)
 have KB:=x2.trans (xw.trans xB)
 obtain ⟨W,hWd⟩:∃ W,W=wideT R:=⟨_,rfl⟩
 rw [← hWd] at e4 hW512 ⊢
 have hwR:∀ y ∈ R,(runesI y).length≤W:=fun y hy=>by rw [hWd];exact wideT_ge hy
 simp +decide only [go_sem,WR,WS,hsz,e1',e2',e4]
 refine W_loop (α:=Nat × Value) (fun k f w=>k.1≤R.length∧f.size=52∧Ext wB w∧f.get 1= .pointer (some ⟨h.size,0,none⟩)∧f.get 2= .pointer (some ⟨h.size+1,0,none⟩)∧f.get 4= .int .i64 ((W:Nat):Int)∧f.get 7=k.2∧Own wB.size w 1 k.2 (charsT W (R.take k.1)).length (rv (charsT W (R.take k.1))) ∧
  f.get 24= .slice ua R.length uc∧f.get 25= .int .i64 ((R.length:Nat):Int)∧f.get 26= .int .i64 (k.1:Int)) (fun k=>R.length - k.1) (0,.slice none 0 0) ?_ ?_
 ·exact ⟨Nat.zero_le _,by simp +decide only [go_sem,hsz],Ext.refl _,by simp +decide only [go_sem,hsz,e1'],by simp +decide only [go_sem,hsz,e2'],by simp +decide only [go_sem,hsz,e4],by simp +decide only [go_sem,hsz],Own.nil _ _ _,by simp +decide only [go_sem,hsz],by simp +decide only [go_sem,hsz],by simp +decide only [go_sem,hsz];rfl⟩
 clear e4 e12 e13 e14 e1' e2' hil hi hsz
 rintro ⟨i,tv⟩ f w' ⟨hi,hsz,xw',f1,f2,f4,f7,own,f24,f25,f26⟩ next
 simp only at hi f7 own f26
 have htl:(charsT W (R.take i)).length=(R.take i).length*W:=charsT_length fun y hy=>hwR y (List.mem_of_mem_take hy)
 have htb:(charsT W (R.take i)).length≤301*512:=by
  rw [htl]
  exact Nat.mul_le_mul (by rw [List.length_take];omega) hW512
 by_cases hil:(i:Int) < ((R.length:Nat):Int)
 ·obtain ⟨b,o,cs,rfl,q2,q3,q4⟩:=text_at (t.ext xw') (i:=i) (by omega)
  obtain ⟨y,hy⟩:∃ y,y=R[i]:=⟨_,rfl⟩
  have hyi:R[i]? =some y:=by rw [hy];exact List.getElem?_eq_getElem (by omega)
  rw [← hy] at q4
  have hyW:=hwR y (List.mem_of_getElem? hyi)
  have hT:charsT W (R.take (i+1))=charsT W (R.take i)++padI W y:=by rw [List.take_add_one,hyi,Option.toList_some,charsT_snoc]
  generalize charsT W (R.take i)=T at *
  have hpy:padI W y=runesI y++List.replicate (W - (runesI y).length) 32:=rfl
  obtain ⟨L,rfl⟩:=text_of y
  obtain ⟨l,hl'⟩:∃ l,l=runesI (text L):=⟨_,rfl⟩
  rw [← hl'] at hyW hpy
  obtain ⟨u1,g1,k1,hsu1,zu1⟩:=lay1 w' (.cells (rv l) 1)
  have ic:=icvt_all (l:=L) (h:=w')
  rw [← hl',g1] at ic
  have t1:Ln u1 (.slice (some ⟨w'.size,0,none⟩) l.length big) l:=Ln.new (by omega) zu1
  have is1:=t1.islice
  have jlo:h.size≤wB.size:=K0.1
  obtain ⟨ta,tc,rfl⟩:=own.shape
  obtain ⟨a3,c3,u2,g2,own2,k2,_⟩:=own_any (low:=h.size) (bytes:=4) (k:=l.length) (new:=rv l) jlo (xw'.trans k1) (own.ext k1) (by omega) (by rw [rv_length];omega) (by omega) (by omega)
  obtain ⟨u3,g3,k3,hsu3,zu3⟩:=lay1 u2 (.cells [.int .i32 32] 1)
  have sb:IntKind.i64.wrap ((W:Int) - ((l.length:Nat):Int))=((W - l.length:Nat):Int):=by rw [wrap_i64 (by omega) (by omega)];omega
  have c0:(0:Int)≤(i:Int):=by omega
  have i1:IntKind.i64.wrap ((i:Int)+1)=((i+1:Nat):Int):=by rw [wrap_i64 (by omega) (by omega)];omega
  simp +decide only [go_sem,WR,WS,hsz,f4,f7,f24,f25,f26,hil,c0,Int.toNat_natCast,q3,q4,ic,is1,g2,g3,sb]
  refine W_call Kok (K0.trans (k2.trans k3)).1 (rep_run (W - l.length) u3 zu3 (by omega) (by omega)) fun r u4 k4 hr=> ?_
  obtain ⟨pa,pc,rfl,sp⟩:=hr
  have isp:=sp.isl
  obtain ⟨a5,c5,u5,g5,own5,k5,_⟩:=own_any (low:=h.size) (bytes:=4) (k:=W - l.length) (new:=rv (List.replicate (W - l.length) 32)) jlo (k2.trans (k3.trans k4)) (own2.ext (k3.trans k4)) (by omega) (by simp [rv_length]) (by omega) (by omega)
  have hlen:(T++padI W (text L)).length=T.length+l.length+(W - l.length):=by rw [hpy];simp;omega
  have hcs:rv (T++padI W (text L))=rv T++rv l++rv (List.replicate (W - l.length) 32):=by rw [hpy,rv_append,rv_append,List.append_assoc]
  rw [← hlen,← hcs] at own5
  simp +decide only [go_sem,WR,WS,hsz,isp,g5,f26,i1]
  exact next (i+1,.slice a5 (T.length+l.length+(W - l.length)) c5) _ _ ⟨by simp only;omega,by simp +decide only [go_sem,hsz],k5,by simp +decide only [go_sem,hsz,f1],by simp +decide only [go_sem,hsz,f2],by simp +decide only [go_sem,hsz,f4],by simp +decide only [go_sem,hsz],by simp only [hT];rw [← hlen];exact own5,by simp +decide only [go_sem,hsz,f24],by simp +decide only [go_sem,hsz,f25],by simp +decide only [go_sem,hsz]⟩ (by simp only;omega)
 have hie:i=R.length:=by omega
 subst hie
 rw [List.take_length] at own htl htb
 have z3:w'.get h.size=_:=((KB.trans xw').2 _ (by omega)).trans z1
 obtain ⟨ta,tc,rfl⟩:=own.shape
 have K1:=K0.trans xw'
 simp +decide only [go_sem,WR,WS,hsz,f1,f2,f4,f7,f24,f25,f26,hil,z3]
 refine W_call Kok K1.1 (dr w' (KB.trans xw')) fun r w4 x4 hr=> ?_
 obtain ⟨va,vc,rfl,_⟩:=hr
 obtain ⟨w5,e5,x5,hs5,z5⟩:=lay1 w4 (.cells [.int .i64 ((R.length:Nat):Int),.int .i64 ((W:Nat):Int)] 1)
 have K5:=K1.trans (x4.trans x5)
 simp +decide only [go_sem,WR,WS,hsz,f4,f7,e5]
 refine W_call Kok K5.1 (achars_run R.length W (charsT W R) w5 z5 (by omega) (own.sl.ext (x4.trans x5)) (by omega) (by omega) (by omega) htl) fun r w6 x6 hr=> ?_
 obtain ⟨u,rfl,hu1,hu2⟩:=hr
 have K6:=K5.trans x6
 have y6:w6.get (h.size+1)=_:=((KB.trans (xw'.trans (x4.trans (x5.trans x6)))).2 _ (by omega)).trans y1
 have jq:h.size≤h.size+1:=by omega
 cases ho:ok2 R.length W
 ·have:=hu2 ho
  subst this
  obtain ⟨w7,e7,x7,hs7,z7,k7⟩:=put1 K6 jq (.cells [.slice none 0 0,.bool false,.slice none 0 0,.slice none 0 0,.bool false] 5)
  simp +decide only [go_sem,WR,WS,hsz,f2,azero,y6,jq,e7,z7]
  exact ⟨_,rfl,fun hh=>(by cases hh),fun _=>rfl⟩
 ·obtain ⟨a6,c6,a7,c7,rfl,p1,p2⟩:=hu1 ho
  obtain ⟨w7,e7,x7,hs7,z7,k7⟩:=put1 K6 jq (.cells [.slice a6 2 c6,.bool true,.slice a7 (charsT W R).length c7,.slice none 0 0,.bool true] 5)
  simp +decide only [go_sem,WR,WS,hsz,f2,y6,jq,e7,z7]
  exact ⟨_,rfl,fun _=>⟨a6,c6,a7,c7,rfl,sl_put p1 y6 (by omega) e7,sl_put p2 y6 (by omega) e7⟩,fun hh=>(by cases hh)⟩
end Go.Proofs.YtachkofbmodnnaaGreatDoor.M9
