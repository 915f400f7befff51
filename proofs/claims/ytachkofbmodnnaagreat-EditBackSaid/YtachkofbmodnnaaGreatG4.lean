/- Proved here: parts of the way to BEditBack (Im4 BLine S1 S2); no condition beyond those that each theorem names. -/
import Derived.Test.YtachkofbmodnnaaGreatG3
import Derived.Test.YtachkofbmodnnaaGreatRows
import Derived.WalkKit
import Derived.ProofKit
import Derived.OpenShut
import Derived.ShutString
import Derived.ChangeOld
import Derived.Below
import Derived.Carry
import Derived.SizedLaws
import Derived.Shelf.Sort.Plain
import Derived.Shelf.Slices.CompactS
import Derived.Shelf.Strings.Builder1
import Derived.Test.YtachkofbmodnnaaGreatProg
set_option linter.unusedSimpArgs false
set_option linter.unusedVariables false
namespace Go.Im.Limbs
def B:Nat:=4294967296
theorem B_eq:B=4294967296:=rfl
theorem ZdP:0 < B:=by decide
def val:List Nat→Nat
 | []=>0
 | d::l=>d+B*val l
theorem ZaQ:val []=0:=rfl
theorem ZaE (d:Nat) (l:List Nat):val (d::l)=d+B*val l:=rfl
def Small (l:List Nat):Prop:=∀ d ∈ l,d < B
theorem Small.nil:Small []:=by intro d h;cases h
theorem Small.cons {d:Nat} {l:List Nat} (h:d < B) (hl:Small l):Small (d::l):=by
 intro x hx
 rcases List.mem_cons.1 hx with rfl | hx
 ·exact h
 ·exact hl x hx
theorem Small.tail {d:Nat} {l:List Nat} (h:Small (d::l)):d < B∧Small l:=⟨h d Yp,fun x hx=>h x Y6⟩
theorem Small.take {l:List Nat} (h:Small l) (k:Nat):Small (l.take k):=fun d hd=>h d (List.mem_of_mem_take hd)
theorem Small.drop {l:List Nat} (h:Small l) (k:Nat):Small (l.drop k):=fun d hd=>h d (List.mem_of_mem_drop hd)
theorem Small.append {l r:List Nat} (h:Small l) (k:Small r):Small (l++r):=by
 intro d hd
 rcases List.mem_append.1 hd with hd | hd
 ·exact h d hd
 ·exact k d hd
theorem Small.set {l:List Nat} (h:Small l) {v:Nat} (hv:v < B) (k:Nat):Small (l.set k v):=by
 intro d hd
 rcases List.mem_or_eq_of_mem_set hd with hd | rfl
 ·exact h d hd
 ·exact hv
theorem Small.replicate (n:Nat):Small (List.replicate n 0):=by
 intro d hd
 rw [(List.mem_replicate.1 hd).2]
 exact ZdP
theorem Small.get {l:List Nat} (h:Small l) {i d:Nat} (hi:l[i]? =some d):d < B:=h d (List.mem_of_getElem? hi)
theorem val_append (l r:List Nat):val (l++r)=val l+B ^ l.length*val r:=by
 induction l with
 | nil=>simp [val]
 | cons d l ih =>
   simp only [List.cons_append,ZaE,ih,List.length_cons,Nat.pow_succ]
   grind
theorem ZdR {l:List Nat} (h:Small l):val l < B ^ l.length:=by
 induction l with
 | nil=>simp [val]
 | cons d l ih =>
   have h1:=h.tail
   have h2:=ih h1.2
   simp only [ZaE,List.length_cons,Nat.pow_succ]
   have h3:B*(val l+1)≤B*B ^ l.length:=Nat.mul_le_mul_left _ h2
   have h4:=h1.1
   rw [Nat.mul_add] at h3
   rw [Nat.mul_comm (B ^ l.length)]
   omega
theorem Zbs (n:Nat):val (List.replicate n 0)=0:=by
 induction n with
 | zero=>rfl
 | succ n ih=>simp [List.replicate_succ,ZaE,ih]
theorem ZcB {l:List Nat} {k d:Nat} (h:l[k]? =some d) (v:Nat):val (l.set k v)+d*B ^ k=val l+v*B ^ k:=by
 induction l generalizing k with
 | nil=>simp at h
 | cons x l ih =>
   cases k with
   | zero =>
     simp at h
     subst h
     simp [ZaE]
     omega
   | succ k =>
     simp at h
     have:=ih h
     simp only [List.set_cons_succ,ZaE,Nat.pow_succ]
     grind
theorem Zao {l:List Nat} {k d:Nat} (h:l[k]? =some d):val (l.take (k+1))=val (l.take k)+d*B ^ k:=by
 rw [List.take_add_one,h]
 have hk:=(List.getElem?_eq_some_iff.1 h).1
 rw [val_append]
 simp [ZaE,ZaQ,Nat.min_eq_left (Nat.le_of_lt hk)]
 rw [Nat.mul_comm]
theorem ZfB (l:List Nat) (k:Nat) (h:k≤l.length):val l=val (l.take k)+B ^ k*val (l.drop k):=by
 have:=val_append (l.take k) (l.drop k)
 rw [List.take_append_drop] at this
 rw [this]
 simp [Nat.min_eq_left h]
def dig (m:Nat):List Nat:=if h:m=0 then [] else m%B::dig (m / B)
termination_by m
decreasing_by exact Nat.div_lt_self Ya YI
theorem ZaU:dig 0=[]:=by rw [dig];simp
theorem ZdK {m:Nat} (h:m≠0):dig m=m%B::dig (m / B):=by
 rw [dig]
 simp [h]
theorem ZaL (m:Nat):val (dig m)=m:=by
 induction m using Nat.strongRecOn with
 | ind m ih =>
   by_cases h:m=0
   ·subst h;rw [ZaU];rfl
   ·rw [ZdK h,ZaE,ih (m / B) (Nat.div_lt_self Ya YI)]
    exact Nat.mod_add_div m B
theorem Zap (m:Nat):Small (dig m):=by
 induction m using Nat.strongRecOn with
 | ind m ih =>
   by_cases h:m=0
   ·subst h;rw [ZaU];exact Small.nil
   ·rw [ZdK h]
    exact Small.cons (Nat.mod_lt _ ZdP) (ih (m / B) (Nat.div_lt_self Ya YI))
def Top (l:List Nat):Prop:=l.getLast? ≠some 0
theorem Top.nil:Top []:=by simp [Top]
theorem Top.tail {d e:Nat} {l:List Nat} (h:Top (d::e::l)):Top (e::l):=by simpa [Top] using h
theorem ZpQ {l:List Nat} (h:Top l) (h0:l≠[]):0 < val l:=by
 induction l with
 | nil=>exact absurd rfl h0
 | cons d l ih =>
   cases l with
   | nil =>
     simp [Top] at h
     simp [ZaE,ZaQ]
     omega
   | cons e l =>
     have:=ih h.tail Yp
     rw [ZaE]
     have:0 < B*val (e::l):=Nat.mul_pos ZdP this
     omega
theorem Zq0 {l:List Nat} (h:Small l) (ht:Top l):dig (val l)=l:=by
 induction l with
 | nil=>rw [ZaQ,ZaU]
 | cons d l ih =>
   have h1:=h.tail
   have hp:=ZpQ ht Yp
   have htl:Top l:=by
    cases l with
    | nil=>exact Top.nil
    | cons e l=>exact ht.tail
   rw [ZdK Ya,ZaE]
   have e1:(d+B*val l)%B=d:=by
    rw [Nat.add_mul_mod_self_left,Nat.mod_eq_of_lt h1.1]
   have e2:(d+B*val l) / B=val l:=by
    rw [Nat.add_mul_div_left _ _ ZdP,Nat.div_eq_of_lt h1.1,Nat.zero_add]
   rw [e1,e2,ih h1.2 htl]
theorem Zq1 (m:Nat):Top (dig m):=by
 induction m using Nat.strongRecOn with
 | ind m ih =>
   by_cases h:m=0
   ·subst h;rw [ZaU];exact Top.nil
   ·rw [ZdK h]
    by_cases h2:m / B=0
    ·rw [h2,ZaU]
     have:=Nat.mod_add_div m B
     rw [h2] at this
     simp [Top]
     omega
    ·have:=ih (m / B) (Nat.div_lt_self Ya YI)
     rw [ZdK h2] at this ⊢
     simpa [Top] using this
theorem Zaz {m k:Nat}:(dig m).length≤k↔m < B ^ k:=by
 constructor
 ·intro h
  have h1:=ZdR (Zap m)
  rw [ZaL] at h1
  exact Nat.lt_of_lt_of_le h1 (Nat.pow_le_pow_right ZdP h)
 ·intro h
  induction k generalizing m with
  | zero =>
    have:m=0:=by simpa using h
    subst this
    rw [ZaU]
    exact Nat.le_refl _
  | succ k ih =>
    by_cases h0:m=0
    ·subst h0;rw [ZaU];exact Nat.zero_le _
    ·rw [ZdK h0,List.length_cons]
     have:m / B < B ^ k:=by
      rw [Nat.div_lt_iff_lt_mul ZdP]
      rwa [Nat.pow_succ] at h
     have:=ih this
     omega
theorem ZdL {m:Nat}:dig m=[]↔m=0:=by
 constructor
 ·intro h
  have:=ZaL m
  rw [h] at this
  exact this.symm
 ·rintro rfl
  exact ZaU
theorem Zta {m:Nat} (h:m≠0):B ^ ((dig m).length - 1)≤m:=by
 have h1:¬ (dig m).length≤(dig m).length - 1:=by
  have:0 < (dig m).length:=List.length_pos_iff.2 (fun e=>h (ZdL.1 e))
  omega
 rw [Zaz] at h1
 omega
theorem Zku (m:Nat):m < B ^ (dig m).length:=Zaz.1 (Nat.le_refl _)
theorem Zlu {l:List Nat} {k:Nat} (hk:k < l.length) (h:l[k]? =some 0):val (l.take (k+1))=val (l.take k):=by
 rw [Zao h]
 omega
theorem Zq2 {m:Nat} (h0:m≠0) (h:m < B):dig m=[m]:=by
 rw [ZdK h0,Nat.div_eq_of_lt h,ZaU,Nat.mod_eq_of_lt h]
theorem Zq3 {m n:Nat} (h:dig m=dig n):m=n:=by rw [← ZaL m,← ZaL n,h]
theorem ZhO {l:List Nat} {i d:Nat} (h:l[i]? =some d):val l=val (l.take i)+B ^ i*(d+B*val (l.drop (i+1))):=by
 have hi:=(List.getElem?_eq_some_iff.1 h).1
 rw [ZfB l i Ya,List.drop_eq_getElem_cons hi,ZaE]
 have:=(List.getElem?_eq_some_iff.1 h).2
 rw [this]
theorem Zsm {l r:List Nat} {i d e:Nat} (hl:Small l) (hi:l[i]? =some d) (hr:r[i]? =some e) (hd:l.drop (i+1)=r.drop (i+1)) (hde:d < e):val l < val r:=by
 rw [ZhO hi,ZhO hr,hd]
 have hlen:i≤l.length:=by have:=(List.getElem?_eq_some_iff.1 hi).1;omega
 have h1:=ZdR (hl.take i)
 rw [List.length_take,Nat.min_eq_left hlen] at h1
 have h2:B ^ i*(d+1+B*val (r.drop (i+1)))≤B ^ i*(e+B*val (r.drop (i+1))):=Nat.mul_le_mul_left _ Ya
 have h3:B ^ i*(d+1+B*val (r.drop (i+1)))=B ^ i*(d+B*val (r.drop (i+1)))+B ^ i:=Yac
 omega
theorem Ze6 {m n:Nat} (h:(dig m).length < (dig n).length):m < n:=by
 have h1:=Zku m
 have h0:n≠0:=by
  rintro rfl
  rw [ZaU] at h
  simp at h
 have h2:=Zta h0
 have h3:B ^ (dig m).length≤B ^ ((dig n).length - 1):=Nat.pow_le_pow_right ZdP Ya
 omega
end Go.Im.Limbs
namespace Go.Im
def irsl (k:Option Elts) (hp:Heap) (a:Option Addr) (n cap:Nat) (lo hi mx:Option Value):Option Value:=match k with
 | some (.slice size) =>
    if cap < big then match Zb4 n cap lo hi mx with
     | some (l,h,m)=>if cap=0 then some (.slice a 0 0) else match a with
       | some ⟨b,o,none⟩=>match hp.look b with
         | .cells _ esz=>if esz=size then some (.slice (some ⟨b,if m=l then o else o+l*size,none⟩) (h - l) (m - l)) else none
         | _=>none
       | _=>none
     | none=>none
    else if cap=big then match a with
     | some ⟨b,o,none⟩=>match hp.look b with
       | .cells cs esz=>if esz≠size then none else match Zb4 n ((cs.length - o) / size) lo hi mx with
         | some (l,h,m)=>match mx with
           | none=>some (.slice (some ⟨b,o+l*size,none⟩) (h - l) big)
           | some _=>if m < big then some (.slice (some ⟨b,if m=l then o else o+l*size,none⟩) (h - l) (m - l)) else none
         | none=>none
       | _=>none
     | _=>none
    else none
 | _=>none
@[go_sem] theorem Zqt {P:Program} {h:Heap} {t:TypeId} {a:Option Addr} {n c:Nat} {lo hi mx:Option Value}:ZeM P h t (.slice a n c) lo hi mx=irsl (elts P t) h a n c lo hi mx:=by
  unfold ZeM irsl elts
  cases P.underlying t with
  | none=>rfl
  | some u =>
    cases u with
    | slice e=>cases hs:Zaq P e<;>simp only [hs,Option.map_some,Option.map_none]<;>rfl
    | array n e=>cases hs:Zaq P e<;>simp [hs]
    | _=>rfl
theorem Sl.cut {h w:Heap} (k:Ext h w) {a:Option Addr} {n c size:Nat} {xs:List Value} (hz:0 < size) (s:Sl h size a n c xs) {lo hi:Option Value} {l u:Nat}
  (hl:Zag 0 lo=some l) (hu:Zag n hi=some u) (hlu:l≤u) (hun:u≤n) :
  ∃ a' c',irsl (some (.slice size)) w a n c lo hi none=some (.slice a' (u - l) c')∧Sl h size a' (u - l) c' ((xs.drop (l*size)).take ((u - l)*size)):=by
 rcases s with ⟨rfl,rfl,rfl,rfl⟩ | ⟨b,o,rfl,rfl,rfl,rfl⟩ | ⟨b,o,cs,rfl,h2,h3,h4,h5,rfl,h8⟩
 ·have:u=0:=by omega
  subst this
  have:l=0:=by omega
  subst this
  refine ⟨none,0,?_,by simpa using Sl.nil h size⟩
  have:Zb4 0 0 lo hi none=some (0,0,0):=Za6 hl hu Ya Ya
  simp only [irsl,this]
  simp [big]
 ·have:u=0:=by omega
  subst this
  have:l=0:=by omega
  subst this
  refine ⟨some ⟨b,o,none⟩,0,?_,.inr (.inl ⟨b,o,rfl,rfl,rfl,by simp⟩)⟩
  have:Zb4 0 0 lo hi none=some (0,0,0):=Za6 hl hu Ya Ya
  simp only [irsl,this]
  simp [big]
 ·have hxs:(((cs.drop o).take (n*size)).drop (l*size)).take ((u - l)*size)=(cs.drop (o+l*size)).take ((u - l)*size):=by
   have e1:u*size≤n*size:=Nat.mul_le_mul_right _ hun
   have e2:(u - l)*size+l*size=u*size:=YV
   rw [List.drop_take,List.drop_drop,List.take_take,Nat.min_eq_left Ya]
  have e2:(u - l)*size+l*size=u*size:=YV
  have e1:u*size≤n*size:=Nat.mul_le_mul_right _ hun
  rw [hxs]
  rcases h8 with ⟨h7,h8⟩ | h8
  ·have hin:Zb4 n c lo hi none=some (l,u,c):=Za6 hl hu hlu Ya
   have hc0:¬ c=0:=Ya
   refine ⟨some ⟨b,if c=l then o else o+l*size,none⟩,c - l,?_,?_⟩
   ·simp only [irsl,hin,if_pos h8,if_neg hc0,Heap.look,k.2 b h3,h4,if_true]
   ·by_cases hcl:c=l
    ·have:u=l:=by omega
     subst this
     rw [if_pos hcl]
     exact .inr (.inl ⟨b,o,rfl,by omega,by omega,by simp⟩)
    ·rw [if_neg hcl]
     exact .inr (.inr ⟨b,o+l*size,cs,rfl,by omega,h3,h4,by omega,rfl,.inl ⟨by omega,by omega⟩⟩)
  ·have hdiv:n≤(cs.length - o) / size:=by
    rw [Nat.le_div_iff_mul_le hz]
    omega
   have hin:Zb4 n ((cs.length - o) / size) lo hi none=some (l,u,(cs.length - o) / size):=Za6 hl hu hlu Ya
   refine ⟨some ⟨b,o+l*size,none⟩,big,?_,?_⟩
   ·have hnb:¬ c < big:=by omega
    simp only [irsl,if_neg hnb,if_pos h8,Heap.look,k.2 b h3,h4,hin]
    simp
   ·exact .inr (.inr ⟨b,o+l*size,cs,rfl,by simp [big],h3,h4,by omega,rfl,.inr rfl⟩)
def icp (low:Nat) (h:Heap) (k:Option Elts) (b o n:Nat) (x:Value):Option (Value × Heap):=match k with
 | some (.slice size)=>match h.get b with
   | .cells cs esz=>match Zak h size x with
     | some new=>if low≤b∧esz=size∧0 < size∧o+n*size≤cs.length then some (.int .i64 ((min (new.length / size) n:Nat):Int),h.set b (.cells (splice cs o (new.take (min (new.length / size) n*size))) esz)) else none
     | none=>none
   | _=>none
 | _=>none
@[go_sem] theorem Zoz {P:Program} {low:Nat} {h:Heap} {t1 t2:TypeId} {b o n c:Nat} {a:Option Addr} {m c':Nat}:ZaG P low h .copy #[t1,t2] [.slice (some ⟨b,o,none⟩) n c,.slice a m c']=icp low h (elts P t1) b o n (.slice a m c'):=by
  have e1:((#[t1,t2]:Array TypeId)[0]?).bind P.underlying=P.underlying t1:=rfl
  simp only [ZaG,e1,icp,elts]
  cases P.underlying t1 with
  | none=>cases h.get b<;>rfl
  | some u =>
    cases u with
    | slice e =>
      cases hs:Zaq P e with
      | none=>cases hg:h.get b<;>simp [hs]
      | some size =>
        cases hg:h.get b with
        | cells cs esz =>
          simp only [hs,Option.map_some]
          cases Zak h size (.slice a m c')<;>rfl
        | _=>simp [hs]
    | array q e=>cases hs:Zaq P e<;>cases hg:h.get b<;>simp [hs]
    | _=>cases hg:h.get b<;>rfl
theorem ZsQ {low:Nat} {h:Heap} {b n:Nat} {cs new:List Value} {x:Value} (hg:h.get b= .cells cs 1) (hi:Zak h 1 x=some new) (hl:low≤b) (hn:n=cs.length) (hw:new.length≤n) :
  icp low h (some (.slice 1)) b 0 n x=some (.int .i64 (new.length:Nat),h.set b (.cells (new++cs.drop new.length) 1)):=by
 simp only [icp,hg,hi]
 rw [if_pos ⟨hl,trivial,by omega,by omega⟩,Nat.div_one,Nat.min_eq_left hw,Nat.mul_one,List.take_of_length_le (Nat.le_refl _)]
 simp [splice]
attribute [go_sem] dyOK Zmd ZeC Zew Zoi ZeT Go.Im.differ List.all_cons List.all_nil List.getElem?_toArray List.getElem?_cons_succ List.getElem?_cons_zero Bool.and_true Bool.true_or
theorem w32 (x:Nat):IntKind.u32.wrap (x:Int)=((x%4294967296:Nat):Int):=by
 simp [IntKind.wrap,IntKind.bits,IntKind.signed]
theorem w64 {x:Nat} (h:x < 18446744073709551616):IntKind.u64.wrap (x:Int)=(x:Int):=wrap_u64 Ya Ya
theorem w64m (x:Nat):IntKind.u64.wrap (x:Int)=((x%18446744073709551616:Nat):Int):=by
 simp [IntKind.wrap,IntKind.bits,IntKind.signed]
theorem wmul {x y:Nat} (h:x*y < 18446744073709551616):IntKind.u64.wrap ((x:Int)*(y:Int))=((x*y:Nat):Int):=by
 rw [← Int.natCast_mul]
 exact w64 h
theorem wadd {x y:Nat} (h:x+y < 18446744073709551616):IntKind.u64.wrap ((x:Int)+(y:Int))=((x+y:Nat):Int):=by
 rw [← Int.natCast_add]
 exact w64 h
theorem wsub {x y:Nat} (h:y≤x) (hx:x < 18446744073709551616):IntKind.u64.wrap ((x:Int) - (y:Int))=((x - y:Nat):Int):=by
 rw [← Int.ofNat_sub h]
 exact w64 Ya
theorem iadd {x y:Nat} (h:x+y < 9223372036854775808):IntKind.i64.wrap ((x:Int)+(y:Int))=((x+y:Nat):Int):=by
 rw [← Int.natCast_add]
 exact wrap_i64 Ya Ya
theorem ishr {P:Program} {t:TypeId} {k:IntKind} {n s:Nat} (hs:s≤64):Zaj P .shr t (.int .u64 (n:Int)) (.int k (s:Int))=some (.int .u64 ((n / 2 ^ s:Nat):Int)):=by
 have h0:¬ ((s:Int) < 0):=Ya
 simp only [Zaj,ibin,h0,if_false,Int.toNat_natCast,IntKind.bits]
 rw [Nat.min_eq_left hs]
 congr 2
 rw [Int.fdiv_eq_ediv_of_nonneg _ (by exact Int.pow_nonneg Ya)]
 rw [Int.natCast_ediv,Int.natCast_pow]
 rfl
theorem Zio {P:Program} {t:TypeId} {k:IntKind} {n:Nat}:Zaj P .shr t (.int .u64 (n:Int)) (.int k 32)=some (.int .u64 ((n / 4294967296:Nat):Int)):=by
 have:=ishr (P:=P) (t:=t) (k:=k) (n:=n) (s:=32) Ya
 exact this
theorem ishl {P:Program} {t:TypeId} {k:IntKind} {n s:Nat} (hs:s≤64):Zaj P .shl t (.int .u64 (n:Int)) (.int k (s:Int))=some (.int .u64 ((n*2 ^ s%18446744073709551616:Nat):Int)):=by
 have h0:¬ ((s:Int) < 0):=Ya
 simp only [Zaj,ibin,h0,if_false,Int.toNat_natCast,IntKind.bits]
 rw [Nat.min_eq_left hs,← w64m]
 congr 2
theorem Zf4 {P:Program} {t:TypeId} {k:IntKind} {n:Nat}:Zaj P .shl t (.int .u64 (n:Int)) (.int k 32)=some (.int .u64 ((n*4294967296%18446744073709551616:Nat):Int)):=by
 have:=ishl (P:=P) (t:=t) (k:=k) (n:=n) (s:=32) Ya
 exact this
theorem Zjo {P:Program} {t:TypeId} {x y:Nat} (hx:x < 18446744073709551616) (hy:y < 18446744073709551616):Zaj P .or t (.int .u64 (x:Int)) (.int .u64 (y:Int))=some (.int .u64 ((x ||| y:Nat):Int)):=by
 have e:(BitVec.ofInt 64 (x:Int) ||| BitVec.ofInt 64 (y:Int)).toNat=x ||| y:=by
  rw [BitVec.toNat_or,BitVec.ofInt_natCast,BitVec.ofInt_natCast,BitVec.toNat_ofNat,BitVec.toNat_ofNat,Nat.mod_eq_of_lt hx,Nat.mod_eq_of_lt hy]
 have l:x ||| y < 2 ^ 64:=Nat.or_lt_two_pow hx hy
 have h:Op.intBits .or .u64 (x:Int) (y:Int)= .pure (.int .u64 (IntKind.u64.wrap (((BitVec.ofInt 64 (x:Int) ||| BitVec.ofInt 64 (y:Int)).toNat:Nat):Int))):=rfl
 simp only [Zaj,ibin,if_true,h]
 rw [e,w64 l]
theorem ZsA {P:Program} {t:TypeId} {x y:Nat} (hx:x < 4294967296) (hy:y < 4294967296):Zaj P .or t (.int .u32 (x:Int)) (.int .u32 (y:Int))=some (.int .u32 ((x ||| y:Nat):Int)):=by
 have e:(BitVec.ofInt 32 (x:Int) ||| BitVec.ofInt 32 (y:Int)).toNat=x ||| y:=by
  rw [BitVec.toNat_or,BitVec.ofInt_natCast,BitVec.ofInt_natCast,BitVec.toNat_ofNat,BitVec.toNat_ofNat,Nat.mod_eq_of_lt hx,Nat.mod_eq_of_lt hy]
 have l:x ||| y < 2 ^ 32:=Nat.or_lt_two_pow hx hy
 have h:Op.intBits .or .u32 (x:Int) (y:Int)= .pure (.int .u32 (IntKind.u32.wrap (((BitVec.ofInt 32 (x:Int) ||| BitVec.ofInt 32 (y:Int)).toNat:Nat):Int))):=rfl
 simp only [Zaj,ibin,if_true,h]
 rw [e,w32,Nat.mod_eq_of_lt l]
theorem Zh8 {x y:Nat} (h:y < 4294967296):(x*4294967296) ||| y=x*4294967296+y:=by
 have:=Nat.two_pow_add_eq_or_of_lt (i:=32) (b:=y) h x
 rw [Nat.mul_comm x]
 exact this.symm
theorem Zo2 {x y:Nat} (h:y≤4294967296):IntKind.u32.wrap ((x:Int) - (y:Int))=(((x+4294967296 - y)%4294967296:Nat):Int):=by
 have:((x:Int) - (y:Int))%4294967296=((x+4294967296 - y:Nat):Int)%4294967296:=by omega
 simp only [IntKind.wrap,IntKind.bits,IntKind.signed,Bool.false_and,Bool.false_eq_true,if_false]
 show ((x:Int) - (y:Int))%4294967296=_
 rw [this]
 omega
theorem Zsp {P:Program} {x:Nat} (hx:x < 4294967296):Zk6 .xor P (.int .u32 (x:Int))=some (.int .u32 ((4294967295 ^^^ x:Nat):Int)):=by
 have e:(BitVec.ofInt 32 ((4294967295:Nat):Int) ^^^ BitVec.ofInt 32 (x:Int)).toNat=4294967295 ^^^ x:=by
  rw [BitVec.toNat_xor,BitVec.ofInt_natCast,BitVec.ofInt_natCast,BitVec.toNat_ofNat,BitVec.toNat_ofNat,Nat.mod_eq_of_lt hx]
 have l:4294967295 ^^^ x < 2 ^ 32:=Nat.xor_lt_two_pow Ya hx
 have h:Zk6 .xor P (.int .u32 (x:Int))=some (.int .u32 (IntKind.u32.wrap (((BitVec.ofInt 32 ((4294967295:Nat):Int) ^^^ BitVec.ofInt 32 (x:Int)).toNat:Nat):Int))):=rfl
 rw [h,e,w32,Nat.mod_eq_of_lt l]
theorem Zso {P:Program} {t:TypeId} {x y:Nat} (hx:x < 4294967296) (hy:y < 4294967296):Zaj P .xor t (.int .u32 (x:Int)) (.int .u32 (y:Int))=some (.int .u32 ((x ^^^ y:Nat):Int)):=by
 have e:(BitVec.ofInt 32 (x:Int) ^^^ BitVec.ofInt 32 (y:Int)).toNat=x ^^^ y:=by
  rw [BitVec.toNat_xor,BitVec.ofInt_natCast,BitVec.ofInt_natCast,BitVec.toNat_ofNat,BitVec.toNat_ofNat,Nat.mod_eq_of_lt hx,Nat.mod_eq_of_lt hy]
 have l:x ^^^ y < 2 ^ 32:=Nat.xor_lt_two_pow hx hy
 have h:Op.intBits .xor .u32 (x:Int) (y:Int)= .pure (.int .u32 (IntKind.u32.wrap (((BitVec.ofInt 32 (x:Int) ^^^ BitVec.ofInt 32 (y:Int)).toNat:Nat):Int))):=rfl
 simp only [Zaj,ibin,if_true,h]
 rw [e,w32,Nat.mod_eq_of_lt l]
theorem Zpx {P:Program} {t:TypeId} {x y:Nat} (hx:x < 4294967296) (hy:y < 4294967296):Zaj P .and t (.int .u32 (x:Int)) (.int .u32 (y:Int))=some (.int .u32 ((x &&& y:Nat):Int)):=by
 have e:(BitVec.ofInt 32 (x:Int) &&& BitVec.ofInt 32 (y:Int)).toNat=x &&& y:=by
  rw [BitVec.toNat_and,BitVec.ofInt_natCast,BitVec.ofInt_natCast,BitVec.toNat_ofNat,BitVec.toNat_ofNat,Nat.mod_eq_of_lt hx,Nat.mod_eq_of_lt hy]
 have l:x &&& y < 2 ^ 32:=Nat.lt_of_le_of_lt Nat.and_le_left hx
 have h:Op.intBits .and .u32 (x:Int) (y:Int)= .pure (.int .u32 (IntKind.u32.wrap (((BitVec.ofInt 32 (x:Int) &&& BitVec.ofInt 32 (y:Int)).toNat:Nat):Int))):=rfl
 simp only [Zaj,ibin,if_true,h]
 rw [e,w32,Nat.mod_eq_of_lt l]
theorem Zsy {P:Program} {t:TypeId} {k:IntKind} {n:Nat}:Zaj P .shr t (.int .u32 (n:Int)) (.int k 31)=some (.int .u32 ((n / 2147483648:Nat):Int)):=by
 have h0:¬ ((31:Int) < 0):=Ya
 simp only [Zaj,ibin,h0,if_false,IntKind.bits]
 congr 2
 show ((n:Int)).fdiv 2147483648=_
 rw [Int.fdiv_eq_ediv_of_nonneg _ Ya]
 omega
theorem Zhq {P:Program} {t:TypeId} {k:IntKind} {n:Nat}:Zaj P .shr t (.int .u32 (n:Int)) (.int k 16)=some (.int .u32 ((n / 65536:Nat):Int)):=by
 have h0:¬ ((16:Int) < 0):=Ya
 simp only [Zaj,ibin,h0,if_false,IntKind.bits]
 congr 2
 show ((n:Int)).fdiv 65536=_
 rw [Int.fdiv_eq_ediv_of_nonneg _ Ya]
 omega
theorem Zki {P:Program} {t:TypeId} {k:IntKind} {n:Nat}:Zaj P .shr t (.int .u32 (n:Int)) (.int k 8)=some (.int .u32 ((n / 256:Nat):Int)):=by
 have h0:¬ ((8:Int) < 0):=Ya
 simp only [Zaj,ibin,h0,if_false,IntKind.bits]
 congr 2
 show ((n:Int)).fdiv 256=_
 rw [Int.fdiv_eq_ediv_of_nonneg _ Ya]
 omega
theorem ZoY {x y b:Nat} (hx:x < 4294967296) (hy:y < 4294967296) (hb:b≤1) :
  (((4294967295 ^^^ x) &&& y) ||| ((4294967295 ^^^ (x ^^^ y)) &&& ((x+8589934592 - y - b)%4294967296))) / 2147483648=if x < y+b then 1 else 0:=by
 have top:∀ n,n < 4294967296→n / 2147483648=if n.testBit 31 then 1 else 0:=by
  intro n hn
  rw [Nat.testBit_eq_decide_div_mod_eq]
  have:(2:Nat) ^ 31=2147483648:=rfl
  rw [this]
  by_cases h:n / 2147483648%2=1
  ·simp [h];omega
  ·simp [h];omega
 have bit:∀ n,n < 4294967296→(n.testBit 31=true↔2147483648≤n):=by
  intro n hn
  rw [Nat.testBit_eq_decide_div_mod_eq]
  have:(2:Nat) ^ 31=2147483648:=rfl
  rw [this,decide_eq_true_eq]
  omega
 have hd:(x+8589934592 - y - b)%4294967296 < 4294967296:=Nat.mod_lt _ Ya
 have hall:(((4294967295 ^^^ x) &&& y) ||| ((4294967295 ^^^ (x ^^^ y)) &&& ((x+8589934592 - y - b)%4294967296))) < 4294967296:=by
  have h1:((4294967295 ^^^ x) &&& y) < 2 ^ 32:=Nat.lt_of_le_of_lt Nat.and_le_right hy
  have h2:((4294967295 ^^^ (x ^^^ y)) &&& ((x+8589934592 - y - b)%4294967296)) < 2 ^ 32:=Nat.lt_of_le_of_lt Nat.and_le_right hd
  exact Nat.or_lt_two_pow h1 h2
 rw [top _ hall,Nat.testBit_or,Nat.testBit_and,Nat.testBit_and,Nat.testBit_xor,Nat.testBit_xor,Nat.testBit_xor]
 have hm:Nat.testBit 4294967295 31=true:=YI
 rw [hm]
 have bx:=bit x hx
 have by':=bit y hy
 have bd:=bit _ hd
 cases h1:x.testBit 31<;>cases h2:y.testBit 31<;>cases h3:((x+8589934592 - y - b)%4294967296).testBit 31<;>simp only [h1,h2,h3,Bool.false_eq_true,false_iff,true_iff] at bx by' bd<;>simp<;>omega
def icvt (k:Option IntKind) (s:List UInt8) (h:Heap):Option (Value × Heap):=match k with
 | some .u8=>some (.slice (some ⟨h.size,0,none⟩) s.length big,h.push (.cells (byteCells s) 1))
 | some .i32=>some (.slice (some ⟨h.size,0,none⟩) (Conv.runesFrom (text s) (text s).size 0 #[]).toList.length big,h.push (.cells (Conv.runesFrom (text s) (text s).size 0 #[]).toList 1))
 | _=>none
@[go_sem] theorem Zu4 {s:List UInt8} {h:Heap}:icvt (some .u8) s h=some (.slice (some ⟨h.size,0,none⟩) s.length big,h.push (.cells (byteCells s) 1)):=rfl
theorem Zek {P:Program} {h:Heap} {t d:TypeId} {k:IntKind} {s:List UInt8} (ht:P.underlying t=some .string) (hd:sk P d=some k):ZaF P h t d (.string (text s))=icvt (some k) s h:=by
 unfold sk at hd
 split at hd
 ·rename_i e he
  split at hd
  ·rename_i h1 h2
   cases hd
   simp only [ZaF,ht,he,h1,h2,icvt,Zbt]
   rfl
  ·rename_i h1 h2
   cases hd
   simp only [ZaF,ht,he,h1,h2,icvt]
  ·cases hd
 ·cases hd
open Limbs
def lv (l:List Nat):List Value:=l.map fun (d:Nat)=> .int .u32 (d:Int)
theorem Zan (l:List Nat):(lv l).length=l.length:=by simp [lv]
theorem Za0 {l:List Nat} {i d:Nat} (h:l[i]? =some d):(lv l)[i]? =some (.int .u32 d):=by simp [lv,h]
theorem Zqh (l:List Nat) (k:Nat):(lv l).take k=lv (l.take k):=by simp [lv,List.map_take]
theorem Zqi (l:List Nat) (k:Nat):(lv l).drop k=lv (l.drop k):=by simp [lv,List.map_drop]
theorem Zmw (l r:List Nat):lv (l++r)=lv l++lv r:=by simp [lv]
theorem Zsl (l:List Nat) (k d:Nat):(lv l).set k (.int .u32 d)=lv (l.set k d):=by simp [lv,List.map_set]
theorem Zl8 {l:List Value} {k:Nat} (h:k < l.length) (x:Value):l.take k++[x]++l.drop (k+1)=l.set k x:=by
 rw [List.set_eq_take_append_cons_drop,if_pos h]
 simp
theorem ZbK {l:List Nat} {k:Nat} (h:k < l.length) (d:Nat):(lv l).take k++[.int .u32 (d:Int)]++(lv l).drop (k+1)=lv (l.set k d):=by
 rw [Zl8 (by rw [Zan];exact h),Zsl]
def NatV (h:Heap) (v:Value) (m:Nat):Prop:=∃ a n c,v= .agg #[.slice a n c]∧Sl h 1 a n c (lv (dig m))
theorem NatV.ext {h h':Heap} (k:Ext h h') {v:Value} {m:Nat} (H:NatV h v m):NatV h' v m:=by
 obtain ⟨a,n,c,h1,h2⟩:=H
 exact ⟨a,n,c,h1,h2.ext k⟩
theorem NatV.open {h:Heap} {v:Value} {m:Nat} (H:NatV h v m):∃ a c,v= .agg #[.slice a (dig m).length c]∧Sl h 1 a (dig m).length c (lv (dig m)):=by
 obtain ⟨a,n,c,h1,h2⟩:=H
 have:n=(dig m).length:=by have:=h2.length;rw [Zan] at this;omega
 subst this
 exact ⟨a,c,h1,h2⟩
theorem NatV.mk {h:Heap} {a:Option Addr} {n c:Nat} {l:List Nat} (s:Sl h 1 a n c (lv l)) (hl:Small l) (ht:Top l):NatV h (.agg #[.slice a n c]) (val l):=⟨a,n,c,rfl,by rw [Zq0 hl ht];exact s⟩
theorem ZeD {h:Heap} {b:Nat} (hb:b < h.size) (x:Blk):(h.push x).get b=h.get b:=by rw [Heap.Zam,if_neg Ya]
theorem Zbc (h:Heap) (x:Blk):(h.push x).get h.size=x:=by rw [Heap.Zam,if_pos rfl]
theorem lay1 (h:Heap) (x:Blk):∃ w,h.push x=w∧Ext h w∧w.size=h.size+1∧w.get h.size=x:=⟨_,rfl,(Ext.refl h).push _,rfl,Zbc _ _⟩
theorem lay2 (h:Heap) (x y:Blk):∃ w,(h.push x).push y=w∧Ext h w∧w.size=h.size+2∧w.get h.size=x∧w.get (h.size+1)=y:=by
 obtain ⟨w,e,k,hs,g⟩:=lay1 h x
 subst e
 exact ⟨_,rfl,k.push _,by simp,by rw [ZeD Ya];exact g,Zbc _ _⟩
theorem lay3 (h:Heap) (x y z:Blk):∃ w,((h.push x).push y).push z=w∧Ext h w∧w.size=h.size+3∧w.get h.size=x∧w.get (h.size+1)=y∧w.get (h.size+2)=z:=by
 obtain ⟨w,e,k,hs,g1,g2⟩:=lay2 h x y
 subst e
 exact ⟨_,rfl,k.push _,by simp,by rw [ZeD Ya];exact g1,by rw [ZeD Ya];exact g2,Zbc _ _⟩
theorem lay4 (h:Heap) (x y z u:Blk):∃ w,(((h.push x).push y).push z).push u=w∧Ext h w∧w.size=h.size+4∧w.get h.size=x∧w.get (h.size+1)=y∧w.get (h.size+2)=z∧w.get (h.size+3)=u:=by
 obtain ⟨w,e,k,hs,g1,g2,g3⟩:=lay3 h x y z
 subst e
 exact ⟨_,rfl,k.push _,by simp,by rw [ZeD Ya];exact g1,by rw [ZeD Ya];exact g2,by rw [ZeD Ya];exact g3,Zbc _ _⟩
theorem put1 {h w:Heap} (k:Ext h w) {b:Nat} (hb:h.size≤b) (x:Blk):∃ w',w.set b x=w'∧Ext h w'∧w'.size=w.size∧w'.get b=x∧∀ c,c≠b→w'.get c=w.get c :=
 ⟨_,rfl,k.set hb x,rfl,by rw [Heap.Zae,if_pos rfl],fun c hc=>by rw [Heap.Zae,if_neg hc]⟩
def isInt:Value→Bool
 | .int _ _=>true
 | _=>false
theorem Sl.over {w w2:Heap} {q:Nat} {old new:List Value} {esz:Nat} {a:Option Addr} {n c:Nat} {l:List Nat} (s:Sl w 1 a n c (lv l)) (hq:w.get q= .cells old esz) (ho:old.all (fun x=> !isInt x)=true)
  (hn:new.length=old.length) (hs:w2.size=w.size) (hz:w2.get q= .cells new esz) (hk:∀ b,b≠q→w2.get b=w.get b):Sl w2 1 a n c (lv l):=by
 rcases s with s | s | ⟨b,o,cs,s1,s2,s3,s4,s5,s6,s7⟩
 ·exact .inl s
 ·exact .inr (.inl s)
 ·by_cases hb:b=q
  ·subst hb
   rw [hq] at s4
   simp only [Blk.read,Blk.cells.injEq] at s4
   obtain ⟨rfl,rfl⟩:=s4
   have h0:n=0:=by
    cases l with
    | nil =>
      have:=congrArg List.length s6
      simp [lv] at this
      omega
    | cons d l =>
      exfalso
      have h1:(lv (d::l))[0]? =some (.int .u32 (d:Int)):=rfl
      rw [s6] at h1
      have h2:=List.mem_of_mem_drop (List.mem_of_mem_take (List.mem_of_getElem? h1))
      have:=List.all_eq_true.1 ho _ h2
      simp [isInt] at this
   subst h0
   refine .inr (.inr ⟨b,o,new,s1,s2,by omega,by rw [hz];rfl,by omega,?_,s7⟩)
   rw [s6]
   simp
  ·exact .inr (.inr ⟨b,o,cs,s1,s2,by omega,by rw [hk b hb];exact s4,s5,s6,s7⟩)
theorem NatV.over {w w2:Heap} {q:Nat} {old new:List Value} {esz:Nat} {v:Value} {m:Nat} (H:NatV w v m) (hq:w.get q= .cells old esz) (ho:old.all (fun x=> !isInt x)=true)
  (hn:new.length=old.length) (hs:w2.size=w.size) (hz:w2.get q= .cells new esz) (hk:∀ b,b≠q→w2.get b=w.get b):NatV w2 v m:=by
 obtain ⟨a,n,c,h1,h2⟩:=H
 exact ⟨a,n,c,h1,h2.over hq ho hn hs hz hk⟩
theorem Sl.made {h:Heap} {b N size:Nat} {xs:List Value} (hb:b < h.size) (hg:h.get b= .cells xs size) (hl:xs.length=N*size) (hN:N < big):Sl h size (some ⟨b,0,none⟩) N N xs:=by
 by_cases h0:N=0
 ·subst h0
  exact .inr (.inl ⟨b,0,rfl,rfl,rfl,List.eq_nil_of_length_eq_zero Ya⟩)
 ·exact .inr (.inr ⟨b,0,xs,rfl,by omega,hb,by rw [hg];rfl,by omega,by rw [List.drop_zero,List.take_of_length_le Ya],.inl ⟨Nat.le_refl _,hN⟩⟩)
theorem mk_zero {sz N:Nat} (h:N≤1099511627776):imk sz 1 4 [.int .u32 0] (N:Int) (N:Int)=some (.slice (some ⟨sz,0,none⟩) N N,some (.cells (lv (List.replicate N 0)) 1)):=by
 rw [Ziw Ya Ya Ya Ya]
 simp [lv,List.flatten_replicate_singleton]
theorem Zon {w:Heap} {b N l u:Nat} {cs:List Value} (hg:w.get b= .cells cs 1) (hlu:l≤u) (hu:u≤N) (hl:l < N) (hN:N < big) :
  irsl (some (.slice 1)) w (some ⟨b,0,none⟩) N N (some (.int .i64 (l:Int))) (some (.int .i64 (u:Int))) none=some (.slice (some ⟨b,l,none⟩) (u - l) (N - l)):=by
 have h1:Zag 0 (some (.int .i64 (l:Int)))=some l:=YF
 have h2:Zag N (some (.int .i64 (u:Int)))=some u:=YF
 have hin:=Za6 (n:=N) (cap:=N) h1 h2 hlu hu
 have hN0:¬ N=0:=Ya
 have hNl:¬ N=l:=Ya
 simp only [irsl,if_pos hN,hin,if_neg hN0,Heap.look,hg,Blk.read,if_true,if_neg hNl,Nat.zero_add,Nat.mul_one]
end Go.Im
namespace Go.Im
def inxt (low:Nat) (h:Heap) (r:Nat) (k:Blk):Option (Out × Heap):=match k with
 | .siter s pos=>if low≤r then
    if pos < s.size then some (.val (.tuple #[.bool true,.int .i64 pos,.int .i32 (Utf8.decode s pos).1]),h.set r (.siter s (pos+(Utf8.decode s pos).2)))
    else some (.val (.tuple #[.bool false]),h) else none
 | _=>none
def inxp (low:Nat) (h:Heap) (v:Value):Option (Out × Heap):=match v with
 | .pointer (some ⟨r,0,none⟩)=>inxt low h r (h.get r)
 | _=>none
section
variable {P:Program} {low:Nat} {ρ:Operand→Value} {h:Heap} {d:Option Tmp} {t:TypeId} {s:String} {a:Array Edge} {g:Option (Nat × Bool)}
@[go_sem] theorem ZtA {x:Operand}:iop P low ⟨d,.next x true,t,s,a,g⟩ ρ h=inxp low h (ρ x):=rfl
@[go_sem] theorem Zu2 {r:Nat}:inxp low h (.pointer (some ⟨r,0,none⟩))=inxt low h r (h.get r):=rfl
theorem Zit {r pos:Nat} {s:ByteArray} (hl:low≤r) (hp:pos < s.size):inxt low h r (.siter s pos)=some (.val (.tuple #[.bool true,.int .i64 pos,.int .i32 (Utf8.decode s pos).1]),h.set r (.siter s (pos+(Utf8.decode s pos).2))):=by
 simp only [inxt,if_pos hl,if_pos hp]
theorem Zos {r pos:Nat} {s:ByteArray} (hl:low≤r) (hp:s.size≤pos):inxt low h r (.siter s pos)=some (.val (.tuple #[.bool false]),h):=by
 simp only [inxt,if_pos hl,if_neg (Nat.not_lt.2 hp)]
def irg (sz:Nat) (u:Option TypeDesc) (x:Value):Option (Value × Option Blk):=match u,x with
 | some .string,.string s=>some (.pointer (some ⟨sz,0,none⟩),some (.siter s 0))
 | _,_=>none
@[go_sem] theorem Zrv {sz:Nat} {t1:TypeId} {x:Operand}:iop0 P sz (.range t1 x) ρ=irg sz (P.underlying t1) (ρ x):=rfl
@[go_sem] theorem Ztv {sz:Nat} {s:ByteArray}:irg sz (some .string) (.string s)=some (.pointer (some ⟨sz,0,none⟩),some (.siter s 0)):=rfl
end
def decB (s:ByteArray):Nat→List Int→Bool
 | pos,[]=>decide (s.size≤pos)
 | pos,c::l=>decide (pos < s.size) && decide (((Utf8.decode s pos).1:Int)=c) && decB s (pos+(Utf8.decode s pos).2) l
section
variable {K:Cfg} {low:Nat} {f:FuncId} {fs:List Fr}
theorem ZnE {p:Pu} {l:List Oper} {alls:Array Oper} {e:Env} {h:Heap} {Q:Env→Heap→Prop}:W K low f (.ops p alls l::fs) e h Q↔W K low f [.ops p alls l] e h (fun e h=>W K low f fs e h Q):=by
 induction l generalizing e h with
 | nil=>rw [ZnF,ZnF,Ztk]
 | cons o l ih =>
   rw [W_op,W_op]
   unfold Wo
   split
   ·exact ih
   ·split
    ·exact ih
    ·exact ih
    ·exact ⟨fun H=>H.mono fun v h' hh=>ih.1 hh,fun H=>H.mono fun v h' hh=>ih.2 hh⟩
    ·exact Iff.rfl
   ·exact Iff.rfl
def straight (K:Cfg) (f:FuncId):Code→Bool
 | .region id _ _=>(K.dy f id).isEmpty
 | .seq a b=>straight K f a && straight K f b
 | .cond _ a b=>straight K f a && straight K f b
 | .skip=>true
 | _=>false
theorem ZbG:∀ {c:Code} {fs:List Fr} {e:Env} {h:Heap} {Q:Env→Heap→Prop},straight K f c=true→(W K low f (.code c::fs) e h Q↔W K low f [.code c] e h (fun e h=>W K low f fs e h Q))
 | .region id ops d,fs,e,h,Q,hs=>by
   simp only [straight,List.isEmpty_iff] at hs
   rw [WR,WR,hs,Zkw,Zkw]
   exact ZnE
 | .seq a b,fs,e,h,Q,hs=>by
   simp only [straight,Bool.and_eq_true] at hs
   rw [Zo0,Zo0,ZbG hs.1,ZbG (fs:=[.code b]) hs.1]
   exact ⟨fun H=>H.mono fun e h hh=>(ZbG hs.2).1 hh,fun H=>H.mono fun e h hh=>(ZbG hs.2).2 hh⟩
 | .cond c a b,fs,e,h,Q,hs=>by
   simp only [straight,Bool.and_eq_true] at hs
   rw [ZnG,ZnG]
   unfold Wc
   split
   ·exact ZbG hs.1
   ·exact ZbG hs.2
   ·exact Iff.rfl
 | .skip,fs,e,h,Q,hs=>by rw [ZpM,ZpM,Ztk]
theorem ZhK {c:Code} {e:Env} {h:Heap} {Q J:Env→Heap→Prop} (hs:straight K f c=true) (H:W K low f [.code c] e h J) (H2:∀ e h,J e h→W K low f fs e h Q):W K low f (.code c::fs) e h Q :=
 (ZbG hs).2 (H.mono H2)
end
abbrev rv (l:List Int):List Value:=intCells .i32 l
theorem ZlU {l:List Int} {i:Nat} {c:Int} (h:l[i]? =some c):(rv l)[i]? =some (.int .i32 c):=by simp [rv,intCells,h]
theorem Zcl (l:List Int):(rv l).length=l.length:=by simp [rv,intCells]
theorem ZlT (l:List Int) (k:Nat):(rv l).take k=rv (l.take k):=by simp [rv,intCells,List.map_take]
theorem Zi2 (l:List Int) (k:Nat):(rv l).drop k=rv (l.drop k):=by simp [rv,intCells,List.map_drop]
theorem ZfN (l m:List Int):rv (l++m)=rv l++rv m:=by simp [rv,intCells]
def Tx (h:Heap) (v:Value) (l:List Int):Prop:=(l=[]∧∃ a c,v= .slice a 0 c)∨∃ b o cs,v= .slice (some ⟨b,o,none⟩) l.length big∧b < h.size∧(h.get b).read= .cells cs 1∧o+l.length≤cs.length∧rv l=(cs.drop o).take l.length
theorem Tx.ext {h h':Heap} (k:Ext h h') {v:Value} {l:List Int} (t:Tx h v l):Tx h' v l:=by
 rcases t with t | ⟨b,o,cs,h1,h2,h3,h4⟩
 ·exact .inl t
 ·exact .inr ⟨b,o,cs,h1,by have:=k.1;omega,by rw [k.2 b h2];exact h3,h4⟩
theorem Tx.open {h:Heap} {v:Value} {l:List Int} (t:Tx h v l):∃ a c,v= .slice a l.length c:=by
 rcases t with ⟨rfl,a,c,rfl⟩ | ⟨b,o,cs,rfl,_⟩
 ·exact ⟨_,_,rfl⟩
 ·exact ⟨_,_,rfl⟩
theorem Tx.one {h:Heap} {v:Value} {l:List Int} {i:Nat} {x:Int} (t:Tx h v l) (hx:l[i]? =some x) :
  ∃ b o cs,v= .slice (some ⟨b,o,none⟩) l.length big∧b < h.size∧(h.get b).read= .cells cs 1∧cs[o+i]? =some (.int .i32 x):=by
 have hi:=(List.getElem?_eq_some_iff.1 hx).1
 rcases t with ⟨rfl,_⟩ | ⟨b,o,cs,h1,h2,h3,h4,h5⟩
 ·simp at hx
 ·refine ⟨b,o,cs,h1,h2,h3,?_⟩
  have h6:=ZlU hx
  rw [h5,List.getElem?_take,if_pos hi,List.getElem?_drop] at h6
  exact h6
theorem Tx.cut {h:Heap} {a:Option Addr} {n c:Nat} {l:List Int} (t:Tx h (.slice a n c) l) (hne:l≠[]) {lo hi:Nat} (h1:lo≤hi) (h2:hi≤l.length) :
  ∃ a',irsl (some (.slice 1)) h a n c (some (.int .i64 (lo:Int))) (some (.int .i64 (hi:Int))) none=some (.slice a' (hi - lo) big)∧Tx h (.slice a' (hi - lo) big) ((l.drop lo).take (hi - lo)) ∧
    Zak h 1 (.slice a' (hi - lo) big)=some (rv ((l.drop lo).take (hi - lo))):=by
 rcases t with ⟨rfl,_⟩ | ⟨b,o,cs,e1,e2,e3,e4,e5⟩
 ·exact absurd rfl hne
 ·cases e1
  have q1:Zag 0 (some (.int .i64 (lo:Int)))=some lo:=YF
  have q2:Zag l.length (some (.int .i64 (hi:Int)))=some hi:=YF
  have hin:=Za6 (n:=l.length) (cap:=cs.length - o) q1 q2 h1 Ya
  have hlen:((l.drop lo).take (hi - lo)).length=hi - lo:=Yl
  have hcs:rv ((l.drop lo).take (hi - lo))=(cs.drop (o+lo)).take (hi - lo):=by
   rw [← ZlT,← Zi2,e5,List.drop_take,List.take_take,List.drop_drop]
   congr 1
   omega
  refine ⟨some ⟨b,o+lo,none⟩,?_,.inr ⟨b,o+lo,cs,by rw [hlen],e2,e3,by rw [hlen];omega,by rw [hlen];exact hcs⟩,?_⟩
  ·simp only [irsl,Nat.lt_irrefl,if_false,if_true,Heap.look,e3,Nat.div_one,hin,Nat.mul_one,ne_eq,not_true_eq_false]
  ·simp only [Zak,Heap.look,e3]
   rw [if_pos ⟨trivial,by omega⟩,hcs,Nat.mul_one]
theorem Tx.rest {h:Heap} {a:Option Addr} {n c:Nat} {l:List Int} (t:Tx h (.slice a n c) l) (hne:l≠[]) {lo:Nat} (h1:lo≤l.length) :
  ∃ a',irsl (some (.slice 1)) h a n c (some (.int .i64 (lo:Int))) none none=some (.slice a' (l.length - lo) big)∧Tx h (.slice a' (l.length - lo) big) (l.drop lo):=by
 rcases t with ⟨rfl,_⟩ | ⟨b,o,cs,e1,e2,e3,e4,e5⟩
 ·exact absurd rfl hne
 ·cases e1
  have q1:Zag 0 (some (.int .i64 (lo:Int)))=some lo:=YF
  have q2:Zag l.length none=some l.length:=rfl
  have hin:=Za6 (n:=l.length) (cap:=cs.length - o) q1 q2 h1 Ya
  have hlen:(l.drop lo).length=l.length - lo:=Yp
  have hcs:rv (l.drop lo)=(cs.drop (o+lo)).take (l.length - lo):=by
   rw [← Zi2,e5,List.drop_take,List.drop_drop]
  refine ⟨some ⟨b,o+lo,none⟩,?_,.inr ⟨b,o+lo,cs,by rw [hlen],e2,e3,by rw [hlen];omega,by rw [hlen];exact hcs⟩⟩
  simp only [irsl,Nat.lt_irrefl,if_false,if_true,Heap.look,e3,Nat.div_one,hin,Nat.mul_one,ne_eq,not_true_eq_false]
theorem Zb0 {l:List Int} {h:Heap}:icvs (some .i32) (some (rv l)) h=some (.string (runesBytes l),h):=by
 simp only [icvs,ZcY]
namespace Lexing
def isD (c:Int):Bool:=decide (48≤c) && decide (c≤57)
def isL (c:Int):Bool:=decide (97≤c) && decide (c≤122) || decide (65≤c) && decide (c≤90) || decide (c=95) || decide (c=8710)
def t4:List Int:=[43,45,215,247,8968,8970,124,42,33,60,8804,61,8805,62,8800,8743,8744,9074,9073,126,9055,9675]
def t5:List Int:=[9076,44,9021,8854,9033,8593,8595,9075,8714,9035,9042,8868,8869,63,9017,9038,9045]
def t6:List Int:=[47,9023,92,9024]
def t7:List Int:=[40,41,91,93,59,39,46,58,8592,8594,8728,9109,9054,8711,9053]
def t8:List Int:=[34,35,36,37,38,64,94,96,123,125,168,8746,8745,8801,8802,8834,8835,8866,8867,9077,9082,9066,9080,9080,9674]
def kindOf (c:Int):Nat:=if c=32 then 1 else if isL c then 2 else if isD c || decide (c=175) then 3 else if t4.elem c then 4 else if t5.elem c then 5 else if t6.elem c then 6 else if t7.elem c then 7 else if t8.elem c then 8 else 0
def isW (c:Int):Bool:=decide (kindOf c=2) || isD c
def begins (s:List Int):Bool:=match s[0]? with
 | none=>false
 | some c=>isD c || decide (c=175) || (decide (c=46) && match s[1]? with
   | none=>false
   | some d=>isD d)
def digs (s:List Int):List Int:=s.takeWhile isD
def hi (s:List Int):Nat:=if s[0]? =some 175 then 1 else 0
def Zcv (s:List Int):Option Nat :=
 if s[0]? =some 69 then
  if (digs (s.drop (1+hi (s.drop 1)))).length=0∨3 < (digs (s.drop (1+hi (s.drop 1)))).length then none else some (1+hi (s.drop 1)+(digs (s.drop (1+hi (s.drop 1)))).length)
 else some 0
def pt (s:List Int):Nat:=if s[0]? =some 46 then 1 else 0
def ZdY (s:List Int):Option Nat :=
 let a:=hi s
 let d:=(digs (s.drop a)).length
 let p:=pt (s.drop (a+d))
 let t:=if p=1 then (digs (s.drop (a+d+1))).length else 0
 if p=1∧t=0 then none else
 match Zcv (s.drop (a+d+p+t)) with
 | none=>none
 | some k=>if d+t=0∨200 < d+t then none else some (a+d+p+t+k)
def blanks (s:List Int):Nat:=(s.takeWhile fun c=>decide (c=32)).length
def Zbv:Nat→List Int→Option (Nat × Nat)
 | 0,_=>none
 | f+1,s=>if begins s then match ZdY s with
    | none=>none
    | some k=>match Zbv f (s.drop (k+blanks (s.drop k))) with
      | none=>none
      | some (0,_)=>some (1,k)
      | some (n+1,m)=>some (n+2,k+blanks (s.drop k)+m)
   else some (0,0)
def Zbj:List Int→Option Nat
 | []=>none
 | 39::39::s=>(Zbj s).map (·+2)
 | 39::_=>some 1
 | _::s=>(Zbj s).map (·+1)
structure Tk where
 kind:Nat
 word:List Int
 sign:Int
def Zat (w:List Int):Bool:=decide (1≤w.length) && decide (w.length≤24) && (match w[0]? with
 | some c=>decide (kindOf c=2)
 | none=>false) && w.all isW
def Zb2 (k:Nat) (s:List Int):Option (Tk × Nat):=if Zat (s.takeWhile isW) then some (⟨k,s.takeWhile isW,0⟩,(s.takeWhile isW).length) else none
def tokS (s:List Int):Option (Option Tk × Nat):=match s[0]? with
 | none=>none
 | some c =>
   if kindOf c=1 then some (none,1)
   else if begins s then (Zbv 600 s).map fun x=>(some ⟨1,[],0⟩,x.2)
   else if kindOf c=2 then (Zb2 2 s).map fun x=>(some x.1,x.2)
   else if c=39 then (Zbj (s.drop 1)).map fun k=>(some ⟨1,[],0⟩,1+k)
   else if c=9109∧(match s[1]? with
    | some d=>decide (kindOf d=2)
    | none=>false)=true then (Zb2 3 (s.drop 1)).map fun x=>(some x.1,1+x.2)
   else if kindOf c=4∨kindOf c=5 then some (some ⟨4,[],c⟩,1)
   else if kindOf c=6 then some (some ⟨5,[],c⟩,1)
   else if kindOf c=7 then some (some ⟨6,[],c⟩,1)
   else none
def lexF:Nat→Nat→List Int→Option (List (Nat × Tk))
 | 0,_,_=>none
 | f+1,at',s=>match s[0]? with
   | none=>some []
   | some c=>if c=9053 then some [] else match tokS s with
     | none=>none
     | some (none,k)=>lexF f (at'+k) (s.drop k)
     | some (some t,k)=>(lexF f (at'+k) (s.drop k)).map ((at',t)::·)
def lex (l:List Int):Option (List (Nat × Tk)):=if 512 < l.length then none else lexF 600 0 l
end Lexing
end Go.Im
attribute [go_sem] Nat.reduceAdd Nat.reduceMul Nat.reduceEqDiff Int.reduceAdd Int.reduceSub Int.reduceMul Int.reduceNeg Int.reduceToNat
namespace Go.Im
open Go.RowKit
theorem Zc5.line {W:World} {vs:List View} (L:Zc5 W vs) {a:Option Addr} {k c:Nat} {vals:List Value} (A:Arg W a k c vals) (hat:vals.all Im.atomic=true) :
  ∃ vs' a' c',Zc5 W vs'∧(∀ b l,ZaD vs b=some l→ZaD vs' b=some l)∧Ext (laid vs) (laid vs')∧RV (ZaD vs') (.slice a' k c') (.slice a k c)∧Sl (laid vs') 1 a' k c' vals∧(c'=0∨c'=big):=by
 obtain ⟨hl,hk,h⟩:=A
 rcases h with ⟨rfl,rfl⟩ | ⟨rfl,ad,rfl⟩ | ⟨b,o,cc,e,fr,rfl,hc,hb,hoc,hcell⟩
 ·have:k=0:=by omega
  subst this
  have hv:vals=[]:=List.eq_nil_of_length_eq_zero hl
  subst hv
  exact ⟨vs,none,0,L,fun _ _ h=>h,Ext.refl _,.nilSlice,Sl.nil _ _,.inl rfl⟩
 ·have:k=0:=by omega
  subst this
  have hv:vals=[]:=List.eq_nil_of_length_eq_zero hl
  subst hv
  exact ⟨vs,some ⟨0,0,none⟩,0,L,fun _ _ h=>h,Ext.refl _,.void 0 0 ad,.inr (.inl ⟨0,0,rfl,rfl,rfl,rfl⟩),.inl rfl⟩
 ·refine ⟨⟨b,o,o+c,1,vals⟩::vs,some ⟨vs.length,0,none⟩,big,?_,ZbT,(Ext.refl _).push _,?_,?_,.inr rfl⟩
  ·intro i v hv
   rw [Zb6] at hv
   split at hv
   ·cases hv
    refine ⟨by simp,cc,e,fr,hb,by simp;omega,fun i x hi=> ?_⟩
    have hx:Im.atomic x=true:=List.all_eq_true.1 hat x (List.mem_of_getElem? hi)
    refine ⟨?_,x,hcell i x hi,RV.atomic _ hx⟩
    cases x<;>simp_all [Im.atomic,Zal]
   ·exact View.Zmg ZbT (L i v hv)
  ·have hφ:ZaD (⟨b,o,o+c,1,vals⟩::vs) vs.length=some ⟨b,o,vals.length,o+c,1⟩:=by
    simp only [ZaD,Zb6,if_true,Option.map_some,View.loc]
   have:=RV.unknown (φ:=ZaD (⟨b,o,o+c,1,vals⟩::vs)) vs.length 0 k c _ hφ hk Yl Yl Yp
   simpa using this
  ·right;right
   refine ⟨vs.length,0,vals,rfl,by simp [big],?_,?_,by simp;omega,?_,.inr rfl⟩
   ·rw [ZcW];simp
   ·rw [Zdg _ _ ⟨b,o,o+c,1,vals⟩ (by rw [Zb6,if_pos rfl])]
    rfl
   ·rw [List.drop_zero,List.take_of_length_le Ya]
end Go.Im
namespace Go.Proofs.YtachkofbmodnnaaGreat.Line
open Go Go.Im Go.ChangeShapes Go.WideShapes Go.ChangeAt Go.RowKit
theorem own:ownKnob Tryz.prog.godebug=none:=by kernel_rfl
theorem laidOut:laidOutB Tryz.prog=true:=by kernel_rfl
end Go.Proofs.YtachkofbmodnnaaGreat.Line
namespace Go.Proofs
open Go.Shelf Go.Sort Go.RowKit
def Tryz.Zjl:Go.Shelf.Ren:=⟨fun | 190=>59 | 125=>82 | 258=>81 | 128=>105 | 129=>106 | 302=>96 | 303=>97 | 304=>98 | 305=>99 | 306=>100 | 307=>101 | 308=>102 | 309=>103 | 310=>104 | 333=>124 | 329=>125 | 330=>126 | 334=>127 | 335=>128 | 336=>129 | 344=>145 | n=>n,fun | 31=>39 | 9=>9 | 3=>3 | 46=>143 | 0=>0 | 51=>165 | 53=>167 | 4=>4 | 183=>158 | 182=>157 | 131=>24 | 5=>5 | 218=>188 | 222=>192 | 228=>213 | 229=>214 | n=>n,fun | n=>n⟩
theorem Tryz.Zqm:Go.Proofs.Lays.n190 Tryz.prog Tryz.Zjl:={
 mixed:=by kernel_rfl
 f125:=Tryz.func82.trans (congrArg some Yh)
 f128:=Tryz.func105.trans (congrArg some Yh)
 f129:=Tryz.func106.trans (congrArg some Yh)
 f190:=Tryz.func59.trans (congrArg some Yh)
 f258:=Tryz.func81.trans (congrArg some Yh)
 f302:=Tryz.func96.trans (congrArg some Yh)
 f303:=Tryz.func97.trans (congrArg some Yh)
 f304:=Tryz.func98.trans (congrArg some Yh)
 f305:=Tryz.func99.trans (congrArg some Yh)
 f306:=Tryz.func100.trans (congrArg some Yh)
 f307:=Tryz.func101.trans (congrArg some Yh)
 f308:=Tryz.func102.trans (congrArg some Yh)
 f309:=Tryz.func103.trans (congrArg some Yh)
 f310:=Tryz.func104.trans (congrArg some Yh)
 f329:=Tryz.func125.trans (congrArg some Yh)
 f330:=Tryz.func126.trans (congrArg some Yh)
 f333:=Tryz.func124.trans (congrArg some Yh)
 f334:=Tryz.func127.trans (congrArg some Yh)
 f335:=Tryz.func128.trans (congrArg some Yh)
 f336:=Tryz.func129.trans (congrArg some Yh)
 f344:=Tryz.func145.trans (congrArg some Yh)
 t0:=Tryz.underlying0
 a0:=Tryz.isAgg0
 z0:=Tryz.sizeOf0
 v0:=Tryz.zeroValue0
 t3:=Tryz.underlying3
 a3:=Tryz.isAgg3
 z3:=Tryz.sizeOf3
 v3:=Tryz.zeroValue3
 t4:=Tryz.underlying4
 a4:=Tryz.isAgg4
 z4:=Tryz.sizeOf4
 v4:=Tryz.zeroValue4
 t5:=Tryz.underlying5
 a5:=Tryz.isAgg5
 z5:=Tryz.sizeOf5
 v5:=Tryz.zeroValue5
 t9:=Tryz.underlying9
 a9:=Tryz.isAgg9
 z9:=Tryz.sizeOf9
 v9:=Tryz.zeroValue9
 t31:=Tryz.underlying39
 a31:=Tryz.isAgg39
 z31:=Tryz.sizeOf39
 v31:=Tryz.zeroValue39
 t46:=Tryz.underlying143
 a46:=Tryz.isAgg143
 z46:=Tryz.sizeOf143
 v46:=Tryz.zeroValue143
 t51:=Tryz.underlying165
 a51:=Tryz.isAgg165
 z51:=Tryz.sizeOf165
 v51:=Tryz.zeroValue165
 t53:=Tryz.underlying167
 a53:=Tryz.isAgg167
 z53:=Tryz.sizeOf167
 v53:=Tryz.zeroValue167
 t131:=Tryz.underlying24
 a131:=Tryz.isAgg24
 z131:=Tryz.sizeOf24
 v131:=Tryz.zeroValue24
 t182:=Tryz.underlying157
 a182:=Tryz.isAgg157
 z182:=Tryz.sizeOf157
 v182:=Tryz.zeroValue157
 t183:=Tryz.underlying158
 a183:=Tryz.isAgg158
 z183:=Tryz.sizeOf158
 v183:=Tryz.zeroValue158
 t218:=Tryz.underlying188
 a218:=Tryz.isAgg188
 z218:=Tryz.sizeOf188
 v218:=Tryz.zeroValue188
 t222:=Tryz.underlying192
 a222:=Tryz.isAgg192
 z222:=Tryz.sizeOf192
 v222:=Tryz.zeroValue192
 t228:=Tryz.underlying213
 a228:=Tryz.isAgg213
 z228:=Tryz.sizeOf213
 v228:=Tryz.zeroValue213
 t229:=Tryz.underlying214
 a229:=Tryz.isAgg214
 z229:=Tryz.sizeOf214
 v229:=Tryz.zeroValue214 }
theorem Tryz.slices_Sort_string (blk off cap:Nat) (ss:List (List UInt8)) (w:World) (hH:Holds encStr w blk off ss.toArray) (hblk:blk < w.heap.size) (hsz:ss.length < 4611686018427387904) :
  Calls Tryz.prog 59 #[.slice (some ⟨blk,off,none⟩) ss.length cap] w fun e w' =>
   e= .returned (.tuple #[])∧∃ n os,w'=grow (putRow encStr (Sort.ahead w n) blk off (ss.mergeSort fun x y=>decide (x≤y)).toArray) os:=Any.slices_Sort_string Tryz.Zqm blk off cap ss w hH hblk hsz
def Tryz.Zjk:Go.Shelf.Ren:=⟨fun | 194=>60 | n=>n,fun | 31=>39 | 9=>9 | 3=>3 | 4=>4 | 0=>0 | n=>n,fun | n=>n⟩
theorem Tryz.Zql:Go.Proofs.Lays.n194 Tryz.prog Tryz.Zjk:={
 mixed:=by kernel_rfl
 f194:=Tryz.func60.trans (congrArg some Yh)
 t0:=Tryz.underlying0
 a0:=Tryz.isAgg0
 z0:=Tryz.sizeOf0
 v0:=Tryz.zeroValue0
 t3:=Tryz.underlying3
 a3:=Tryz.isAgg3
 z3:=Tryz.sizeOf3
 v3:=Tryz.zeroValue3
 t4:=Tryz.underlying4
 a4:=Tryz.isAgg4
 z4:=Tryz.sizeOf4
 v4:=Tryz.zeroValue4
 t9:=Tryz.underlying9
 a9:=Tryz.isAgg9
 z9:=Tryz.sizeOf9
 v9:=Tryz.zeroValue9
 t31:=Tryz.underlying39
 a31:=Tryz.isAgg39
 z31:=Tryz.sizeOf39
 v31:=Tryz.zeroValue39 }
theorem Tryz.slices_Compact_string (blk off cap:Nat) (zs:List (List UInt8)) (w:World) (hH:Holds encStr w blk off zs.toArray) (hsz:zs.length≤9223372036854775807) (hcap:zs.length≤cap) :
  Calls Tryz.prog 60 #[.slice (some ⟨blk,off,none⟩) zs.length cap] w fun e w'=>e= .returned (.slice (some ⟨blk,off,none⟩) (Lib.compact zs).length cap)∧∃ q,w'=putRow encStr (Sort.ahead w q) blk off (Lib.compact zs++List.replicate (zs.length - (Lib.compact zs).length) []).toArray:=Any.slices_Compact_string Tryz.Zql blk off cap zs w hH hsz hcap
def Tryz.Zf1:Go.Shelf.Ren:=⟨fun | 169=>63 | n=>n,fun | 70=>111 | 9=>9 | 0=>0 | 72=>113 | 37=>63 | 127=>144 | 3=>3 | 5=>5 | n=>n,fun | n=>n⟩
theorem Tryz.Zqn:Go.Proofs.Lays.n169 Tryz.prog Tryz.Zf1:={
 mixed:=by kernel_rfl
 f169:=Tryz.func63.trans (congrArg some Yh)
 t0:=Tryz.underlying0
 a0:=Tryz.isAgg0
 z0:=Tryz.sizeOf0
 v0:=Tryz.zeroValue0
 t3:=Tryz.underlying3
 a3:=Tryz.isAgg3
 z3:=Tryz.sizeOf3
 v3:=Tryz.zeroValue3
 t9:=Tryz.underlying9
 a9:=Tryz.isAgg9
 z9:=Tryz.sizeOf9
 v9:=Tryz.zeroValue9
 t37:=Tryz.underlying63
 a37:=Tryz.isAgg63
 z37:=Tryz.sizeOf63
 v37:=Tryz.zeroValue63
 t70:=Tryz.underlying111
 a70:=Tryz.isAgg111
 z70:=Tryz.sizeOf111
 v70:=Tryz.zeroValue111
 t72:=Tryz.underlying113
 a72:=Tryz.isAgg113
 z72:=Tryz.sizeOf113
 v72:=Tryz.zeroValue113
 t127:=Tryz.underlying144
 a127:=Tryz.isAgg144
 z127:=Tryz.sizeOf144
 v127:=Tryz.zeroValue144 }
end Go.Proofs
namespace Go.Proofs.YtachkofbmodnnaaGreat.S2
open Go Go.RowKit Go.Proofs
theorem ZsK:(Tryz.prog.info? 113).map (·.size)=some 2:=by kernel_rfl
theorem ZuW:liesAt Tryz.prog Tryz.prog.depth 113 (2 / Tryz.prog.cellsOf 113) 0 113 1=true:=by kernel_rfl
theorem infoByte:(Tryz.prog.info? 5).map (fun i=>(i.zero,i.size,i.bytes))=some (some (.int .u8 0),1,1):=by kernel_rfl
set_option maxHeartbeats 1000000 in
set_option maxRecDepth 100000 in
theorem Zln (b:Nat) (w:World) (h0:w.cell? ⟨b,0,none⟩=some (.pointer (some ⟨b,0,none⟩))) :
  Calls Tryz.prog 83 #[.pointer (some ⟨b,0,none⟩)] w fun e w'=>e= .returned (.tuple #[])∧w'=w:=by
 obtain ⟨j,hj,_⟩:=Option.map_eq_some_iff.1 ZsK
 go_enter Tryz.func83,Tryz.ntmps83
 go_wp2
 rw [Lib.run_neq_ptr_same w _ Tryz.underlying111 hj]
 go_wp2
 go_end0
 exact ⟨rfl,rfl⟩
set_option maxHeartbeats 1000000 in
set_option maxRecDepth 100000 in
theorem ZjE (b:Nat) (w:World) (h0:w.cell? ⟨b,0,none⟩=some (.pointer none)) (hsh:w.shape? b=some (113,2)) (hfz:w.frozen? ⟨b,0,none⟩=false) :
  Calls Tryz.prog 83 #[.pointer (some ⟨b,0,none⟩)] w fun e w'=>e= .returned (.tuple #[])∧w'=w.setCell ⟨b,0,none⟩ (.pointer (some ⟨b,0,none⟩)):=by
 obtain ⟨j,hj,hjs⟩:=Option.map_eq_some_iff.1 ZsK
 go_enter Tryz.func83,Tryz.ntmps83
 go_wp2
 rw [Lib.run_to_unsafe w ⟨b,0,none⟩ Tryz.underlying111 Tryz.underlying168 hj (by rw [hjs];decide) hsh (Nat.zero_lt_succ 1)]
 simp only [Result.andThen]
 rw [Oper.upon_value]
 go_wp2
 rw [run_callFunc_extern Tryz.func107 Yh Yh Yh (e:=Extern.AbiNoEscape.same) Yh]
 rw [Lib.run_noEscape]
 simp only [Result.andThen]
 rw [Oper.upon_value]
 go_wp2
 rw [Lib.run_from_unsafe w ⟨b,0,none⟩ Tryz.underlying168 Tryz.underlying111 hj hsh ZuW]
 simp only [Result.andThen]
 rw [Oper.upon_value]
 go_wp2
 go_end0
 exact ⟨rfl,rfl⟩
theorem check (B b:Nat) (bs:List Value) (w:World) (h:Lib.IsBuilder 113 5 B b bs w) :
  Calls Tryz.prog 83 #[.pointer (some ⟨b,0,none⟩)] w fun e w'=>e= .returned (.tuple #[])∧(Lib.BuilderAt 113 5 B b (.pointer (some ⟨b,0,none⟩)) bs w'∧Below B w w'):=by
 rcases h with h | h
 ·refine (ZjE b w h.cell0 h.shape h.frozen0).mono ?_
  rintro e w' ⟨rfl,rfl⟩
  exact ⟨rfl,h.used _,(Below.refl B w).setCell (p:=⟨b,0,none⟩) h.1 _⟩
 ·refine (Zln b w h.cell0).mono ?_
  rintro e w' ⟨rfl,rfl⟩
  exact ⟨rfl,h,Below.refl B _⟩
set_option maxHeartbeats 2000000 in
set_option maxRecDepth 100000 in
theorem write (B b:Nat) (bs:List Value) (s:ByteArray) (w:World) (h:Lib.IsBuilder 113 5 B b bs w) (hlen:bs.length+s.size≤140737488355328) (hBw:B≤w.heap.size) :
  Calls Tryz.prog 62 #[.pointer (some ⟨b,0,none⟩),.string s] w fun e w'=>e= .returned (.tuple #[.int .i64 s.size,.nilIface])∧(Lib.BuilderAt 113 5 B b (.pointer (some ⟨b,0,none⟩)) (bs++Lib.strCells s) w'∧Below B w w'):=by
 obtain ⟨i0,hi,hz⟩:=Option.map_eq_some_iff.1 infoByte
 simp only [Prod.mk.injEq] at hz
 obtain ⟨hz0,hz1,hz2⟩:=hz
 go_enter Tryz.func62,Tryz.ntmps62
 go_wp2_with (go_at_call 83;refine (check B b bs _ h).mono ?_)
 rintro e w1 ⟨rfl,h1,hb1⟩
 obtain ⟨hB,v,hbk,hown,hne⟩:=h1
 have c0:w1.cell? ⟨b,0,none⟩=some (.pointer (some ⟨b,0,none⟩)):=by rw [Lib.cell_of_heap hbk];rfl
 have c1:w1.cell? ⟨b,1,none⟩=some v:=by rw [Lib.cell_of_heap hbk];rfl
 go_wp2_with (at_builtin;refine Lib.wpList_append_own_string _ rfl _ _ 63 9 rfl B 5 i0 Tryz.underlying63 Tryz.underlying9 hi hz0 hz1 hz2 _ _ _ rfl hown s rfl ?c3 ?c4 ?c5 ?_)
 case c3=>unfold maxLen;omega
 case c4=>omega
 case c5=>have:=hb1.size;omega
 intro v' w2 hown' hgrow _
 have hlt:b < w1.heap.size:=Lib.BuilderAt.lt ⟨hB,v,hbk,hown,hne⟩
 have hb2:w2.heap[b]? =some (.cells #[.pointer (some ⟨b,0,none⟩),v] 113 (0,0)):=by
  rw [hgrow.block b hlt (fun e=>hne e.symm)]
  exact hbk
 have d0:w2.cell? ⟨b,0,none⟩=some (.pointer (some ⟨b,0,none⟩)):=by rw [Lib.cell_of_heap hb2];rfl
 have d1:w2.cell? ⟨b,1,none⟩=some v:=by rw [Lib.cell_of_heap hb2];rfl
 have f1:w2.frozen? ⟨b,1,none⟩=false:=Lib.frozen_of_heap hb2 1
 obtain ⟨ao,n',cap,rfl⟩:∃ ao n' cap,v'= .slice ao n' cap:=by
  rcases hown'.2 with ⟨hv,_⟩ | ⟨g,cap,cur,hv,_⟩
  ·exact ⟨_,_,_,hv⟩
  ·exact ⟨_,_,_,hv⟩
 go_wp2
 go_ret2
 refine ⟨rfl,?_,?_⟩
 ·exact Lib.BuilderAt.put (T:=113) (e:=5) hB hb2 (bs':=bs++Lib.strCells s) (by simpa [Lib.strCells_length] using hown') YI
 ·exact (hb1.grown hgrow (by have:=hb1.size;omega) (fun k hk=>(hown.lt k hk).1)).setCell (p:=⟨b,1,none⟩) hB _
end Go.Proofs.YtachkofbmodnnaaGreat.S2
