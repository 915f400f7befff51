/- Proved here: parts of the way to BEditBack (Im3); no condition beyond those that each theorem names. -/
import Derived.Test.YtachkofbmodnnaaGreatG2
import Derived.Below
import Derived.WalkKit
import Derived.IntWalk
import Derived.SliceStrings
import Derived.ChangeSlices
set_option linter.unusedSimpArgs false
set_option linter.unusedVariables false
namespace Go.Im
open Go.RowKit
def h0:Heap:=⟨0,.leaf⟩
theorem RH.empty (w:World):RH (fun _=>none) h0 w where
 low:=fun _ _ h=>by cases h
 blk:=fun _ _ h=>by cases h
 inj:=fun _ _ _ _ h=>by cases h
theorem Goes.below {low:Nat} {φ ψ:Zac} {h h':Heap} {w w':World} (g:Goes low φ h w ψ h' w') (hn:∀ b l,low≤b→φ b=some l→False):Below w.heap.size w w' :=
 ⟨g.os,g.tape,g.output,g.size,fun i hi=>g.kept i hi fun b l hb hl=>(hn b l hb hl).elim⟩
theorem ZiR {K:Cfg} (hK:CfgOK K) {n:Nat} {f:FuncId} {args:Array Value} {h':Heap} {v:Value} (hi:Zbk K n 0 f args h0=some (v,h')) (ha:args.toList.all Im.atomic=true) (hv:Im.atomic v=true) (w:World) (ht:K.tied.holds (fun _=>none):=by exact True.intro) :
  Calls K.P f args w fun e w'=>e= .returned v∧Below w.heap.size w w' :=
 (ZbH hK (Nat.zero_le _) hi (RL.atomic _ ha) (RH.empty w) ht).mono fun e w' ⟨ψ,v',he,hr,g⟩=>by
   refine ⟨?_,g.below fun b l _ h=>by cases h⟩
   rw [he]
   congr 1
   cases hr<;>first | rfl | simp [Im.atomic] at hv
def isT:Option (Value × Heap)→Bool
 | some (.bool true,_)=>true
 | _=>false
theorem Zom {r:Option (Value × Heap)} (h:isT r=true):∃ h',r=some (.bool true,h'):=by
 match r with
 | none=>simp [isT] at h
 | some (.bool true,h')=>exact ⟨h',rfl⟩
 | some (.bool false,_)=>simp [isT] at h
 | some (.int _ _,_)=>simp [isT] at h
 | some (.float _ _,_)=>simp [isT] at h
 | some (.string _,_)=>simp [isT] at h
 | some (.pointer _,_)=>simp [isT] at h
 | some (.slice _ _ _,_)=>simp [isT] at h
 | some (.map _,_)=>simp [isT] at h
 | some (.agg _,_)=>simp [isT] at h
 | some (.tuple _,_)=>simp [isT] at h
 | some (.chan _,_)=>simp [isT] at h
 | some (.func _ _ _,_)=>simp [isT] at h
 | some (.nilFunc,_)=>simp [isT] at h
 | some (.iface _ _,_)=>simp [isT] at h
 | some (.nilIface,_)=>simp [isT] at h
theorem Zlo {K:Cfg} (hK:CfgOK K) {n:Nat} {f:FuncId} {args:Array Value} (hi:isT (Zbk K n 0 f args h0)=true) (ha:args.toList.all Im.atomic=true) (w:World) (ht:K.tied.holds (fun _=>none):=by exact True.intro) :
  Calls K.P f args w fun e w'=>e= .returned (.bool true)∧Below w.heap.size w w':=by
 obtain ⟨h',e⟩:=Zom hi
 exact ZiR hK e ha rfl w ht
def Zm6 (P:Program) (pm:Nat→Nat→Pu) (dy:Nat→Nat→List (Nat × Nat)) (f:Nat):Bool :=
 match P.funcs[f]? with
 | some fn=>match fn.body with
   | some c => ZbA (pm f) (dy f) c && !(fn.name == "runtime.NumGoroutine")
   | none=>true
 | none=>true
structure Fact (P:Program) where
 f:FuncId
 fn : ∃ fn, P.funcs[f]? = some fn ∧ fn.body.isNone = false ∧ (fn.name == "runtime.NumGoroutine") = false
 run:Array Value→Option Value
 ok:∀ args v,run args=some v→args.toList.all Im.atomic=true∧Im.atomic v=true∧∀ w,Calls P f args w fun e w'=>e= .returned v∧Below w.heap.size w w'
theorem RV.Zcy {φ:Zac} {v v':Value} (hv:Im.atomic v=true) (h:RV φ v v'):v'=v:=by
 cases h<;>first | rfl | (simp [Im.atomic] at hv)
theorem RL.Zcy {φ:Zac}:∀ {l l':List Value},l.all Im.atomic=true→RL φ l l'→l'=l
 | [],[],_,_=>rfl
 | [],_::_,_,h=>by simp [RL] at h
 | _::_,[],_,h=>by simp [RL] at h
 | v::l,v'::l',hv,h=>by
   simp only [List.all_cons,Bool.and_eq_true] at hv
   obtain ⟨h1,h2⟩:=h.tail
   rw [h1.Zcy hv.1,RL.Zcy hv.2 h2]
theorem Below.goes {low:Nat} {φ:Zac} {h:Heap} {w w':World} (r:RH φ h w) (b:Below w.heap.size w w'):Goes low φ h w φ h w' where
 ext:=fun _ _ h=>h
 old:=fun _ _=>rfl
 rh:={
  low:=fun i l hl=>⟨(r.low i l hl).1,Nat.lt_of_lt_of_le (r.low i l hl).2 b.size⟩
  blk:=fun i l hl=>by
   rw [b.block _ (r.low i l hl).2]
   exact r.blk i l hl
  inj:=r.inj }
 grows:=Nat.le_refl _
 fresh:=fun i l hb hl=>by have:=(r.low i l hl).1;omega
 os:=b.os
 tape:=b.tape
 output:=b.output
 size:=b.size
 kept:=fun i hi _=>b.block i hi
def table {P:Program} (fs:List (Fact P)) (f:FuncId):Option (Nat→Array Value→Heap→Option (Value × Heap)):=match fs with
 | []=>none
 | x::fs=>if x.f=f then some fun _ args h=>(x.run args).map fun v=>(v,h) else table fs f
theorem ZnV {P:Program} {K:Cfg} (hP:K.P=P) (fs:List (Fact P)) (hx:∀ f,K.ext f=table fs f):CallOK K.P K.tied K.known:=by
 have inv:∀ {low f args h v h'},K.known low f args h=some (v,h')→∃ x:Fact P,x.f=f∧x.run args=some v∧h'=h:=by
  intro low f args h v h' hk
  simp only [Cfg.known,hx] at hk
  clear hx
  induction fs with
  | nil=>simp [table] at hk
  | cons x fs ih =>
    simp only [table] at hk
    by_cases hf:x.f=f
    ·rw [if_pos hf] at hk
     simp only [Option.map_eq_some_iff] at hk
     obtain ⟨v1,h1,h2⟩:=hk
     cases h2
     exact ⟨x,hf,h1,rfl⟩
    ·rw [if_neg hf] at hk
     exact ih hk
 constructor
 ·intro low f args h v h' hk
  obtain ⟨x,rfl,_,_⟩:=inv hk
  rw [hP]
  exact x.fn
 ·intro low f args h v h' hl hk
  obtain ⟨x,_,_,rfl⟩:=inv hk
  exact ⟨Nat.le_refl _,fun _ _=>rfl⟩
 ·intro low f args h v h' hl hk φ w args' ha hr _
  obtain ⟨x,rfl,hrun,rfl⟩:=inv hk
  obtain ⟨h1,h2,h3⟩:=x.ok args v hrun
  have e:args'=args:=Array.toList_inj.1 (RL.Zcy h1 ha)
  rw [e,hP]
  exact (h3 w).mono fun e w' ⟨he,hb⟩=>⟨φ,v,he,RV.atomic φ h2,Below.goes hr hb⟩
def dyAt (dy:List (Nat × Nat × List (Nat × Nat))) (f r:Nat):List (Nat × Nat):=match dy with
 | []=>[]
 | x::dy=>if x.1=f∧x.2.1=r then x.2.2 else dyAt dy f r
def pmAt (pm:List (Nat × Nat × List FuncId)) (f r:Nat):Pu:=match pm with
 | []=>none
 | x::pm=>if x.1=f∧x.2.1=r then some x.2.2 else pmAt pm f r
def cfg (P:Program) (fs:List Nat) (pm:List (Nat × Nat × List FuncId)) (dy:List (Nat × Nat × List (Nat × Nat))) (xs:List (Fact P)):Cfg:=⟨P,fun f=>fs.contains f,pmAt pm,dyAt dy,table xs,Tied.free⟩
theorem ZpF {P:Program} {fs:List Nat} {pm:List (Nat × Nat × List FuncId)} {dy:List (Nat × Nat × List (Nat × Nat))} {xs:List (Fact P)} (h0:P.follows .mixedOrders=true) (h:fs.all (Zm6 P (pmAt pm) (dyAt dy))=true):CfgOK (cfg P fs pm dy xs) where
 follows:=h0
 fn:=by
  intro f fn c hf hfn hc
  have:=List.all_eq_true.1 h f (by simpa [cfg] using hf)
  simp only [cfg] at hfn
  simp only [Zm6,hfn,hc,Bool.and_eq_true,Bool.not_eq_true'] at this
  exact this
 ext:=ZnV rfl xs fun _=>rfl
 lower:=by
  intro low low' f args h r _ hk
  have e:(cfg P fs pm dy xs).known low' f args h=(cfg P fs pm dy xs).known low f args h:=by
   simp only [Cfg.known,cfg]
   induction xs with
   | nil=>rfl
   | cons x xs ih =>
     simp only [table]
     by_cases hf:x.f=f
     ·simp only [if_pos hf]
     ·simp only [if_neg hf]
      exact ih (by simpa only [Cfg.known,cfg,table,if_neg hf] using hk)
  rw [e]
  exact hk
end Go.Im
namespace Go.Im
theorem Zbo {P:Program} {low:Nat} {p:Pu} {c d:Nat→FuncId→Array Value→Heap→Option (Value × Heap)} (hcd:∀ l f a h r,c l f a h=some r→d l f a h=some r) {ops:Array Oper} :
  ∀ {rest:List Oper} {e:Env} {h:Heap} {r:Env × Heap},ZaB P low p c ops rest e h=some r→ZaB P low p d ops rest e h=some r
 | [],e,h,r,H=>by simpa [ZaB] using H
 | o::rest,e,h,r,H=>by
   simp only [ZaB] at H ⊢
   split at H
   ·cases H
   ·rename_i hw
    try rw [hw]
    exact Zbo hcd H
   ·rename_i hw
    try rw [hw]
    try simp only
    split at H
    ·cases H
    ·rename_i hi
     try rw [hi]
     exact Zbo hcd H
    ·rename_i hi
     try rw [hi]
     exact Zbo hcd H
    ·rename_i hi
     try rw [hi]
     try simp only
     split at H
     ·cases H
     ·rename_i hc
      try rw [hcd _ _ _ _ _ hc]
      exact Zbo hcd H
theorem Zcu {K:Cfg}:∀ n,(∀ low f c e h r,ZaJ K n low f c e h=some r→ZaJ K (n+1) low f c e h=some r)∧(∀ low f a h r,Zbk K n low f a h=some r→Zbk K (n+1) low f a h=some r)
 | 0=>by
   constructor
   ·intro low f c e h r H
    simp [ZaJ] at H
   ·intro low f a h r H
    simp [Zbk] at H
 | n+1=>by
   obtain ⟨ihE,ihC⟩:=Zcu (K:=K) n
   constructor
   ·intro low f c e h r H
    unfold ZaJ at H ⊢
    cases c with
    | region id ops draw =>
      simp only at H ⊢
      split at H
      ·rename_i hr
       rw [Zbo (d:=Zbk K (n+1)) (fun l f a h r=>ihC l f a h r) hr]
       split at H
       ·rename_i hd
        simp only [hd,if_true]
        exact H
       ·cases H
      ·cases H
    | seq a b =>
      simp only at H ⊢
      split at H
      ·rename_i he
       rw [ihE _ _ _ _ _ _ he]
       exact ihE _ _ _ _ _ _ H
      ·rename_i r' hne
       rw [ihE _ _ _ _ _ _ H]
       split
       ·rename_i e1 h1 heq
        exact absurd (H.trans heq) (hne e1 h1)
       ·rfl
    | cond c a b =>
      simp only at H ⊢
      split at H
      ·exact ihE _ _ _ _ _ _ H
      ·exact ihE _ _ _ _ _ _ H
      ·cases H
    | block id b =>
      simp only at H ⊢
      split at H
      ·rename_i he
       rw [ihE _ _ _ _ _ _ he]
       exact H
      ·rename_i r' hne
       rw [ihE _ _ _ _ _ _ H]
       split
       ·rename_i id' e1 h1 heq
        exact absurd (H.trans heq) (hne id' e1 h1)
       ·rfl
    | loop b =>
      simp only at H ⊢
      split at H
      ·rename_i he
       rw [ihE _ _ _ _ _ _ he]
       exact ihE _ _ _ _ _ _ H
      ·rename_i r' hne
       rw [ihE _ _ _ _ _ _ H]
       split
       ·rename_i e1 h1 heq
        exact absurd (H.trans heq) (hne e1 h1)
       ·rfl
    | scope b=>exact ihE _ _ _ _ _ _ H
    | _=>exact H
   ·intro low f a h r H
    unfold Zbk at H ⊢
    cases hx:K.ext f with
    | some g =>
      rw [hx] at H
      exact H
    | none =>
    rw [hx] at H
    simp only at H ⊢
    split at H
    ·rename_i hok
     rw [if_pos hok]
     split at H
     ·rename_i fn hf
      try rw [hf]
      try simp only
      split at H
      ·rename_i c hb
       try rw [hb]
       try simp only
       split at H
       ·rename_i he
        rw [ihE _ _ _ _ _ _ he]
        exact H
       ·rename_i he
        rw [ihE _ _ _ _ _ _ he]
        exact H
       ·cases H
      ·cases H
     ·cases H
    ·cases H
theorem Zfo {K:Cfg} {n m:Nat} (hnm:n≤m) {low:Nat} {f:FuncId} {c:Code} {e:Env} {h:Heap} {r:Ex × Env × Heap} (H:ZaJ K n low f c e h=some r):ZaJ K m low f c e h=some r:=by
 induction hnm with
 | refl=>exact H
 | step _ ih=>exact (Zcu _).1 _ _ _ _ _ _ ih
theorem Zoy {K:Cfg} {n m:Nat} (hnm:n≤m) {low:Nat} {f:FuncId} {a:Array Value} {h:Heap} {r:Value × Heap} (H:Zbk K n low f a h=some r):Zbk K m low f a h=some r:=by
 induction hnm with
 | refl=>exact H
 | step _ ih=>exact (Zcu _).2 _ _ _ _ _ ih
inductive Fr where
 | code (c:Code)
 | ops (pure:Pu) (all:Array Oper) (rest:List Oper)
 | blk (id:Nat)
 | loop (b:Code)
 | chk (ops:Array Oper) (s:Nat) (l:List (Nat × Nat))
def chks (ops:Array Oper) (s:Nat) (l:List (Nat × Nat)) (fs:List Fr):List Fr:=match l with
 | []=>fs
 | x::l=> .chk ops s (x::l)::fs
def unwind (id:Nat):List Fr→Option (List Fr)
 | []=>none
 | .blk id'::fs=>if id=id' then some fs else unwind id fs
 | _::fs=>unwind id fs
def go (K:Cfg) (low:Nat) (f:FuncId):Nat→List Fr→Env→Heap→Option (Env × Heap)
 | 0,_,_,_=>none
 | n+1,fs,e,h=>match fs with
   | []=>some (e,h)
   | .code c::fs=>match c with
     | .skip=>go K low f n fs e h
     | .label _=>go K low f n fs e h
     | .region id ops draw=>go K low f n (.ops (if draw then K.pm f id else none) ops ops.toList::chks ops h.size (K.dy f id) fs) e h
     | .seq a b=>go K low f n (.code a:: .code b::fs) e h
     | .cond c a b=>match e.eval c with
       | .bool true=>go K low f n (.code a::fs) e h
       | .bool false=>go K low f n (.code b::fs) e h
       | _=>none
     | .block id b=>go K low f n (.code b:: .blk id::fs) e h
     | .loop b=>go K low f n (.code b:: .loop b::fs) e h
     | .exit id=>match unwind id fs with
       | some fs=>go K low f n fs e h
       | none=>none
     | .scope b=>go K low f n (.code b::fs) e h
     | .ret=>some (e,h)
     | _=>none
   | .ops _ _ []::fs=>go K low f n fs e h
   | .ops p all (o::rest)::fs=>match ZaR all o e with
     | none=>none
     | some false=>go K low f n (.ops p all rest::fs) (e.put o.dst undef) h
     | some true=>match iop K.P low o e.eval h with
       | none=>none
       | some (.val v,h)=>go K low f n (.ops p all rest::fs) (e.put o.dst v) h
       | some (.skip,h)=>go K low f n (.ops p all rest::fs) (e.put o.dst undef) h
       | some (.enter g args,h)=>match Zbk K n (if p.of o.op then h.size else low) g args h with
         | none=>none
         | some (v,h)=>go K low f n (.ops p all rest::fs) (e.put o.dst v) h
   | .blk _::fs=>go K low f n fs e h
   | .loop b::fs=>go K low f n (.code (.loop b)::fs) e h
   | .chk ops s l::fs=>if dyOK ops s e l then go K low f n fs e h else none
theorem ZaY {K:Cfg} {low:Nat} {f:FuncId}:∀ (n:Nat) {fs:List Fr} {e:Env} {h:Heap} {r:Env × Heap},go K low f n fs e h=some r→go K low f (n+1) fs e h=some r
 | 0,fs,e,h,r,H=>by simp [go] at H
 | n+1,fs,e,h,r,H=>by
   unfold go at H ⊢
   split at H
   ·exact H
   ·rename_i c fs
    cases c with
    | cond c a b =>
      simp only at H ⊢
      split at H
      ·exact ZaY n H
      ·exact ZaY n H
      ·cases H
    | exit id =>
      simp only at H ⊢
      split at H
      ·exact ZaY n H
      ·cases H
    | skip=>exact ZaY n H
    | label l=>exact ZaY n H
    | region id ops d=>exact ZaY n H
    | seq a b=>exact ZaY n H
    | block id b=>exact ZaY n H
    | loop b=>exact ZaY n H
    | scope b=>exact ZaY n H
    | ret=>exact H
    | _=>exact absurd H Yp
   ·exact ZaY n H
   ·split at H
    ·cases H
    ·exact ZaY n H
    ·split at H
     ·cases H
     ·exact ZaY n H
     ·exact ZaY n H
     ·split at H
      ·cases H
      ·rename_i hc
       simp only [(Zcu n).2 _ _ _ _ _ hc]
       exact ZaY n H
   ·exact ZaY n H
   ·exact ZaY n H
   ·split at H
    ·rename_i hd
     simp only [hd,if_true]
     exact ZaY n H
    ·cases H
theorem Zu8 {K:Cfg} {low:Nat} {f:FuncId} {n m:Nat} (hnm:n≤m) {fs:List Fr} {e:Env} {h:Heap} {r:Env × Heap} (H:go K low f n fs e h=some r):go K low f m fs e h=some r:=by
 induction hnm with
 | refl=>exact H
 | step _ ih=>exact ZaY _ ih
theorem ZiC {K:Cfg} {low:Nat} {f:FuncId} {p:Pu} {all:Array Oper} {fs:List Fr} {r:Env × Heap}:∀ (n:Nat) {rest:List Oper} {e:Env} {h:Heap},go K low f n (.ops p all rest::fs) e h=some r →
  ∃ e1 h1,ZaB K.P low p (Zbk K n) all rest e h=some (e1,h1)∧∃ k,k < n∧go K low f k fs e1 h1=some r
 | 0,rest,e,h,H=>by simp [go] at H
 | n+1,[],e,h,H=>⟨e,h,rfl,n,Nat.lt_succ_self _,by simpa [go] using H⟩
 | n+1,o::rest,e,h,H=>by
   have up:∀ {rest:List Oper} {e:Env} {h:Heap} {r:Env × Heap},ZaB K.P low p (Zbk K n) all rest e h=some r→ZaB K.P low p (Zbk K (n+1)) all rest e h=some r :=
    fun H=>Zbo (fun l g a h r=>(Zcu n).2 l g a h r) H
   simp only [go] at H
   simp only [ZaB]
   split at H
   ·cases H
   ·rename_i hw
    obtain ⟨e1,h1,hr,k,hk,hg⟩:=ZiC n H
    exact ⟨e1,h1,by rw [hw];exact up hr,k,by omega,hg⟩
   ·rename_i hw
    split at H
    ·cases H
    ·rename_i hi
     obtain ⟨e1,h1,hr,k,hk,hg⟩:=ZiC n H
     exact ⟨e1,h1,by rw [hw];simp only [hi];exact up hr,k,by omega,hg⟩
    ·rename_i hi
     obtain ⟨e1,h1,hr,k,hk,hg⟩:=ZiC n H
     exact ⟨e1,h1,by rw [hw];simp only [hi];exact up hr,k,by omega,hg⟩
    ·rename_i hi
     split at H
     ·cases H
     ·rename_i hc
      obtain ⟨e1,h1,hr,k,hk,hg⟩:=ZiC n H
      exact ⟨e1,h1,by rw [hw];simp only [hi,(Zcu n).2 _ _ _ _ _ hc];exact up hr,k,by omega,hg⟩
def after (K:Cfg) (low:Nat) (f:FuncId) (n:Nat) (fs:List Fr) (r:Env × Heap) (x:Ex) (e:Env) (h:Heap):Prop:=match x with
 | .normal=>∃ k,k < n∧go K low f k fs e h=some r
 | .ret=>r=(e,h)
 | .exit id=>∃ fs',unwind id fs=some fs'∧∃ k,k < n∧go K low f k fs' e h=some r
theorem Zet {K:Cfg} {low:Nat} {f:FuncId} {n m:Nat} (hnm:n≤m) {fs:List Fr} {r:Env × Heap} {x:Ex} {e:Env} {h:Heap} (H:after K low f n fs r x e h):after K low f m fs r x e h:=by
 cases x with
 | normal=>obtain ⟨k,hk,hg⟩:=H;exact ⟨k,by omega,hg⟩
 | ret=>exact H
 | exit id=>obtain ⟨fs',hu,k,hk,hg⟩:=H;exact ⟨fs',hu,k,by omega,hg⟩
theorem ZcJ {K:Cfg} {low:Nat} {f:FuncId} {r:Env × Heap}:∀ (N n:Nat),n≤N→∀ {c:Code} {fs:List Fr} {e:Env} {h:Heap},go K low f n (.code c::fs) e h=some r →
  ∃ m x e1 h1,ZaJ K m low f c e h=some (x,e1,h1)∧after K low f n fs r x e1 h1
 | _,0,_,c,fs,e,h,H=>by simp [go] at H
 | 0,n+1,hn,c,fs,e,h,H=>by omega
 | N+1,n+1,hn,c,fs,e,h,H=>by
   have hnN:n≤N:=Ya
   cases c with
   | skip=>exact ⟨1,.normal,e,h,rfl,n,by omega,by simpa [go] using H⟩
   | label l=>exact ⟨1,.normal,e,h,rfl,n,by omega,by simpa [go] using H⟩
   | region id ops draw =>
     simp only [go] at H
     obtain ⟨e1,h1,hr,k,hk,hg⟩:=ZiC n H
     cases hdl:K.dy f id with
     | nil =>
       rw [hdl] at hg
       exact ⟨n+1,.normal,e1,h1,by simp only [ZaJ,hr,hdl,dyOK,List.all_nil,if_true],k,by omega,hg⟩
     | cons x l =>
       rw [hdl] at hg
       cases k with
       | zero=>simp [go] at hg
       | succ k =>
         simp only [chks,go] at hg
         split at hg
         ·rename_i hd
          exact ⟨n+1,.normal,e1,h1,by simp only [ZaJ,hr,hdl,hd,if_true],k,by omega,hg⟩
         ·cases hg
   | seq a b =>
     simp only [go] at H
     obtain ⟨m,x,e1,h1,he,ha⟩:=ZcJ N n hnN H
     cases x with
     | normal =>
       obtain ⟨k,hk,hg⟩:=ha
       obtain ⟨m',x',e2,h2,he',ha'⟩:=ZcJ N k Ya hg
       refine ⟨max m m'+1,x',e2,h2,?_,Zet Ya ha'⟩
       simp only [ZaJ,Zfo (Nat.le_max_left m m') he]
       exact Zfo (Nat.le_max_right m m') he'
     | ret=>exact ⟨m+1,.ret,e1,h1,by simp only [ZaJ,he],ha⟩
     | exit id =>
       obtain ⟨fs',hu,k,hk,hg⟩:=ha
       exact ⟨m+1,.exit id,e1,h1,by simp only [ZaJ,he],fs',by simpa [unwind] using hu,k,by omega,hg⟩
   | cond c a b =>
     simp only [go] at H
     split at H
     ·rename_i hc
      obtain ⟨m,x,e1,h1,he,ha⟩:=ZcJ N n hnN H
      exact ⟨m+1,x,e1,h1,by simp only [ZaJ,hc];exact he,Zet Ya ha⟩
     ·rename_i hc
      obtain ⟨m,x,e1,h1,he,ha⟩:=ZcJ N n hnN H
      exact ⟨m+1,x,e1,h1,by simp only [ZaJ,hc];exact he,Zet Ya ha⟩
     ·cases H
   | block id b =>
     simp only [go] at H
     obtain ⟨m,x,e1,h1,he,ha⟩:=ZcJ N n hnN H
     cases x with
     | normal =>
       obtain ⟨k,hk,hg⟩:=ha
       cases k with
       | zero=>simp [go] at hg
       | succ k=>exact ⟨m+1,.normal,e1,h1,by simp only [ZaJ,he],k,by omega,by simpa [go] using hg⟩
     | ret=>exact ⟨m+1,.ret,e1,h1,by simp only [ZaJ,he],ha⟩
     | exit id' =>
       obtain ⟨fs',hu,k,hk,hg⟩:=ha
       by_cases hid:id'=id
       ·refine ⟨m+1,.normal,e1,h1,by simp only [ZaJ,he,if_pos hid],k,by omega,?_⟩
        simp only [unwind,if_pos hid,Option.some.injEq] at hu
        subst hu
        exact hg
       ·refine ⟨m+1,.exit id',e1,h1,by simp only [ZaJ,he,if_neg hid],fs',?_,k,by omega,hg⟩
        simpa [unwind,if_neg hid] using hu
   | loop b =>
     simp only [go] at H
     obtain ⟨m,x,e1,h1,he,ha⟩:=ZcJ N n hnN H
     cases x with
     | normal =>
       obtain ⟨k,hk,hg⟩:=ha
       cases k with
       | zero=>simp [go] at hg
       | succ k =>
         simp only [go] at hg
         obtain ⟨m',x',e2,h2,he',ha'⟩:=ZcJ N k Ya hg
         refine ⟨max m m'+1,x',e2,h2,?_,Zet Ya ha'⟩
         simp only [ZaJ,Zfo (Nat.le_max_left m m') he]
         exact Zfo (Nat.le_max_right m m') he'
     | ret=>exact ⟨m+1,.ret,e1,h1,by simp only [ZaJ,he],ha⟩
     | exit id =>
       obtain ⟨fs',hu,k,hk,hg⟩:=ha
       exact ⟨m+1,.exit id,e1,h1,by simp only [ZaJ,he],fs',by simpa [unwind] using hu,k,by omega,hg⟩
   | exit id =>
     simp only [go] at H
     split at H
     ·rename_i fs' hu
      exact ⟨1,.exit id,e,h,rfl,fs',hu,n,by omega,H⟩
     ·cases H
   | scope b =>
     simp only [go] at H
     obtain ⟨m,x,e1,h1,he,ha⟩:=ZcJ N n hnN H
     exact ⟨m+1,x,e1,h1,by simp only [ZaJ];exact he,Zet Ya ha⟩
   | ret=>exact ⟨1,.ret,e,h,rfl,by simpa [go,after,eq_comm] using H⟩
   | _=>simp [go] at H
end Go.Im
namespace Go.Im
@[go_sem] theorem Zuc {f r:Nat}:dyAt [] f r=[]:=rfl
@[go_sem] theorem Zs4 {f r:Nat} {x:Nat × Nat × List (Nat × Nat)} {dy:List (Nat × Nat × List (Nat × Nat))}:dyAt (x::dy) f r=if x.1=f∧x.2.1=r then x.2.2 else dyAt dy f r:=rfl
def W (K:Cfg) (low:Nat) (f:FuncId) (fs:List Fr) (e:Env) (h:Heap) (Q:Env→Heap→Prop):Prop:=∃ n e' h',go K low f n fs e h=some (e',h')∧Q e' h'
def Does (K:Cfg) (low:Nat) (f:FuncId) (args:Array Value) (h:Heap) (Q:Value→Heap→Prop):Prop:=∃ n v h',Zbk K n low f args h=some (v,h')∧Q v h'
theorem Does.mono {K:Cfg} {low:Nat} {f:FuncId} {args:Array Value} {h:Heap} {Q R:Value→Heap→Prop} (H:Does K low f args h Q) (hqr:∀ v h',Q v h'→R v h'):Does K low f args h R:=by
 obtain ⟨n,v,h',hi,hq⟩:=H
 exact ⟨n,v,h',hi,hqr _ _ hq⟩
theorem W.mono {K:Cfg} {low:Nat} {f:FuncId} {fs:List Fr} {e:Env} {h:Heap} {Q R:Env→Heap→Prop} (H:W K low f fs e h Q) (hqr:∀ e' h',Q e' h'→R e' h'):W K low f fs e h R:=by
 obtain ⟨n,v,h',hi,hq⟩:=H
 exact ⟨n,v,h',hi,hqr _ _ hq⟩
section
variable {K:Cfg} {low:Nat} {f:FuncId} {fs:List Fr} {e:Env} {h:Heap} {Q:Env→Heap→Prop}
theorem Zca {fs':List Fr} {e':Env} {h':Heap} (H:∀ n,go K low f (n+1) fs e h=go K low f n fs' e' h'):W K low f fs e h Q↔W K low f fs' e' h' Q:=by
 constructor
 ·rintro ⟨n,e1,h1,hg,hq⟩
  cases n with
  | zero=>simp [go] at hg
  | succ n=>exact ⟨n,e1,h1,by rw [← H];exact hg,hq⟩
 ·rintro ⟨n,e1,h1,hg,hq⟩
  exact ⟨n+1,e1,h1,by rw [H];exact hg,hq⟩
@[go_sem] theorem Ztk:W K low f [] e h Q↔Q e h:=by
  constructor
  ·rintro ⟨n,e1,h1,hg,hq⟩
   cases n with
   | zero=>simp [go] at hg
   | succ n =>
     simp only [go,Option.some.injEq,Prod.mk.injEq] at hg
     obtain ⟨rfl,rfl⟩:=hg
     exact hq
  ·intro hq
   exact ⟨1,e,h,rfl,hq⟩
@[go_sem] theorem ZxO:W K low f (.code .ret::fs) e h Q↔Q e h:=by
  constructor
  ·rintro ⟨n,e1,h1,hg,hq⟩
   cases n with
   | zero=>simp [go] at hg
   | succ n =>
     simp only [go,Option.some.injEq,Prod.mk.injEq] at hg
     obtain ⟨rfl,rfl⟩:=hg
     exact hq
  ·intro hq
   exact ⟨1,e,h,rfl,hq⟩
@[go_sem] theorem ZpM:W K low f (.code .skip::fs) e h Q↔W K low f fs e h Q:=Zca fun _=>rfl
@[go_sem] theorem ZvY {l:Nat}:W K low f (.code (.label l)::fs) e h Q↔W K low f fs e h Q:=Zca fun _=>rfl
theorem WR {id:Nat} {ops:Array Oper} {d:Bool}:W K low f (.code (.region id ops d)::fs) e h Q↔W K low f (.ops (if d then K.pm f id else none) ops ops.toList::chks ops h.size (K.dy f id) fs) e h Q:=Zca fun _=>rfl
@[go_sem] theorem Zkw {ops:Array Oper} {s:Nat}:chks ops s [] fs=fs:=rfl
@[go_sem] theorem Ztb {ops:Array Oper} {s:Nat} {x:Nat × Nat} {l:List (Nat × Nat)}:chks ops s (x::l) fs= .chk ops s (x::l)::fs:=rfl
theorem ZiV {ops:Array Oper} {s:Nat} {l:List (Nat × Nat)} (hd:dyOK ops s e l=true) (H:W K low f fs e h Q):W K low f (.chk ops s l::fs) e h Q:=(Zca (fs':=fs) (e':=e) (h':=h) fun _=>by simp only [go,hd,if_true]).2 H
@[go_sem] theorem Zo0 {a b:Code}:W K low f (.code (.seq a b)::fs) e h Q↔W K low f (.code a:: .code b::fs) e h Q:=Zca fun _=>rfl
@[go_sem] theorem ZvZ {id:Nat} {b:Code}:W K low f (.code (.block id b)::fs) e h Q↔W K low f (.code b:: .blk id::fs) e h Q:=Zca fun _=>rfl
@[go_sem] theorem ZvX {b:Code}:W K low f (.code (.scope b)::fs) e h Q↔W K low f (.code b::fs) e h Q:=Zca fun _=>rfl
@[go_sem] theorem ZxP {id:Nat}:W K low f (.blk id::fs) e h Q↔W K low f fs e h Q:=Zca fun _=>rfl
@[go_sem] theorem Zv0 {b:Code}:W K low f (.loop b::fs) e h Q↔W K low f (.code (.loop b)::fs) e h Q:=Zca fun _=>rfl
theorem Za8 {b:Code}:W K low f (.code (.loop b)::fs) e h Q↔W K low f (.code b:: .loop b::fs) e h Q:=Zca fun _=>rfl
@[go_sem] theorem ZnF {p:Pu} {all:Array Oper}:W K low f (.ops p all []::fs) e h Q↔W K low f fs e h Q:=Zca fun _=>rfl
def Wx (K:Cfg) (low:Nat) (f:FuncId) (fs:Option (List Fr)) (e:Env) (h:Heap) (Q:Env→Heap→Prop):Prop:=match fs with
 | some fs=>W K low f fs e h Q
 | none=>False
theorem WS:Wx K low f (some fs) e h Q↔W K low f fs e h Q:=Iff.rfl
@[go_sem] theorem ZwW {id:Nat}:W K low f (.code (.exit id)::fs) e h Q↔Wx K low f (unwind id fs) e h Q:=by
  cases hu:unwind id fs with
  | none =>
    refine ⟨?_,fun hh=>hh.elim⟩
    rintro ⟨n,e1,h1,hg,hq⟩
    cases n with
    | zero=>simp [go] at hg
    | succ n=>simp [go,hu] at hg
  | some fs'=>exact Zca fun n=>by simp only [go,hu]
@[go_sem] theorem Zrk {id id':Nat} {fs:List Fr}:unwind id (.blk id'::fs)=if id=id' then some fs else unwind id fs:=rfl
@[go_sem] theorem ZpT {id:Nat} {c:Code} {fs:List Fr}:unwind id (.code c::fs)=unwind id fs:=rfl
@[go_sem] theorem ZpS {id:Nat} {c:Code} {fs:List Fr}:unwind id (.loop c::fs)=unwind id fs:=rfl
@[go_sem] theorem Zrj {id:Nat} {ops:Array Oper} {s:Nat} {l:List (Nat × Nat)} {fs:List Fr}:unwind id (.chk ops s l::fs)=unwind id fs:=rfl
@[go_sem] theorem Zri {id:Nat} {p:Pu} {all:Array Oper} {l:List Oper} {fs:List Fr}:unwind id (.ops p all l::fs)=unwind id fs:=rfl
def Wc (K:Cfg) (low:Nat) (f:FuncId) (v:Value) (a b:Code) (fs:List Fr) (e:Env) (h:Heap) (Q:Env→Heap→Prop):Prop:=match v with
 | .bool true=>W K low f (.code a::fs) e h Q
 | .bool false=>W K low f (.code b::fs) e h Q
 | _=>False
@[go_sem] theorem ZvW {a b:Code}:Wc K low f (.bool true) a b fs e h Q↔W K low f (.code a::fs) e h Q:=Iff.rfl
@[go_sem] theorem ZkC {a b:Code}:Wc K low f (.bool false) a b fs e h Q↔W K low f (.code b::fs) e h Q:=Iff.rfl
@[go_sem] theorem ZnG {c:Operand} {a b:Code}:W K low f (.code (.cond c a b)::fs) e h Q↔Wc K low f (e.eval c) a b fs e h Q:=by
  unfold Wc
  split
  ·rename_i hv
   exact Zca fun n=>by simp only [go,hv]
  ·rename_i hv
   exact Zca fun n=>by simp only [go,hv]
  ·rename_i h1 h2
   refine ⟨?_,fun hh=>hh.elim⟩
   rintro ⟨n,e1,h1',hg,hq⟩
   cases n with
   | zero=>simp [go] at hg
   | succ n =>
     simp only [go] at hg
     first
      | (cases hg;done)
      | (split at hg
         ·exact absurd Y2 h1
         ·exact absurd Y2 h2
         ·cases hg)
def Wo (K:Cfg) (low:Nat) (f:FuncId) (p:Pu) (pb:Bool) (all:Array Oper) (d:Option Tmp) (rest:List Oper) (fs:List Fr) (e:Env) (h:Heap) (Q:Env→Heap→Prop) (w:Option Bool) (r:Option (Out × Heap)):Prop:=match w with
 | some false=>W K low f (.ops p all rest::fs) (e.put d undef) h Q
 | some true=>match r with
   | some (.val v,h)=>W K low f (.ops p all rest::fs) (e.put d v) h Q
   | some (.skip,h)=>W K low f (.ops p all rest::fs) (e.put d undef) h Q
   | some (.enter g args,h)=>Does K (if pb then h.size else low) g args h fun v h=>W K low f (.ops p all rest::fs) (e.put d v) h Q
   | none=>False
 | none=>False
variable {p:Pu} {pb:Bool} {all:Array Oper} {d:Option Tmp} {rest:List Oper}
@[go_sem] theorem ZwV {r:Option (Out × Heap)}:Wo K low f p pb all d rest fs e h Q (some false) r↔W K low f (.ops p all rest::fs) (e.put d undef) h Q:=Iff.rfl
@[go_sem] theorem ZwU {v:Value} {h':Heap}:Wo K low f p pb all d rest fs e h Q (some true) (some (.val v,h'))↔W K low f (.ops p all rest::fs) (e.put d v) h' Q:=Iff.rfl
@[go_sem] theorem ZvV {h':Heap}:Wo K low f p pb all d rest fs e h Q (some true) (some (.skip,h'))↔W K low f (.ops p all rest::fs) (e.put d undef) h' Q:=Iff.rfl
theorem ZkB {g:FuncId} {args:Array Value} {h':Heap}:Wo K low f p pb all d rest fs e h Q (some true) (some (.enter g args,h'))↔Does K (if pb then h'.size else low) g args h' fun v h=>W K low f (.ops p all rest::fs) (e.put d v) h Q:=Iff.rfl
@[go_sem] theorem W_op {o:Oper}:W K low f (.ops p all (o::rest)::fs) e h Q↔Wo K low f p (p.of o.op) all o.dst rest fs e h Q (ZaR all o e) (iop K.P low o e.eval h):=by
  constructor
  ·rintro ⟨n,e1,h1,hg,hq⟩
   cases n with
   | zero=>simp [go] at hg
   | succ n =>
     simp only [go] at hg
     split at hg
     ·cases hg
     ·rename_i hw
      rw [hw]
      exact ⟨n,e1,h1,hg,hq⟩
     ·rename_i hw
      rw [hw]
      split at hg
      ·cases hg
      ·rename_i hi
       rw [hi]
       exact ⟨n,e1,h1,hg,hq⟩
      ·rename_i hi
       rw [hi]
       exact ⟨n,e1,h1,hg,hq⟩
      ·rename_i hi
       rw [hi]
       split at hg
       ·cases hg
       ·rename_i v h2 hc
        exact ⟨n,v,h2,hc,n,e1,h1,hg,hq⟩
  ·intro H
   unfold Wo at H
   split at H
   ·rename_i hw
    obtain ⟨n,e1,h1,hg,hq⟩:=H
    exact ⟨n+1,e1,h1,by simp only [go,hw];exact hg,hq⟩
   ·rename_i hw
    split at H
    ·rename_i hi
     obtain ⟨n,e1,h1,hg,hq⟩:=H
     exact ⟨n+1,e1,h1,by simp only [go,hw,hi];exact hg,hq⟩
    ·rename_i hi
     obtain ⟨n,e1,h1,hg,hq⟩:=H
     exact ⟨n+1,e1,h1,by simp only [go,hw,hi];exact hg,hq⟩
    ·rename_i hi
     obtain ⟨m,v,h2,hc,n,e1,h1,hg,hq⟩:=H
     refine ⟨max m n+1,e1,h1,?_,hq⟩
     simp only [go,hw,hi,Zoy (Nat.le_max_left m n) hc]
     exact Zu8 (Nat.le_max_right m n) hg
    ·exact H.elim
   ·exact H.elim
end
end Go.Im
namespace Go.Im
def okv (r:Option Value) (h:Heap):Option (Out × Heap):=match r with
 | some v=>some (.val v,h)
 | none=>none
def okb (r:Option (Value × Option Blk)) (h:Heap):Option (Out × Heap):=match r with
 | some (v,none)=>some (.val v,h)
 | some (v,some x)=>some (.val v,h.push x)
 | none=>none
def oks (r:Option Heap):Option (Out × Heap):=match r with
 | some h=>some (.skip,h)
 | none=>none
def okh (r:Option (Value × Heap)):Option (Out × Heap):=match r with
 | some (v,h)=>some (.val v,h)
 | none=>none
@[go_sem] theorem Ztn {v:Value} {h:Heap}:okv (some v) h=some (.val v,h):=rfl
@[go_sem] theorem ZuM {v:Value} {h:Heap}:okb (some (v,none)) h=some (.val v,h):=rfl
@[go_sem] theorem ZuN {v:Value} {h:Heap} {x:Blk}:okb (some (v,some x)) h=some (.val v,h.push x):=rfl
@[go_sem] theorem Zto {h:Heap}:oks (some h)=some (.skip,h):=rfl
@[go_sem] theorem Ztp {v:Value} {h:Heap}:okh (some (v,h))=some (.val v,h):=rfl
@[go_sem] theorem Env.ZoN {e:Env} {t:Nat}:e.eval (.tmp t)=e.get t:=rfl
@[go_sem] theorem Env.eval_func {e:Env} {g:FuncId}:e.eval (.func g)= .func (.func g) #[] #[]:=rfl
@[go_sem] theorem Env.Zub {e:Env} {k:IntKind} {n:Int}:e.eval (.const (.int k n))= .int k n:=rfl
@[go_sem] theorem Env.ZsY {e:Env} {b:Bool}:e.eval (.const (.bool b))= .bool b:=rfl
@[go_sem] theorem Env.ZqV {e:Env} {s:ByteArray}:e.eval (.const (.string s))= .string s:=rfl
@[go_sem] theorem Env.eval_nil {e:Env}:e.eval (.const (.slice none 0 0))= .slice none 0 0:=rfl
@[go_sem] theorem Env.ZsU {e:Env}:e.eval (.const (.pointer none))= .pointer none:=rfl
@[go_sem] theorem Env.ZsV {e:Env}:e.eval (.const (.map none))= .map none:=rfl
@[go_sem] theorem Env.ZsX {e:Env}:e.eval (.const .nilFunc)= .nilFunc:=rfl
@[go_sem] theorem Env.ZsW {e:Env}:e.eval (.const .nilIface)= .nilIface:=rfl
@[go_sem] theorem Env.Ztm {e:Env} {v:Value}:e.put none v=e:=rfl
@[go_sem] theorem Env.Ztl {e:Env} {d:Option Tmp} {v:Value}:(e.put d v).size=e.size:=by
  cases d with
  | none=>rfl
  | some t=>simp only [Env.put];split<;>rfl
@[go_sem] theorem Env.Zrl {n:Nat} {args:List Value}:(Env.start n args).size=max n args.length:=rfl
theorem Env.ZgT {e:Env} {d t:Nat} {v:Value}:(e.put (some d) v).get t=if d=t then (if d < e.size then v else e.get t) else e.get t:=by
 rw [Env.get_put]
 by_cases hd:d=t
 ·subst hd
  by_cases hs:d < e.size<;>simp [hs]
 ·rw [if_neg Ya,if_neg hd]
@[go_sem] theorem Env.ZrR {e:Env} {d t:Nat} {v:Value} (h:¬ d=t):(e.put (some d) v).get t=e.get t:=by
  rw [Env.ZgT,if_neg h]
@[go_sem] theorem Env.ZrS {e:Env} {d:Nat} {v:Value} (h:d < e.size):(e.put (some d) v).get d=v:=by
  rw [Env.ZgT,if_pos rfl,if_pos h]
def nth:List Value→Nat→Value
 | [],_=>undef
 | v::_,0=>v
 | _::l,i+1=>nth l i
@[go_sem] theorem Ztq {v:Value} {l:List Value}:nth (v::l) 0=v:=rfl
@[go_sem] theorem Ztr {v:Value} {l:List Value} {i:Nat}:nth (v::l) (i+1)=nth l i:=rfl
@[go_sem] theorem ZuR {v w:Value} {l:List Value}:nth (v::w::l) 1=w:=rfl
@[go_sem] theorem ZuQ {v w x:Value} {l:List Value}:nth (v::w::x::l) 2=x:=rfl
@[go_sem] theorem Zsi {v w x y:Value} {l:List Value}:nth (v::w::x::y::l) 3=y:=rfl
@[go_sem] theorem Zts {v w x y z:Value} {l:List Value}:nth (v::w::x::y::z::l) 4=z:=rfl
@[go_sem] theorem ZuS {i:Nat}:nth [] i=undef:=rfl
theorem Zmj:∀ (l:List Value) (i:Nat),nth l i=match l[i]? with
  | some v=>v
  | none=>undef
 | [],i=>by simp [nth]
 | v::l,0=>rfl
 | v::l,i+1=>by simpa [nth] using Zmj l i
@[go_sem] theorem Env.Zr7 {n:Nat} {args:List Value} {t:Nat}:(Env.start n args).get t=nth args t:=by
  rw [Zmj]
  simp only [Env.get,Env.start,Env.ZhA,Nat.zero_le,true_and,Nat.zero_add,Nat.sub_zero]
  by_cases ht:t < args.length
  ·rw [if_pos ht]
   rfl
  ·rw [if_neg ht,List.getElem?_eq_none Ya]
   cases t<;>rfl
@[go_sem] theorem Zpj {ops:Array Oper} {d:Option Tmp} {op:Op} {t:TypeId} {s:String} {a:Array Edge} {e:Env}:ZaR ops ⟨d,op,t,s,a,none⟩ e=some true:=rfl
def ZoG (ops:Array Oper) (j:Nat):Option Tmp:=(ops[j]?).bind (·.dst)
def Zm2 (v:Option Value) (want:Bool):Option Bool:=match v with
 | none=>some false
 | some (.bool b)=>some (b == want)
 | some (.tuple _)=>some false
 | _=>none
@[go_sem] theorem ZrQ {b:Bool}:Zm2 (some (.bool b)) true=some b:=by cases b<;>rfl
@[go_sem] theorem ZqT {b:Bool}:Zm2 (some (.bool b)) false=some (!b):=by cases b<;>rfl
@[go_sem] theorem ZqS {want:Bool}:Zm2 (some undef) want=some false:=rfl
theorem Zik {ops:Array Oper} {d:Option Tmp} {op:Op} {t:TypeId} {s:String} {a:Array Edge} {j:Nat} {want:Bool} {e:Env} :
  ZaR ops ⟨d,op,t,s,a,some (j,want)⟩ e=Zm2 ((ZoG ops j).map e.get) want:=by
 simp only [ZaR,ZoG]
 cases (ops[j]?).bind (·.dst) with
 | none=>rfl
 | some d=>simp only [Option.map_some,Zm2];cases e.get d<;>rfl
attribute [go_sem] Zik
def vo (r:Option Value):Option (Value × Option Blk):=match r with
 | some v=>some (v,none)
 | none=>none
@[go_sem] theorem ZuA {v:Value}:vo (some v)=some (v,none):=rfl
theorem Zcm {r:Option Value} {h:Heap}:okb (vo r) h=okv r h:=by cases r<;>rfl
section
variable {P:Program} {low:Nat} {ρ:Operand→Value} {h:Heap} {d:Option Tmp} {t:TypeId} {s:String} {a:Array Edge} {g:Option (Nat × Bool)}
theorem Zaw {op:Op} (ht:Op.touches op=false):iop P low ⟨d,op,t,s,a,g⟩ ρ h=okb (iop0 P h.size op ρ) h:=by
 simp only [iop,ht,Bool.false_eq_true,if_false]
 rfl
@[go_sem] theorem ZtB {x:Operand}:iop P low ⟨d,.move x,t,s,a,g⟩ ρ h=some (.val (ρ x),h):=rfl
@[go_sem] theorem Zrt {x:Operand}:iop P low ⟨d,.assign x,t,s,a,g⟩ ρ h=some (.val (ρ x),h):=rfl
def Zqu (c a b:Value):Option Value:=match c with
 | .bool t=>some (if t then a else b)
 | _=>none
@[go_sem] theorem Zrr {t:Bool} {x y:Value}:Zqu (.bool t) x y=some (if t then x else y):=rfl
@[go_sem] theorem Ztz {c x y:Operand}:iop P low ⟨d,.pick c x y,t,s,a,g⟩ ρ h=okv (Zqu (ρ c) (ρ x) (ρ y)) h:=by
  rw [Zaw rfl,← Zcm]
  congr 1
  simp only [iop0]
  unfold Zqu
  cases ρ c<;>rfl
@[go_sem] theorem ZsH {op:BinOp} {x y:Operand} {t1 t2:TypeId}:iop P low ⟨d,.binOp op t1 x y t2,t,s,a,g⟩ ρ h=okv (Zaj P op t1 (ρ x) (ρ y)) h:=by
  rw [Zaw rfl,← Zcm]
  rfl
def Zk6 (op:UnOp) (P:Program) (v:Value):Option Value:=match op,v with
 | .not,.bool b=>some (.bool !b)
 | .neg,.int k n=>some (.int k (k.wrap (0 - n)))
 | .xor,.int k n=>Zi8 P (Op.intBits .xor k (if k.signed then -1 else k.max) n)
 | _,_=>none
@[go_sem] theorem Zss {b:Bool}:Zk6 .not P (.bool b)=some (.bool !b):=rfl
@[go_sem] theorem Zst {k:IntKind} {n:Int}:Zk6 .neg P (.int k n)=some (.int k (k.wrap (0 - n))):=rfl
@[go_sem] theorem Zty {op:UnOp} {t1:TypeId} {x:Operand}:iop P low ⟨d,.unOp op t1 x,t,s,a,g⟩ ρ h=okv (Zk6 op P (ρ x)) h:=by
  rw [Zaw rfl,← Zcm]
  congr 1
  simp only [iop0]
  unfold Zk6
  cases op<;>cases ρ x<;>rfl
@[go_sem] theorem ZtC {t1:TypeId} {x:Operand}:iop P low ⟨d,.load t1 x,t,s,a,g⟩ ρ h=okv (Zej P h t1 (ρ x)) h:=rfl
@[go_sem] theorem ZmN {t1:TypeId} {x y:Operand}:iop P low ⟨d,.store t1 x y,t,s,a,g⟩ ρ h=oks (Zcq P low h t1 (ρ x) (ρ y)):=rfl
@[go_sem] theorem ZsB {t1:TypeId} {x:Operand} {lo hi mx:Option Operand}:iop P low ⟨d,.slice t1 x lo hi mx,t,s,a,g⟩ ρ h=okv (ZeM P h t1 (ρ x) (lo.map ρ) (hi.map ρ) (mx.map ρ)) h:=rfl
@[go_sem] theorem Zqx {t1 t2:TypeId} {x:Operand}:iop P low ⟨d,.convert t1 t2 x,t,s,a,g⟩ ρ h=okh (ZdH P low h t1 t2 (ρ x)):=rfl
@[go_sem] theorem ZsR {t1 t2:TypeId} {k:IntKind} {n:Int}:ZdH P low h t1 t2 (.int k n)=ZaF P h t1 t2 (.int k n):=rfl
@[go_sem] theorem Zpu {t1 t2:TypeId} {x:ByteArray}:ZdH P low h t1 t2 (.string x)=ZaF P h t1 t2 (.string x):=rfl
@[go_sem] theorem ZqI {t1 t2:TypeId} {x:Option Addr} {n c:Nat}:ZdH P low h t1 t2 (.slice x n c)=if t1=t2 then Ziq P low h t1 x n c else ZaF P h t1 t2 (.slice x n c):=rfl
@[go_sem] theorem ZsI {t1:TypeId}:iop P low ⟨d,.alloc t1,t,s,a,g⟩ ρ h=okb (iop0 P h.size (.alloc t1) ρ) h:=Zaw rfl
@[go_sem] theorem Zu1 {t1:TypeId} {x:Operand}:iop P low ⟨d,.box t1 x,t,s,a,g⟩ ρ h=okb (iop0 P h.size (.box t1 x) ρ) h:=Zaw rfl
@[go_sem] theorem ZsG {t1:TypeId} {ps:Array (Nat × Operand)}:iop P low ⟨d,.build t1 ps,t,s,a,g⟩ ρ h=okb (iop0 P h.size (.build t1 ps) ρ) h:=Zaw rfl
@[go_sem] theorem ZnI {t1:TypeId} {n:Nat} {ps:Array (Nat × Operand)}:iop P low ⟨d,.buildSlice t1 n ps,t,s,a,g⟩ ρ h=okb (iop0 P h.size (.buildSlice t1 n ps) ρ) h:=Zaw rfl
def inil (v:Value):Option Value:=match v with
 | .pointer (some a)=>some (.pointer (some a))
 | .func (.func f) a c=>some (.func (.func f) a c)
 | _=>none
@[go_sem] theorem ZtF {x:Addr}:inil (.pointer (some x))=some (.pointer (some x)):=rfl
@[go_sem] theorem ZsJ {f:FuncId} {x y:Array Value}:inil (.func (.func f) x y)=some (.func (.func f) x y):=rfl
@[go_sem] theorem Zpm {x:Operand}:iop P low ⟨d,.nilCheck x,t,s,a,g⟩ ρ h=okv (inil (ρ x)) h:=by
  rw [Zaw rfl,← Zcm]
  congr 1
  simp only [iop0]
  unfold inil
  cases ρ x with
  | pointer o=>cases o<;>rfl
  | func f a c=>cases f<;>rfl
  | _=>rfl
@[go_sem] theorem Zoo {t1:TypeId} {x y:Operand}:iop P low ⟨d,.makeSlice t1 x y,t,s,a,g⟩ ρ h=okb (Zf8 P h.size t1 (ρ x) (ρ y)) h:=Zaw rfl
def foff (P:Program) (s:TypeId) (f:Nat):Option Nat:=match Zc0 P s f with
 | some fd=>match Zaq P fd.type with
   | some n=>if n=0 then none else some fd.offset
   | none=>none
 | none=>none
def ZmV (o:Option Nat) (v:Value):Option Value:=match v with
 | .pointer (some ⟨b,i,none⟩)=>match o with
   | some k=>some (.pointer (some ⟨b,i+k,none⟩))
   | none=>none
 | _=>none
@[go_sem] theorem ZqG {k b o:Nat}:ZmV (some k) (.pointer (some ⟨b,o,none⟩))=some (.pointer (some ⟨b,o+k,none⟩)):=rfl
@[go_sem] theorem Zoq {s1:TypeId} {x:Operand} {f:Nat}:iop P low ⟨d,.fieldAddr s1 x f,t,s,a,g⟩ ρ h=okv (ZmV (foff P s1 f) (ρ x)) h:=by
  rw [Zaw rfl,← Zcm]
  congr 1
  simp only [iop0]
  unfold ZmV foff
  cases Zc0 P s1 f with
  | none =>
    cases ρ x with
    | pointer o=>cases o with
      | none=>rfl
      | some ad=>obtain ⟨b,o,z⟩:=ad;cases z<;>rfl
    | _=>rfl
  | some fd =>
    cases hv:ρ x with
    | pointer o=>cases o with
      | none=>rfl
      | some ad=>obtain ⟨b,o,z⟩:=ad;cases z with
        | none=>simp only;cases Zaq P fd.type with
          | none=>rfl
          | some n=>simp only;split<;>rfl
        | some z=>rfl
    | _=>rfl
def ZqU (P:Program) (s:TypeId) (f:Nat):Option (Bool × Nat × Nat):=match Zc0 P s f with
 | some fd=>match tagg P fd.type,Zaq P fd.type with
   | some true,some n=>some (true,fd.offset,n)
   | some false,_=>some (false,fd.offset,1)
   | _,_=>none
 | none=>none
def Zkj (o:Option (Bool × Nat × Nat)) (v:Value):Option Value:=match o,v with
 | some (true,k,n),.agg cs=>some (.agg (cs.extract k (k+n)))
 | some (false,k,_),.agg cs=>cs[k]?
 | _,_=>none
@[go_sem] theorem ZrA {k n:Nat} {cs:Array Value}:Zkj (some (false,k,n)) (.agg cs)=cs[k]? :=rfl
@[go_sem] theorem ZqF {k n:Nat} {cs:Array Value}:Zkj (some (true,k,n)) (.agg cs)=some (.agg (cs.extract k (k+n))):=rfl
@[go_sem] theorem ZsE {s1:TypeId} {x:Operand} {f:Nat}:iop P low ⟨d,.field s1 x f,t,s,a,g⟩ ρ h=okv (Zkj (ZqU P s1 f) (ρ x)) h:=by
  rw [Zaw rfl,← Zcm]
  congr 1
  simp only [iop0]
  unfold Zkj ZqU Zjn
  cases Zc0 P s1 f with
  | none=>rfl
  | some fd =>
    cases ρ x with
    | agg cs =>
      simp only
      cases tagg P fd.type with
      | none=>rfl
      | some b=>cases b<;>cases Zaq P fd.type<;>rfl
    | _ =>
      simp only
      cases tagg P fd.type with
      | none=>rfl
      | some b=>cases b<;>cases Zaq P fd.type<;>rfl
def Zhx (v:Value) (i:Nat):Option Value:=match v with
 | .tuple vs=>vs[i]?
 | _=>none
@[go_sem] theorem ZnJ {vs:Array Value} {i:Nat}:Zhx (.tuple vs) i=vs[i]? :=rfl
@[go_sem] theorem Zqw {x:Operand} {i:Nat}:iop P low ⟨d,.extract x i,t,s,a,g⟩ ρ h=okv (Zhx (ρ x) i) h:=by
  rw [Zaw rfl,← Zcm]
  congr 1
  simp only [iop0]
  unfold Zhx
  cases ρ x<;>rfl
end
end Go.Im
namespace Go.Im
section
variable {P:Program} {low:Nat} {ρ:Operand→Value} {h:Heap} {d:Option Tmp} {t:TypeId} {s:String} {a:Array Edge} {g:Option (Nat × Bool)}
inductive Elts where
 | slice (size:Nat)
 | array (n size:Nat)
 | text
def elts (P:Program) (t:TypeId):Option Elts:=match P.underlying t with
 | some (.slice e)=>(Zaq P e).map .slice
 | some (.array n e)=>(Zaq P e).map (.array n)
 | some .string=>some .text
 | _=>none
def ZoE (k:Option Elts) (x ix:Value):Option Value:=match ix with
 | .int _ i=>match k with
   | some (.slice size)=>match x with
     | .slice (some ⟨b,o,none⟩) n _=>if 0≤i∧i < n then some (.pointer (some ⟨b,o+i.toNat*size,none⟩)) else none
     | _=>none
   | some (.array n size)=>match x with
     | .pointer (some ⟨b,o,none⟩)=>if 0≤i∧i < n then some (.pointer (some ⟨b,o+i.toNat*size,none⟩)) else none
     | _=>none
   | _=>none
 | _=>none
@[go_sem] theorem ZqO {k:IntKind} {i:Int} {size b o n c:Nat}:ZoE (some (.slice size)) (.slice (some ⟨b,o,none⟩) n c) (.int k i)=if 0≤i∧i < n then some (.pointer (some ⟨b,o+i.toNat*size,none⟩)) else none:=rfl
@[go_sem] theorem ZqP {k:IntKind} {i:Int} {size b o n:Nat}:ZoE (some (.array n size)) (.pointer (some ⟨b,o,none⟩)) (.int k i)=if 0≤i∧i < n then some (.pointer (some ⟨b,o+i.toNat*size,none⟩)) else none:=rfl
@[go_sem] theorem Zop {t1:TypeId} {x y:Operand}:iop P low ⟨d,.indexAddr t1 x y,t,s,a,g⟩ ρ h=okv (ZoE (elts P t1) (ρ x) (ρ y)) h:=by
  rw [Zaw rfl,← Zcm]
  congr 1
  simp only [iop0]
  unfold ZoE elts
  generalize ρ x=v
  generalize ρ y=w
  cases hu:P.underlying t1 with
  | none=>cases w<;>rfl
  | some u =>
    cases w with
    | int k i =>
      cases u with
      | slice e =>
        cases v with
        | slice o n c=>cases o with
          | none=>(simp only;cases Zaq P e<;>rfl)
          | some ad=>obtain ⟨b,o,z⟩:=ad;cases z with
            | none=>simp only [numOf];cases Zaq P e with
              | none=>rfl
              | some n=>simp only [Option.map_some];split<;>rfl
            | some z=>(simp only;cases Zaq P e<;>rfl)
        | _=>(simp only;cases Zaq P e<;>rfl)
      | array m e =>
        cases v with
        | pointer o=>cases o with
          | none=>(simp only;cases Zaq P e<;>rfl)
          | some ad=>obtain ⟨b,o,z⟩:=ad;cases z with
            | none=>simp only [numOf];cases Zaq P e with
              | none=>rfl
              | some n=>simp only [Option.map_some];split<;>rfl
            | some z=>(simp only;cases Zaq P e<;>rfl)
        | _=>(simp only;cases Zaq P e<;>rfl)
      | _=>rfl
    | _=>cases u<;>first | rfl | (split<;>simp_all [numOf,vo])
def Zgk (s:ByteArray) (i:Int):Option Value:=if 0≤i then match s.data.toList[i.toNat]? with
    | some b=>some (.int .u8 b.toNat)
    | none=>none else none
def ZmU (P:Program) (t:TypeId) (k:Option Elts) (x ix:Value):Option Value:=match ix with
 | .int _ i=>match k with
   | some .text=>match x with
     | .string s=>Zgk s i
     | _=>none
   | some (.array n size)=>match x with
     | .agg cs=>if 0≤i∧i < n then match P.underlying t with
       | some (.array _ e)=>Zjn P e cs (i.toNat*size)
       | _=>none else none
     | _=>none
   | _=>none
 | _=>none
@[go_sem] theorem ZqE {t:TypeId} {k:IntKind} {i:Int} {s:ByteArray}:ZmU P t (some .text) (.string s) (.int k i)=Zgk s i:=rfl
@[go_sem] theorem ZsD {t1:TypeId} {x y:Operand}:iop P low ⟨d,.index t1 x y,t,s,a,g⟩ ρ h=okv (ZmU P t1 (elts P t1) (ρ x) (ρ y)) h:=by
  rw [Zaw rfl,← Zcm]
  congr 1
  simp only [iop0]
  unfold ZmU elts Zgk
  generalize ρ x=v
  generalize ρ y=w
  cases hu:P.underlying t1 with
  | none=>cases w<;>rfl
  | some u =>
    cases w with
    | int k i =>
      cases u with
      | string =>
        cases v with
        | string s =>
          simp only [numOf]
          split
          ·cases s.data.toList[i.toNat]? <;>rfl
          ·rfl
        | _=>rfl
      | array m e =>
        cases v with
        | agg cs =>
          simp only [numOf]
          cases Zaq P e with
          | none=>rfl
          | some n =>
            simp only [Option.map_some]
            split
            ·cases Zjn P e cs (i.toNat*n)<;>rfl
            ·rfl
        | _=>(simp only;cases Zaq P e<;>rfl)
      | slice e=>cases v<;>(simp only;cases Zaq P e<;>rfl)
      | _=>rfl
    | _=>cases u<;>first | rfl | (split<;>simp_all [numOf,vo])
@[go_sem] theorem ZuZ {ts:Array TypeId} {x:Array Operand}:iop P low ⟨d,.call ⟨.builtin .len,x,ts⟩,t,s,a,g⟩ ρ h=okv (Zbe P .len ts (x.toList.map ρ)) h:=by
  rw [Zaw rfl,← Zcm]
  rfl
@[go_sem] theorem ZuY {ts:Array TypeId} {x:Array Operand}:iop P low ⟨d,.call ⟨.builtin .max,x,ts⟩,t,s,a,g⟩ ρ h=okv (Zbe P .max ts (x.toList.map ρ)) h:=by
  rw [Zaw rfl,← Zcm]
  rfl
@[go_sem] theorem ZuX {ts:Array TypeId} {x:Array Operand}:iop P low ⟨d,.call ⟨.builtin .min,x,ts⟩,t,s,a,g⟩ ρ h=okv (Zbe P .min ts (x.toList.map ρ)) h:=by
  rw [Zaw rfl,← Zcm]
  rfl
def ilen (t:Option TypeDesc) (x:Value):Option Value:=match t with
 | some .string=>match x with
   | .string s=>some (.int .i64 s.size)
   | _=>none
 | some (.slice _)=>match x with
   | .slice _ n _=>some (.int .i64 n)
   | _=>none
 | some (.array n _)=>some (.int .i64 n)
 | _=>none
@[go_sem] theorem ZqC {s:ByteArray}:ilen (some .string) (.string s)=some (.int .i64 s.size):=rfl
@[go_sem] theorem Zry {e:TypeId} {x:Option Addr} {n c:Nat}:ilen (some (.slice e)) (.slice x n c)=some (.int .i64 n):=rfl
@[go_sem] theorem Zrz {e:TypeId} {x:Value} {n:Nat}:ilen (some (.array n e)) x=some (.int .i64 n):=rfl
@[go_sem] theorem ZoC {t1:TypeId} {x:Value}:Zbe P .len #[t1] [x]=ilen (P.underlying t1) x:=by
  have e:((#[t1]:Array TypeId)[0]?).bind P.underlying=P.underlying t1:=rfl
  simp only [Zbe,e]
  cases P.underlying t1 with
  | none=>rfl
  | some u=>cases u<;>cases x<;>rfl
@[go_sem] theorem ZoB {ts:Array TypeId} {l:List Value}:Zbe P .max ts l=ZbZ true l:=by
  cases l with
  | nil=>rfl
  | cons x l=>cases l<;>rfl
@[go_sem] theorem ZoA {ts:Array TypeId} {l:List Value}:Zbe P .min ts l=ZbZ false l:=by
  cases l with
  | nil=>rfl
  | cons x l=>cases l<;>rfl
@[go_sem] theorem Zru {ts:Array TypeId} {x:Array Operand}:iop P low ⟨d,.call ⟨.builtin .append,x,ts⟩,t,s,a,g⟩ ρ h=okh (ZaG P low h .append ts (x.toList.map ρ)):=rfl
@[go_sem] theorem ZtD {ts:Array TypeId} {x:Array Operand}:iop P low ⟨d,.call ⟨.builtin .copy,x,ts⟩,t,s,a,g⟩ ρ h=okh (ZaG P low h .copy ts (x.toList.map ρ)):=rfl
@[go_sem] theorem ZmZ {t1 t2:TypeId} {x y:Value}:ZaG P low h .append #[t1,t2] [x,y]=ZaC P low h #[t1,t2] x y:=rfl
def Zqq (u:Option TypeDesc) (t:TypeId) (x:Value):Option Value:=match u with
 | some (.interface _) | none=>none
 | _=>some (.iface t x)
@[go_sem] theorem Zpk {fs:Array Field} {t:TypeId} {x:Value}:Zqq (some (.struct fs)) t x=some (.iface t x):=rfl
def Zf9 (v:Value) (args:Array Value) (h:Heap):Option (Out × Heap):=match v with
 | .func (.func g) first captured=>some (.enter g (first++args++captured),h)
 | _=>none
@[go_sem] theorem Zpv {g:FuncId} {args:Array Value}:Zf9 (.func (.func g) #[] #[]) args h=some (.enter g args,h):=by
  simp [Zf9]
@[go_sem] theorem Zor {f:Operand} {ts:Array TypeId} {x:Array Operand}:iop P low ⟨d,.call ⟨.value f,x,ts⟩,t,s,a,g⟩ ρ h=Zf9 (ρ f) (x.map ρ) h:=by
  simp only [iop,Op.touches,iop1,Zf9]
  cases ρ f with
  | func fn first captured=>cases fn<;>rfl
  | _=>rfl
@[go_sem] theorem Zlb {t1:TypeId} {x y:Operand} {ok:Bool}:iop P low ⟨d,.lookup t1 x y ok,t,s,a,g⟩ ρ h=okv (Zhw P h t1 (ρ x) (ρ y) ok) h:=rfl
@[go_sem] theorem Zhs {t1:TypeId} {x y z:Operand}:iop P low ⟨d,.mapUpdate t1 x y z,t,s,a,g⟩ ρ h=oks (ZcI P low h t1 (ρ x) (ρ y) (ρ z)):=rfl
@[go_sem] theorem Zjp {t1:TypeId}:iop P low ⟨d,.makeMap t1 none,t,s,a,g⟩ ρ h=some (.val (.map (some h.size)),h.push (.map [] 0)):=rfl
@[go_sem] theorem Zrs {ts:Array TypeId} {x:Array Operand}:iop P low ⟨d,.call ⟨.builtin .delete,x,ts⟩,t,s,a,g⟩ ρ h=okh (ZaG P low h .delete ts (x.toList.map ρ)):=rfl
@[go_sem] theorem Zu0 {ts:Array TypeId} {x:Array Operand}:iop P low ⟨d,.call ⟨.builtin .cap,x,ts⟩,t,s,a,g⟩ ρ h=okh (ZaG P low h .cap ts (x.toList.map ρ)):=rfl
@[go_sem] theorem ZsF {ts:Array TypeId} {x:Array Operand}:iop P low ⟨d,.call ⟨.builtin .clear,x,ts⟩,t,s,a,g⟩ ρ h=okh (ZaG P low h .clear ts (x.toList.map ρ)):=rfl
theorem Zix {t1 e:TypeId} {x:Option Addr} {n c:Nat} (hu:P.underlying t1=some (.slice e)) (hc:c < big):ZaG P low h .cap #[t1] [.slice x n c]=some (.int .i64 c,h):=by
 have e1:((#[t1]:Array TypeId)[0]?).bind P.underlying=some (.slice e):=hu
 simp only [ZaG,e1,if_pos hc]
theorem Zgm {t1 e:TypeId} {b o n c size:Nat} {z:Value} {cs:List Value} (hu:P.underlying t1=some (.slice e)) (hs:Zaq P e=some size) (hz:Zcb P e=some z) (hg:h.get b= .cells cs size) (hl:low≤b) (hn:0 < n) (h0:0 < size) (hzs:z.cells.size=size)
  (ha:z.cells.toList.all atomic=true) (hle:o+n*size≤cs.length):ZaG P low h .clear #[t1] [.slice (some ⟨b,o,none⟩) n c]=some (.tuple #[],h.set b (.cells (splice cs o (List.replicate n z.cells.toList).flatten) size)):=by
 have e1:((#[t1]:Array TypeId)[0]?).bind P.underlying=some (.slice e):=hu
 simp only [ZaG,e1,hg,hs,hz]
 rw [if_pos ⟨hl,trivial,hn,h0,hzs,ha,hle⟩]
def ZsN (r:Option Heap):Option (Value × Heap):=match r with
 | some h=>some (.tuple #[],h)
 | none=>none
@[go_sem] theorem ZrC {h:Heap}:ZsN (some h)=some (.tuple #[],h):=rfl
@[go_sem] theorem ZmY {t1 t2:TypeId} {x y:Value}:ZaG P low h .delete #[t1,t2] [x,y]=ZsN (ZcZ P low h t1 x y):=rfl
def ZqD (P:Program) (v:Value) (name:String) (args:Array Value) (h:Heap):Option (Out × Heap):=match v with
 | .iface t x=>match Zht P t name with
   | some f=>some (.enter f (#[x]++args),h)
   | none=>none
 | _=>none
@[go_sem] theorem Zlc {f:Operand} {name:String} {ts:Array TypeId} {x:Array Operand}:iop P low ⟨d,.call ⟨.invoke f name,x,ts⟩,t,s,a,g⟩ ρ h=ZqD P (ρ f) name (x.map ρ) h:=rfl
@[go_sem] theorem Zla {t1:TypeId} {x:Operand}:iop P low ⟨d,.makeInterface t1 x,t,s,a,g⟩ ρ h=okv (Zqq (P.underlying t1) t1 (ρ x)) h:=by
  rw [Zaw rfl,← Zcm]
  congr 1
  simp only [iop0]
  unfold Zqq
  cases P.underlying t1 with
  | none=>rfl
  | some u=>cases u<;>rfl
@[go_sem] theorem ZsC {t1:TypeId} {x:Operand}:iop P low ⟨d,.range t1 x,t,s,a,g⟩ ρ h=okb (iop0 P h.size (.range t1 x) ρ) h:=Zaw rfl
@[go_sem] theorem Zpn {fn:Fn} {x y:Array Operand}:iop P low ⟨d,.makeFunc fn x y,t,s,a,g⟩ ρ h=some (.val (.func fn (x.map ρ) (y.map ρ)),h):=rfl
end
section
variable {P:Program} {t:TypeId} {k:IntKind} {x y:Int}
@[go_sem] theorem ZrP:Zaj P .add t (.int k x) (.int k y)=some (.int k (k.wrap (x+y))):=by simp [Zaj,ibin]
@[go_sem] theorem ZrG:Zaj P .sub t (.int k x) (.int k y)=some (.int k (k.wrap (x - y))):=by simp [Zaj,ibin]
@[go_sem] theorem ZrI:Zaj P .mul t (.int k x) (.int k y)=some (.int k (k.wrap (x*y))):=by simp [Zaj,ibin]
theorem Zct (hy:y≠0):Zaj P .quo t (.int k x) (.int k y)=some (.int k (k.wrap (x.tdiv y))):=by simp [Zaj,ibin,hy]
theorem ZbD (hy:y≠0):Zaj P .rem t (.int k x) (.int k y)=some (.int k (x.tmod y)):=by simp [Zaj,ibin,hy]
@[go_sem] theorem ZrO:Zaj P .eql t (.int k x) (.int k y)=some (.bool (decide (x=y))):=by
  have e:(x == y)=decide (x=y):=by rw [Bool.eq_iff_iff];simp
  simp only [Zaj,ibin,if_true,e]
@[go_sem] theorem ZrH:Zaj P .neq t (.int k x) (.int k y)=some (.bool (!decide (x=y))):=by
  have e:(x == y)=decide (x=y):=by rw [Bool.eq_iff_iff];simp
  simp only [Zaj,ibin,if_true,bne,e]
@[go_sem] theorem ZrK:Zaj P .lss t (.int k x) (.int k y)=some (.bool (decide (x < y))):=by simp [Zaj,ibin]
@[go_sem] theorem ZrL:Zaj P .leq t (.int k x) (.int k y)=some (.bool (decide (x≤y))):=by simp [Zaj,ibin]
@[go_sem] theorem ZrM:Zaj P .gtr t (.int k x) (.int k y)=some (.bool (decide (y < x))):=by simp [Zaj,ibin]
@[go_sem] theorem ZrN:Zaj P .geq t (.int k x) (.int k y)=some (.bool (decide (y≤x))):=by simp [Zaj,ibin]
theorem Znt {s u:ByteArray}:s.toList=u.toList↔s=u:=by
 constructor
 ·intro h
  rw [ByteArray.toList_eq,ByteArray.toList_eq] at h
  cases s
  cases u
  congr 1
  exact Array.toList_inj.1 h
 ·intro h
  rw [h]
theorem bytes_beq {s u:ByteArray}:(s.toList == u.toList)=decide (s=u):=by
 rw [Bool.eq_iff_iff]
 simp [Znt]
variable {s u:ByteArray}
@[go_sem] theorem ZqL:Zaj P .eql t (.string s) (.string u)=some (.bool (decide (s=u))):=by
  simp only [Zaj,ibin,bytes_beq]
@[go_sem] theorem ZqK:Zaj P .neq t (.string s) (.string u)=some (.bool (!decide (s=u))):=by
  simp only [Zaj,ibin,bytes_beq]
theorem ZeN (hs:s.size+u.size≤9223372036854775807):Zaj P .add t (.string s) (.string u)=some (.string (s++u)):=by simp [Zaj,ibin,hs]
end
def Wr (P:Program) (rs:List ResultVar) (Q:Value→Heap→Prop) (e:Env) (h:Heap):Prop:=match ZaP P e h rs with
 | some [v]=>Q v h
 | some vs=>Q (.tuple vs.toArray) h
 | none=>False
theorem Does.intro {K:Cfg} {low:Nat} {f:FuncId} {fn:Func} {c:Code} {args:Array Value} {h:Heap} {Q:Value→Heap→Prop} (hxx:K.ext f=none) (hok:K.ok f=true) (hf:K.P.funcs[f]? =some fn) (hc:fn.body=some c)
  (H:W K low f [.code c] (Env.start fn.ntmps args.toList) h (Wr K.P fn.results.toList Q)):Does K low f args h Q:=by
 obtain ⟨n,e1,h1,hg,hq⟩:=H
 obtain ⟨m,x,e2,h2,he,ha⟩:=ZcJ n n (Nat.le_refl _) hg
 have hx:(x= .normal∨x= .ret)∧e2=e1∧h2=h1:=by
  cases x with
  | normal =>
    obtain ⟨k,hk,hk2⟩:=ha
    cases k with
    | zero=>simp [go] at hk2
    | succ k =>
      simp only [go,Option.some.injEq,Prod.mk.injEq] at hk2
      exact ⟨.inl rfl,hk2.1,hk2.2⟩
  | ret =>
    simp only [after,Prod.mk.injEq] at ha
    exact ⟨.inr rfl,ha.1.symm,ha.2.symm⟩
  | exit id =>
    obtain ⟨fs',hu,_⟩:=ha
    simp [unwind] at hu
 obtain ⟨hx,rfl,rfl⟩:=hx
 have hr:∃ v,Zdj K.P fn e2 h2=some v∧Q v h2:=by
  simp only [Wr] at hq
  simp only [Zdj]
  split at hq
  ·rename_i hl
   rw [hl]
   exact ⟨_,rfl,hq⟩
  ·rename_i vs hne hl
   rw [hl]
   split
   ·rename_i v heq
    cases heq
    exact absurd rfl (hne v)
   ·rename_i heq
    cases heq
    exact ⟨_,rfl,hq⟩
   ·rename_i heq
    cases heq
  ·exact hq.elim
 obtain ⟨v,hv,hq⟩:=hr
 refine ⟨m+1,v,h2,?_,hq⟩
 simp only [Zbk,hok,if_true,hf,hc]
 rw [hxx]
 rcases hx with rfl | rfl
 ·simp only [he,hv]
 ·simp only [he,hv]
@[go_sem] theorem ZmL {P:Program} {e:Env} {h:Heap}:ZaP P e h []=some []:=rfl
end Go.Im
namespace Go.Im
theorem Zil {P:Program} {low low':Nat} (hl:low'≤low) {h h':Heap} {t:TypeId} {a v:Value} (H:Zcq P low h t a v=some h'):Zcq P low' h t a v=some h':=by
 unfold Zcq at H ⊢
 split at H
 ·split at H
  ·split at H
   ·rename_i hc
    rw [if_pos ⟨by omega,hc.2⟩]
    exact H
   ·cases H
  ·cases H
 ·cases H
theorem Zk8 {low low':Nat} (hl:low'≤low) {h h':Heap} {size k:Nat} {new:List Value} {s v:Value} (H:iput low h size s k new=some (v,h')):iput low' h size s k new=some (v,h'):=by
 unfold iput at H ⊢
 split at H
 ·exact H
 ·split at H
  ·split at H
   ·cases H
   ·rename_i h1
    rw [if_neg h1]
    split at H
    ·rename_i h2
     rw [if_pos h2]
     split at H
     ·rename_i h3
      rw [if_pos h3]
      split at H
      ·rename_i h4
       rw [if_pos ⟨by omega,h4.2⟩]
       exact H
      ·cases H
     ·rename_i h3
      rw [if_neg h3]
      exact H
    ·rename_i h2
     rw [if_neg h2]
     split at H
     ·rename_i h3
      rw [if_pos ⟨h3.1,by omega⟩]
      exact H
     ·cases H
  ·cases H
 ·cases H
theorem Zhy {P:Program} {low low':Nat} (hl:low'≤low) {h h':Heap} {ts:Array TypeId} {s x v:Value} (H:ZaC P low h ts s x=some (v,h')):ZaC P low' h ts s x=some (v,h'):=by
 unfold ZaC at H ⊢
 split at H
 ·split at H
  ·split at H
   ·split at H
    ·cases H
    ·rename_i h1
     rw [if_neg h1]
     split at H
     ·rename_i h2
      rw [if_pos h2]
      exact H
     ·rename_i h2
      rw [if_neg h2]
      exact Zk8 hl H
   ·cases H
  ·cases H
 ·cases H
theorem Zhu {P:Program} {low low':Nat} (hl:low'≤low) {h h':Heap} {t:TypeId} {m k v:Value} (H:ZcI P low h t m k v=some h'):ZcI P low' h t m k v=some h':=by
 unfold ZcI at H ⊢
 split at H
 ·split at H
  ·split at H
   ·rename_i hc
    rw [if_pos Ya]
    exact H
   ·cases H
  ·cases H
 ·cases H
theorem Zhv {P:Program} {low low':Nat} (hl:low'≤low) {h h':Heap} {t:TypeId} {m k:Value} (H:ZcZ P low h t m k=some h'):ZcZ P low' h t m k=some h':=by
 unfold ZcZ at H ⊢
 split at H
 ·exact H
 ·split at H
  ·split at H
   ·rename_i hc
    rw [if_pos Ya]
    exact H
   ·cases H
  ·cases H
 ·cases H
theorem Zgl {P:Program} {low low':Nat} (hl:low'≤low) {h h':Heap} {b:Builtin} {ts:Array TypeId} {args:List Value} {v:Value} (H:ZaG P low h b ts args=some (v,h')):ZaG P low' h b ts args=some (v,h'):=by
 unfold ZaG at H ⊢
 split at H
 ·split at H
  ·rename_i h1
   rw [if_pos h1]
   exact Zhy hl H
  ·cases H
 ·split at H
  ·split at H
   ·split at H
    ·split at H
     ·rename_i hc
      rw [if_pos ⟨by omega,hc.2⟩]
      exact H
     ·cases H
    ·cases H
   ·cases H
  ·cases H
 ·exact H
 ·split at H
  ·split at H
   ·split at H
    ·rename_i hc
     rw [if_pos ⟨by omega,hc.2⟩]
     exact H
    ·cases H
   ·cases H
  ·cases H
 ·split at H
  ·split at H
   ·rename_i hd
    rw [Zhv hl hd]
    exact H
   ·cases H
  ·cases H
 ·cases H
theorem Zjs {P:Program} {low low':Nat} (hl:low'≤low) {h h':Heap} {s d:TypeId} {x v:Value} (H:ZdH P low h s d x=some (v,h')):ZdH P low' h s d x=some (v,h'):=by
 unfold ZdH at H ⊢
 split at H
 ·split at H
  ·rename_i hsd
   rw [if_pos hsd]
   unfold Ziq at H ⊢
   split at H
   ·split at H
    ·split at H
     ·rename_i hc
      rw [if_pos ⟨by omega,hc.2⟩]
      exact H
     ·cases H
    ·cases H
   ·cases H
  ·rename_i hsd
   rw [if_neg hsd]
   exact H
 ·exact H
theorem ZmO {P:Program} {low low':Nat} (hl:low'≤low) {o:Oper} {ρ:Operand→Value} {h:Heap} {r:Out × Heap} (H:iop P low o ρ h=some r):iop P low' o ρ h=some r:=by
 cases hw:writes (some []) o.op with
 | false=>rw [← Zjq hw low'];exact H
 | true =>
   obtain ⟨dst,op,ty,pos,after,guard⟩:=o
   cases op with
   | store t a x =>
     rw [ZmN] at H ⊢
     cases hs:Zcq P low h t (ρ a) (ρ x) with
     | none=>rw [hs] at H;cases H
     | some h'=>rw [hs] at H;rw [Zil hl hs];exact H
   | convert s1 d1 x =>
     simp only [iop,Op.touches,iop1,if_true] at H ⊢
     split at H
     ·rename_i v g hv
      rw [Zjs hl hv]
      exact H
     ·cases H
   | lookup t x k ok=>rw [Zlb] at H ⊢;exact H
   | makeMap t r =>
     cases r with
     | none=>rw [Zjp] at H ⊢;exact H
     | some r=>simp [iop,Op.touches,iop1] at H
   | mapUpdate t m k x =>
     rw [Zhs] at H ⊢
     cases hs:ZcI P low h t (ρ m) (ρ k) (ρ x) with
     | none=>rw [hs] at H;cases H
     | some h'=>rw [hs] at H;rw [Zhu hl hs];exact H
   | next it b =>
     cases b with
     | false=>simp [iop,Op.touches,iop1] at H
     | true =>
       simp only [iop,Op.touches,iop1,if_true] at H ⊢
       split at H
       ·split at H
        ·split at H
         ·rename_i h1
          rw [if_pos Ya]
          exact H
         ·cases H
        ·cases H
       ·cases H
   | call c =>
     obtain ⟨cal,args,ts⟩:=c
     cases cal with
     | builtin b =>
       cases htc:Op.touches (.call ⟨.builtin b,args,ts⟩) with
       | false =>
         rw [Zaw htc] at H ⊢
         exact H
       | true =>
         simp only [iop,htc,if_true,iop1] at H ⊢
         split at H
         ·rename_i x hh hb
          rw [Zgl hl hb]
          exact H
         ·cases H
     | value f=>rw [Zor] at H ⊢;exact H
     | invoke f name=>rw [Zlc] at H ⊢;exact H
   | _=>first | (simp [writes] at hw;done) | (simp [iop,Op.touches,iop1] at H;done)
theorem Zbw {P:Program} {low low':Nat} (hl:low'≤low) {p:Pu} {c:Nat→FuncId→Array Value→Heap→Option (Value × Heap)} (hc:∀ f a h r,c low f a h=some r→c low' f a h=some r) {ops:Array Oper} :
  ∀ {rest:List Oper} {e:Env} {h:Heap} {r:Env × Heap},ZaB P low p c ops rest e h=some r→ZaB P low' p c ops rest e h=some r
 | [],e,h,r,H=>by simpa [ZaB] using H
 | o::rest,e,h,r,H=>by
   simp only [ZaB] at H ⊢
   cases hw:ZaR ops o e with
   | none=>rw [hw] at H;cases H
   | some b =>
     rw [hw] at H
     cases b with
     | false=>exact Zbw hl hc H
     | true =>
       simp only at H ⊢
       cases hi:iop P low o e.eval h with
       | none=>rw [hi] at H;cases H
       | some x =>
         rw [hi] at H
         rw [ZmO hl hi]
         obtain ⟨out,h1⟩:=x
         cases out with
         | val v=>exact Zbw hl hc H
         | skip=>exact Zbw hl hc H
         | enter f args =>
           simp only at H ⊢
           cases hcc:c (if p.of o.op then h1.size else low) f args h1 with
           | none=>rw [hcc] at H;cases H
           | some y =>
             rw [hcc] at H
             have:c (if p.of o.op then h1.size else low') f args h1=some y:=by
              cases hpb:p.of o.op with
              | true=>rw [hpb] at hcc;exact hcc
              | false=>rw [hpb] at hcc;exact hc _ _ _ _ hcc
             rw [this]
             exact Zbw hl hc H
theorem ZgU {K:Cfg} (hK:CfgOK K) {low low':Nat} (hl:low'≤low):∀ n,(∀ f c e h r,ZaJ K n low f c e h=some r→ZaJ K n low' f c e h=some r)∧(∀ f a h r,Zbk K n low f a h=some r→Zbk K n low' f a h=some r)
 | 0=>by
   constructor
   ·intro f c e h r H
    simp [ZaJ] at H
   ·intro f a h r H
    simp [Zbk] at H
 | n+1=>by
   obtain ⟨ihE,ihC⟩:=ZgU hK hl n
   constructor
   ·intro f c e h r H
    unfold ZaJ at H ⊢
    cases c with
    | region id ops draw =>
      simp only at H ⊢
      split at H
      ·rename_i hr
       rw [Zbw hl ihC hr]
       split at H
       ·rename_i hd
        simp only [hd,if_true]
        exact H
       ·cases H
      ·cases H
    | seq a b =>
      simp only at H ⊢
      split at H
      ·rename_i he
       rw [ihE _ _ _ _ _ he]
       exact ihE _ _ _ _ _ H
      ·rename_i r' hne
       rw [ihE _ _ _ _ _ H]
       split
       ·rename_i e1 h1 heq
        exact absurd (H.trans heq) (hne e1 h1)
       ·rfl
    | cond c a b =>
      simp only at H ⊢
      split at H
      ·exact ihE _ _ _ _ _ H
      ·exact ihE _ _ _ _ _ H
      ·cases H
    | block id b =>
      simp only at H ⊢
      split at H
      ·rename_i he
       rw [ihE _ _ _ _ _ he]
       exact H
      ·rename_i r' hne
       rw [ihE _ _ _ _ _ H]
       split
       ·rename_i id' e1 h1 heq
        exact absurd (H.trans heq) (hne id' e1 h1)
       ·rfl
    | loop b =>
      simp only at H ⊢
      split at H
      ·rename_i he
       rw [ihE _ _ _ _ _ he]
       exact ihE _ _ _ _ _ H
      ·rename_i r' hne
       rw [ihE _ _ _ _ _ H]
       split
       ·rename_i e1 h1 heq
        exact absurd (H.trans heq) (hne e1 h1)
       ·rfl
    | scope b=>exact ihE _ _ _ _ _ H
    | _=>exact H
   ·intro f a h r H
    unfold Zbk at H ⊢
    cases hx:K.ext f with
    | some g =>
      rw [hx] at H
      have h1:=hK.lower low low' f a h r hl (by simp only [Cfg.known,hx];exact H)
      simp only [Cfg.known,hx] at h1
      exact h1
    | none =>
    rw [hx] at H
    simp only at H ⊢
    split at H
    ·rename_i hok
     rw [if_pos hok]
     split at H
     ·rename_i fn hf
      try rw [hf]
      try simp only
      split at H
      ·rename_i c hb
       try rw [hb]
       try simp only
       split at H
       ·rename_i he
        rw [ihE _ _ _ _ _ he]
        exact H
       ·rename_i he
        rw [ihE _ _ _ _ _ he]
        exact H
       ·cases H
      ·cases H
     ·cases H
    ·cases H
def Ext (h h':Heap):Prop:=h.size≤h'.size∧∀ b,b < h.size→h'.get b=h.get b
theorem Ext.refl (h:Heap):Ext h h:=⟨Nat.le_refl _,fun _ _=>rfl⟩
theorem Ext.trans {a b c:Heap} (h:Ext a b) (k:Ext b c):Ext a c:=⟨Nat.le_trans h.1 k.1,fun i hi=>(k.2 i (by have:=h.1;omega)).trans (h.2 i hi)⟩
theorem Ext.push {h h':Heap} (k:Ext h h') (x:Blk):Ext h (h'.push x):=⟨by simp;have:=k.1;omega,fun b hb=>by rw [Heap.Zam,if_neg (by have:=k.1;omega)];exact k.2 b hb⟩
theorem Ext.set {h h':Heap} (k:Ext h h') {b:Nat} (hb:h.size≤b) (x:Blk):Ext h (h'.set b x):=⟨by simp;exact k.1,fun i hi=>by rw [Heap.Zae,if_neg Ya];exact k.2 i hi⟩
def Runs (K:Cfg) (f:FuncId) (args:Array Value) (h:Heap) (Q:Value→Heap→Prop):Prop:=Does K h.size f args h fun v h'=>Ext h h'∧Q v h'
theorem Runs.of {K:Cfg} (hK:CfgOK K) {f:FuncId} {args:Array Value} {h:Heap} {Q:Value→Heap→Prop} (H:Does K h.size f args h Q):Runs K f args h Q:=by
 obtain ⟨n,v,h',hi,hq⟩:=H
 obtain ⟨k1,k2⟩:=(sound hK n).2.keeps (Nat.le_refl _) hi
 exact ⟨n,v,h',hi,⟨k1,k2⟩,hq⟩
theorem Does.lower {K:Cfg} (hK:CfgOK K) {low low':Nat} (hl:low'≤low) {f:FuncId} {args:Array Value} {h:Heap} {Q:Value→Heap→Prop} (H:Does K low f args h Q):Does K low' f args h Q:=by
 obtain ⟨n,v,h',hi,hq⟩:=H
 exact ⟨n,v,h',(ZgU hK hl n).2 _ _ _ _ hi,hq⟩
section
variable {K:Cfg} {low:Nat} {f:FuncId} {fs:List Fr} {e:Env} {h:Heap} {Q:Env→Heap→Prop} {p:Pu} {pb:Bool} {all:Array Oper} {d:Option Tmp} {rest:List Oper}
theorem Zaa (hK:CfgOK K) (hl:low≤h.size) {g:FuncId} {args:Array Value} {R:Value→Heap→Prop} (H:Runs K g args h R) (hq:∀ v h',Ext h h'→R v h'→W K low f (.ops p all rest::fs) (e.put d v) h' Q) :
  Wo K low f p pb all d rest fs e h Q (some true) (some (.enter g args,h)):=by
 rw [ZkB]
 have H2:Does K (if pb then h.size else low) g args h fun v h'=>Ext h h'∧R v h':=by
  cases pb with
  | true=>exact H
  | false=>exact Does.lower hK hl H
 exact H2.mono fun v h' ⟨hx,hr⟩=>hq v h' hx hr
theorem ZaW (hp:pb=false) {g:FuncId} {args:Array Value} {R:Value→Heap→Prop} (H:Does K low g args h R) (hq:∀ v h',R v h'→W K low f (.ops p all rest::fs) (e.put d v) h' Q) :
  Wo K low f p pb all d rest fs e h Q (some true) (some (.enter g args,h)):=by
 rw [ZkB,hp]
 exact H.mono fun v h' hr=>hq v h' hr
theorem Za1 {α:Type} (J:α→Env→Heap→Prop) {X:Prop} (h1:(∀ a e h,J a e h→W K low f fs e h Q)→X) (h2:∀ a e h,J a e h→W K low f fs e h Q):X:=h1 h2
theorem Zah {α:Type} {b:Code} (I:α→Env→Heap→Prop) (m:α→Nat) (a:α) (h0:I a e h)
  (H:∀ a e h,I a e h→(∀ a' e' h',I a' e' h'→m a' < m a→W K low f (.code (.loop b)::fs) e' h' Q)→W K low f (.code b:: .loop b::fs) e h Q):W K low f (.code (.loop b)::fs) e h Q:=by
 generalize hn:m a=n
 induction n using Nat.strongRecOn generalizing a e h with
 | ind n ih =>
   subst hn
   rw [Za8]
   exact H a e h h0 fun a' e' h' hi hm=>ih (m a') hm a' hi rfl
end
end Go.Im
namespace Go.Im
attribute [go_sem] Heap.Zam Heap.Zae Heap.size_set Heap.size_push List.length_cons List.length_nil Bool.false_and Bool.true_and Bool.false_eq_true Bool.not_true Bool.not_false if_true if_false List.map_cons List.map_nil Option.map_some Option.map_none decide_true decide_false List.getElem?_cons_zero List.getElem?_cons_succ List.getElem?_toArray List.getElem?_nil Bool.or_true Bool.or_false Bool.true_or Bool.false_or Bool.and_true Bool.and_false true_and and_true List.all_cons List.all_nil List.append_nil List.nil_append Int.toNat_one Int.toNat_zero Int.toNat_natCast Nat.add_sub_cancel Nat.le_add_left List.take_length Nat.mul_one Nat.one_mul Nat.zero_mul Nat.mul_zero Nat.add_zero Nat.zero_add List.map_toArray List.extract_toArray List.size_toArray Nat.le_refl Nat.le_add_right List.take_zero List.drop_zero List.take_succ_cons List.drop_succ_cons List.take_nil List.drop_nil List.cons_append
@[go_sem] theorem Zte {xs:Array Value}:(Value.agg xs).cells=xs:=rfl
@[go_sem] theorem Ztd {k:IntKind} {n:Int}:(Value.int k n).cells= #[.int k n]:=rfl
@[go_sem] theorem ZrU {b:Bool}:(Value.bool b).cells= #[.bool b]:=rfl
@[go_sem] theorem ZpG {s:ByteArray}:(Value.string s).cells= #[.string s]:=rfl
@[go_sem] theorem Zq7 {a:Option Addr} {n c:Nat}:(Value.slice a n c).cells= #[.slice a n c]:=rfl
@[go_sem] theorem ZoW {a:Option Addr}:(Value.pointer a).cells= #[.pointer a]:=rfl
@[go_sem] theorem Ztc {a:Option Nat}:(Value.map a).cells= #[.map a]:=rfl
@[go_sem] theorem cells_func {f:Fn} {a b:Array Value}:(Value.func f a b).cells= #[.func f a b]:=rfl
@[go_sem] theorem Zq8 {t:TypeId} {v:Value}:(Value.iface t v).cells= #[.iface t v]:=rfl
@[go_sem] theorem ZrW {k:IntKind} {n:Int}:Zal (.int k n)=true:=rfl
@[go_sem] theorem Zrb {b:Bool}:Zal (.bool b)=true:=rfl
@[go_sem] theorem ZoX {s:ByteArray}:Zal (.string s)=true:=rfl
@[go_sem] theorem ZpI {a:Option Addr} {n c:Nat}:Zal (.slice a n c)=true:=rfl
@[go_sem] theorem ZnL {a:Option Addr}:Zal (.pointer a)=true:=rfl
@[go_sem] theorem ZrV {a:Option Nat}:Zal (.map a)=true:=rfl
@[go_sem] theorem Zra {f:Fn} {a b:Array Value}:Zal (.func f a b)=true:=rfl
@[go_sem] theorem ZpJ {t:TypeId} {v:Value}:Zal (.iface t v)=true:=rfl
def ZbL (P:Program) (t:TypeId):Option (List Value × Nat):=match Zcb P t,Zaq P t with
 | some z,some n=>if 0 < n∧z.cells.size=n∧z.cells.toList.all atomic=true then some (z.cells.toList,n) else none
 | _,_=>none
def mkb (sz:Nat) (c:Option (List Value × Nat)):Option (Value × Option Blk):=match c with
 | some (cs,n)=>some (.pointer (some ⟨sz,0,none⟩),some (.cells cs n))
 | none=>none
@[go_sem] theorem Ztt {sz n:Nat} {cs:List Value}:mkb sz (some (cs,n))=some (.pointer (some ⟨sz,0,none⟩),some (.cells cs n)):=rfl
@[go_sem] theorem Zrx {P:Program} {sz:Nat} {t:TypeId} {ρ:Operand→Value}:iop0 P sz (.alloc t) ρ=mkb sz (ZbL P t):=by
  simp only [iop0]
  unfold ZbL
  cases Zcb P t with
  | none=>rfl
  | some z=>cases Zaq P t with
    | none=>rfl
    | some n=>simp only;split<;>rfl
def ibox (sz:Nat) (n:Option Nat) (cs:List Value):Option (Value × Option Blk):=match n with
 | some n=>if 0 < n∧cs.length=n∧cs.all Zal=true then some (.pointer (some ⟨sz,0,none⟩),some (.cells cs n)) else none
 | none=>none
@[go_sem] theorem ZsS {sz n:Nat} {cs:List Value}:ibox sz (some n) cs=if 0 < n∧cs.length=n∧cs.all Zal=true then some (.pointer (some ⟨sz,0,none⟩),some (.cells cs n)) else none:=rfl
@[go_sem] theorem ZtE {P:Program} {sz:Nat} {t:TypeId} {x:Operand} {ρ:Operand→Value}:iop0 P sz (.box t x) ρ=ibox sz (Zaq P t) (ρ x).cells.toList:=by
  simp only [iop0,ibox,Array.length_toList]
  rfl
def Zba (P:Program) (t:TypeId):Option (Option Nat):=match tagg P t with
 | some true=>(Zaq P t).map some
 | some false=>some none
 | none=>none
def ild (k:Option (Option Nat)) (b:Blk) (o:Nat):Option Value:=match b with
 | .cells cs _=>match k with
   | some none=>cs[o]?
   | some (some n)=>if o+n≤cs.length then some (.agg ((cs.drop o).take n).toArray) else none
   | none=>none
 | _=>none
@[go_sem] theorem Zu3 {cs:List Value} {esz o:Nat}:ild (some none) (.cells cs esz) o=cs[o]? :=rfl
@[go_sem] theorem ZtH {cs:List Value} {esz o n:Nat}:ild (some (some n)) (.cells cs esz) o=if o+n≤cs.length then some (.agg ((cs.drop o).take n).toArray) else none:=rfl
@[go_sem] theorem Zro {cs:List Value} {esz:Nat}:(Blk.cells cs esz).read= .cells cs esz:=rfl
@[go_sem] theorem Zrn {cs:List Value} {esz:Nat}:(Blk.fixed cs esz).read= .cells cs esz:=rfl
@[go_sem] theorem ZtG {P:Program} {h:Heap} {t:TypeId} {b o:Nat}:Zej P h t (.pointer (some ⟨b,o,none⟩))=ild (Zba P t) (h.get b).read o:=by
  simp only [Zej,ild,Zba,Heap.look]
  cases (h.get b).read with
  | cells cs esz =>
    cases tagg P t with
    | none=>rfl
    | some x=>cases x with
      | false=>rfl
      | true=>cases Zaq P t<;>rfl
  | _=>rfl
def ist (low:Nat) (n:Option Nat) (h:Heap) (b o:Nat) (k:Blk) (vs:List Value):Option Heap:=match k with
 | .cells cs esz=>if low≤b∧n=some vs.length∧o+vs.length≤cs.length∧vs.all Zal=true then some (h.set b (.cells (splice cs o vs) esz)) else none
 | _=>none
@[go_sem] theorem Zsx {low b o esz:Nat} {n:Option Nat} {h:Heap} {cs vs:List Value}:ist low n h b o (.cells cs esz) vs=if low≤b∧n=some vs.length∧o+vs.length≤cs.length∧vs.all Zal=true then some (h.set b (.cells (splice cs o vs) esz)) else none:=rfl
@[go_sem] theorem Zsw {P:Program} {low:Nat} {h:Heap} {t:TypeId} {b o:Nat} {v:Value}:Zcq P low h t (.pointer (some ⟨b,o,none⟩)) v=ist low (Zaq P t) h b o (h.get b) v.cells.toList:=by
  simp only [Zcq,ist,Array.length_toList]
  rfl
@[go_sem] theorem Zr8 {cs vs:List Value} {o:Nat}:splice cs o vs=cs.take o++vs++cs.drop (o+vs.length):=rfl
def Za2 (P:Program) (t:TypeId) (parts:List (Nat × Value)):Option Value:=match Zcb P t with
 | some z=>if z.cells.toList.all atomic=true∧parts.all (fun p=>p.2.cells.toList.all Zal)=true then (P.built t parts).map .agg else none
 | none=>none
@[go_sem] theorem Zrw {P:Program} {sz:Nat} {t:TypeId} {ps:Array (Nat × Operand)} {ρ:Operand→Value}:iop0 P sz (.build t ps) ρ=vo (Za2 P t (ps.toList.map fun p=>(p.1,ρ p.2))):=by
  have e1:(ps.map fun (i,x)=>(i,ρ x)).toList=ps.toList.map fun p=>(p.1,ρ p.2):=Yp
  have e2:(ps.toList.map fun p=>(p.1,ρ p.2)).all (fun p=>p.2.cells.toList.all Zal)=ps.toList.all (fun p=>(ρ p.2).cells.toList.all Zal):=by simp [List.all_map,Function.comp_def]
  simp only [iop0,Za2,e2]
  cases Zcb P t with
  | none=>rfl
  | some z =>
    simp only
    split
    ·rw [e1];cases P.built t _<;>rfl
    ·rfl
def ZqJ (a:Option Value) (l:Option (List Value)):Option (List Value):=match a,l with
 | some v,some vs=>some (v::vs)
 | _,_=>none
@[go_sem] theorem ZrD {v:Value} {vs:List Value}:ZqJ (some v) (some vs)=some (v::vs):=rfl
@[go_sem] theorem Zlp {P:Program} {e:Env} {h:Heap} {r:ResultVar} {rs:List ResultVar}:ZaP P e h (r::rs)=ZqJ (ZdG P e h r) (ZaP P e h rs):=by
  simp only [ZaP,ZqJ]
  rfl
@[go_sem] theorem Zqs {P:Program} {e:Env} {h:Heap} {t:Nat}:ZdG P e h (.tmp t)=some (e.get t):=rfl
@[go_sem] theorem Zpl {P:Program} {e:Env} {h:Heap} {a:Nat} {t:TypeId}:ZdG P e h (.cell a t)=Zej P h t (e.get a):=rfl
def Wrl (vs:Option (List Value)) (Q:Value→Heap→Prop) (h:Heap):Prop:=match vs with
 | some [v]=>Q v h
 | some vs=>Q (.tuple vs.toArray) h
 | none=>False
@[go_sem] theorem ZxN {P:Program} {rs:List ResultVar} {Q:Value→Heap→Prop} {e:Env} {h:Heap}:Wr P rs Q e h↔Wrl (ZaP P e h rs) Q h:=Iff.rfl
@[go_sem] theorem Zuy {Q:Value→Heap→Prop} {h:Heap}:Wrl (some []) Q h↔Q (.tuple #[]) h:=Iff.rfl
@[go_sem] theorem ZvU {Q:Value→Heap→Prop} {h:Heap} {v:Value}:Wrl (some [v]) Q h↔Q v h:=Iff.rfl
@[go_sem] theorem ZvT {Q:Value→Heap→Prop} {h:Heap} {v w:Value} {vs:List Value}:Wrl (some (v::w::vs)) Q h↔Q (.tuple (v::w::vs).toArray) h:=Iff.rfl
def gs:List Oper→Nat→Option Tmp
 | [],_=>none
 | o::_,0=>o.dst
 | _::l,j+1=>gs l j
@[go_sem] theorem ZtJ {l:List Oper} {j:Nat}:ZoG l.toArray j=gs l j:=by
  simp only [ZoG,List.getElem?_toArray]
  induction l generalizing j with
  | nil=>rfl
  | cons o l ih=>cases j with
    | zero=>rfl
    | succ j=>simpa [gs] using ih
@[go_sem] theorem Zu5 {o:Oper} {l:List Oper}:gs (o::l) 0=o.dst:=rfl
@[go_sem] theorem Zu6 {o:Oper} {l:List Oper} {j:Nat}:gs (o::l) (j+1)=gs l j:=rfl
theorem Ze8:∀ (vs:List Value) (k off:Nat) (c:Array Value),off+k+vs.length≤c.size →
  ((vs.zipIdx k).foldl (fun (cs:Array Value) (x:Value × Nat)=>cs.setIfInBounds (off+x.2) x.1) c).toList=splice c.toList (off+k) vs
 | [],k,off,c,h=>by simp [splice]
 | v::vs,k,off,c,h=>by
   simp only [List.zipIdx_cons,List.foldl_cons]
   rw [Ze8 vs (k+1) off _ (by simp at h ⊢;omega)]
   simp only [Array.toList_setIfInBounds,splice]
   have h1:off+k < c.toList.length:=by simp at h ⊢;omega
   have e1:(c.toList.set (off+k) v).take (off+(k+1))=c.toList.take (off+k)++[v]:=by
    rw [show off+(k+1)=(off+k)+1 by omega,List.take_set,List.take_succ_eq_append_getElem h1]
    rw [List.set_append_right _ _ Yl]
    have h2:off+k - min (off+k) c.size=0:=by simp at h1;omega
    simp [h2]
   have e2:(c.toList.set (off+k) v).drop (off+(k+1)+vs.length)=c.toList.drop (off+k+(vs.length+1)):=by
    rw [List.drop_set_of_lt Ya]
    congr 1
    omega
   rw [e1,e2]
   simp
def ZdU (place:Nat→Option (Nat × Nat)) (cs:List Value):List (Nat × Value)→Option (List Value)
 | []=>some cs
 | (i,v)::rest=>match place i with
   | none=>none
   | some (off,size)=>if v.cells.toList.length=size∧off+size≤cs.length then ZdU place (splice cs off v.cells.toList) rest else none
theorem fill_eq (place:Nat→Option (Nat × Nat)):∀ (ps:List (Nat × Value)) (c:Array Value),Instr.fill place c ps=(ZdU place c.toList ps).map List.toArray
 | [],c=>by simp [Instr.fill,ZdU]
 | (i,v)::ps,c=>by
   simp only [Instr.fill,ZdU]
   cases place i with
   | none=>rfl
   | some p =>
     obtain ⟨off,size⟩:=p
     simp only [Array.length_toList]
     by_cases h1:v.cells.size=size
     ·by_cases h2:off+v.cells.size≤c.size
      ·rw [if_neg (by simp [h1];omega),if_pos ⟨h1,by omega⟩,fill_eq place ps]
       congr 2
       rw [← Array.foldl_toList,Array.toList_zipIdx]
       exact Ze8 _ 0 off c (by simpa using h2)
      ·rw [if_pos Yl,if_neg Ya]
       rfl
     ·rw [if_pos (by simp [h1]),if_neg (by simp [h1])]
      rfl
@[go_sem] theorem Zr9 {place:Nat→Option (Nat × Nat)} {cs:List Value}:ZdU place cs []=some cs:=rfl
def sfil (p:Option (Nat × Nat)) (place:Nat→Option (Nat × Nat)) (cs vs:List Value) (rest:List (Nat × Value)):Option (List Value):=match p with
    | none=>none
    | some (off,size)=>if vs.length=size∧off+size≤cs.length then ZdU place (splice cs off vs) rest else none
@[go_sem] theorem Zrm {place:Nat→Option (Nat × Nat)} {cs:List Value} {i:Nat} {v:Value} {rest:List (Nat × Value)}:ZdU place cs ((i,v)::rest)=sfil (place i) place cs v.cells.toList rest:=rfl
@[go_sem] theorem Zsa {place:Nat→Option (Nat × Nat)} {cs vs:List Value} {off size:Nat} {rest:List (Nat × Value)}:sfil (some (off,size)) place cs vs rest=if vs.length=size∧off+size≤cs.length then ZdU place (splice cs off vs) rest else none:=rfl
def lay (P:Program) (t:TypeId):Option (List (Nat × Nat) × List Value):=match P.info? t,P.underlying t with
 | some it,some (.struct fields)=>match it.zero,fields.toList.mapM (fun f=>(P.info? f.type).map fun i=>(f.offset,i.size)) with
   | some z,some places=>if z.cells.toList.all atomic=true then some (places,z.cells.toList) else none
   | _,_=>none
 | _,_=>none
def blt (pl:List (Nat × Nat)) (z:List Value) (parts:List (Nat × Value)):Option Value :=
 if parts.all (fun p=>p.2.cells.toList.all Zal)=true then (ZdU (fun i=>pl[i]?) z parts).map fun cs=> .agg cs.toArray else none
@[go_sem] theorem blt_eq {pl:List (Nat × Nat)} {z:List Value} {parts:List (Nat × Value)}:blt pl z parts=if parts.all (fun p=>p.2.cells.toList.all Zal)=true then (ZdU (fun i=>pl[i]?) z parts).map fun cs=> .agg cs.toArray else none:=rfl
theorem Zax {P:Program} {t:TypeId} {pl:List (Nat × Nat)} {z:List Value} (hl:lay P t=some (pl,z)) {parts:List (Nat × Value)}:Za2 P t parts=blt pl z parts:=by
 unfold lay at hl
 split at hl
 ·rename_i it fields hi hu
  split at hl
  ·rename_i zz places hz hp
   split at hl
   ·rename_i ha
    cases hl
    have e:P.built t parts=(ZdU (fun i=>pl[i]?) zz.cells.toList parts).map List.toArray:=by
     simp only [Program.built,hi,hu,hz,hp]
     rw [fill_eq]
     congr 2
     funext i
     simp
    simp only [Za2,Zcb,hi,Option.bind_some,hz,ha,true_and,e,blt]
    split
    ·simp [Option.map_map,Function.comp_def]
    ·rfl
   ·cases hl
  ·cases hl
 ·cases hl
def elay (P:Program) (t:TypeId) (len:Nat):Option (Nat × List Value):=match P.underlying t with
 | some (.slice e)=>match P.info? e with
   | some i=>match i.zero with
     | some z=>if len*i.size≤16777216∧0 < i.size∧z.cells.size=i.size∧z.cells.toList.all atomic=true then some (i.size,(List.replicate len z.cells.toList).flatten) else none
     | none=>none
   | none=>none
 | _=>none
def bsl (sz len size:Nat) (z:List Value) (parts:List (Nat × Value)):Option (Value × Option Blk) :=
 if parts.all (fun p=>p.2.cells.toList.all Zal)=true then
  match ZdU (fun k=>some (k*size,size)) z parts with
  | some cs=>if cs.all Zal=true then some (.slice (some ⟨sz,0,none⟩) len len,some (.cells cs size)) else none
  | none=>none
 else none
def bsd (sz len size:Nat) (r:Option (List Value)):Option (Value × Option Blk):=match r with
    | some cs=>if cs.all Zal=true then some (.slice (some ⟨sz,0,none⟩) len len,some (.cells cs size)) else none
    | none=>none
@[go_sem] theorem Zud {sz len size:Nat} {cs:List Value}:bsd sz len size (some cs)=if cs.all Zal=true then some (.slice (some ⟨sz,0,none⟩) len len,some (.cells cs size)) else none:=rfl
@[go_sem] theorem Zwy {sz len size:Nat} {z:List Value} {parts:List (Nat × Value)}:bsl sz len size z parts=if parts.all (fun p=>p.2.cells.toList.all Zal)=true then bsd sz len size (ZdU (fun k=>some (k*size,size)) z parts) else none:=rfl
theorem Zad {P:Program} {sz:Nat} {t:TypeId} {len size:Nat} {z:List Value} (hl:elay P t len=some (size,z)) {ps:Array (Nat × Operand)} {ρ:Operand→Value} :
  iop0 P sz (.buildSlice t len ps) ρ=bsl sz len size z (ps.toList.map fun p=>(p.1,ρ p.2)):=by
 have e1:(ps.map fun (i,x)=>(i,ρ x)).toList=ps.toList.map fun p=>(p.1,ρ p.2):=Yp
 have e2:(ps.toList.map fun p=>(p.1,ρ p.2)).all (fun p=>p.2.cells.toList.all Zal)=ps.toList.all (fun p=>(ρ p.2).cells.toList.all Zal):=by simp [List.all_map,Function.comp_def]
 unfold elay at hl
 split at hl
 ·rename_i e hu
  split at hl
  ·rename_i i hi
   split at hl
   ·rename_i zz hz
    split at hl
    ·rename_i hc
     cases hl
     simp only [iop0,hu,hi,hz,bsl,e2]
     by_cases hp:ps.toList.all (fun p=>(ρ p.2).cells.toList.all Zal)=true
     ·rw [if_pos ⟨hc.1,hc.2.1,hc.2.2.1,hc.2.2.2,hp⟩,if_pos hp,e1,fill_eq]
      cases ZdU (fun k=>some (k*i.size,i.size)) (List.replicate len zz.cells.toList).flatten (ps.toList.map fun p=>(p.1,ρ p.2)) with
      | none=>rfl
      | some cs=>rfl
     ·rw [if_neg (fun hh=>hp hh.2.2.2.2),if_neg hp]
    ·cases hl
   ·cases hl
  ·cases hl
 ·cases hl
def iops (op:BinOp) (b:Option Bool):Option Value:=match b with
 | none=>none
 | some b=>match op with
   | .eql=>some (.bool b)
   | .neq=>some (.bool (!b))
   | _=>none
@[go_sem] theorem Ztx {b:Bool}:iops .eql (some b)=some (.bool b):=rfl
@[go_sem] theorem Ztw {b:Bool}:iops .neq (some b)=some (.bool (!b)):=rfl
def ieqt (u:Option TypeDesc) (x y:Value):Option Bool:=match u with
 | none=>none
 | some d=>ieqv d x y
theorem Zb9 {P:Program} {op:BinOp} {t:TypeId} {x y:Value} (h:ibin op x y=none) (hs:Zhp P t x y=none):Zaj P op t x y=iops op (ieqt (P.underlying t) x y):=by
 simp only [Zaj,h,ieqt,iops,hs]
 cases P.underlying t with
 | none=>rfl
 | some d=>simp only;cases ieqv d x y<;>rfl
section
variable {P:Program} {op:BinOp} {t:TypeId}
@[go_sem] theorem ZqM {a b:Bool}:Zaj P op t (.bool a) (.bool b)=iops op (ieqt (P.underlying t) (.bool a) (.bool b)):=Zb9 (by cases op<;>rfl) rfl
@[go_sem] theorem Zpw {a b:Option Addr} {n m c d:Nat}:Zaj P op t (.slice a n c) (.slice b m d)=iops op (ieqt (P.underlying t) (.slice a n c) (.slice b m d)):=Zb9 (by cases op<;>rfl) rfl
@[go_sem] theorem ZnK {a b:Option Addr}:Zaj P op t (.pointer a) (.pointer b)=iops op (ieqt (P.underlying t) (.pointer a) (.pointer b)):=Zb9 (by cases op<;>rfl) rfl
@[go_sem] theorem ZrJ {a b:Option Nat}:Zaj P op t (.map a) (.map b)=iops op (ieqt (P.underlying t) (.map a) (.map b)):=Zb9 (by cases op<;>rfl) rfl
@[go_sem] theorem ZsL {a b:Bool}:ieqt (some .bool) (.bool a) (.bool b)=some (decide (a=b)):=by cases a<;>cases b<;>rfl
@[go_sem] theorem ZrB {e:TypeId} {a:Option Addr} {n c:Nat}:ieqt (some (.slice e)) (.slice a n c) (.slice none 0 0)=some a.isNone:=by cases a<;>rfl
@[go_sem] theorem Zpp {e:TypeId} {a:Option Addr}:ieqt (some (.pointer e)) (.pointer a) (.pointer none)=some a.isNone:=by cases a<;>rfl
@[go_sem] theorem ZtI {k e:TypeId} {a:Option Nat}:ieqt (some (.map k e)) (.map a) (.map none)=some a.isNone:=by cases a<;>rfl
attribute [go_sem] Option.isNone_none Option.isNone_some
end
section
variable {P:Program} {op:BinOp} {t:TypeId} {xs ys:Array Value}
def eqst (o:Option (List (TypeDesc × Nat))) (op:BinOp) (xs ys:Array Value):Option Value:=match o with
 | some l=>match ZcK xs ys l with
   | some b=>Zm8 op b
   | none=>none
 | none=>none
def eqO (op:BinOp) (b:Option Bool):Option Value:=match b with
 | some b=>Zm8 op b
 | none=>none
@[go_sem] theorem ZsZ {l:List (TypeDesc × Nat)}:eqst (some l) op xs ys=eqO op (ZcK xs ys l):=by
  simp only [eqst,eqO]
@[go_sem] theorem Zvz {b:Bool}:eqO .eql (some b)=some (.bool b):=rfl
@[go_sem] theorem Zvy {b:Bool}:eqO .neq (some b)=some (.bool (!b)):=rfl
@[go_sem] theorem Zq9:ZcK xs ys []=some true:=rfl
@[go_sem] theorem ZpH {d:TypeDesc} {o:Nat} {l:List (TypeDesc × Nat)}:ZcK xs ys ((d,o)::l)=andO (feq d xs[o]? ys[o]?) (ZcK xs ys l):=rfl
@[go_sem] theorem Zti {a b:Bool}:andO (some a) (some b)=some (a && b):=rfl
@[go_sem] theorem Zua {a b:Bool}:feq .bool (some (.bool a)) (some (.bool b))=some (decide (a=b)):=by cases a<;>cases b<;>rfl
@[go_sem] theorem Zvx {k k':IntKind} {a b:Int}:feq (.int k) (some (.int k' a)) (some (.int k' b))=some (decide (a=b)):=by
  have e:(a == b)=decide (a=b):=by rw [Bool.eq_iff_iff];simp
  simp only [feq,if_true,e]
@[go_sem] theorem ZrT {a b:ByteArray}:feq .string (some (.string a)) (some (.string b))=some (decide (a=b)):=by
  simp only [feq,bytes_beq]
end
@[go_sem] theorem ZrF {g:FuncId} {args a c:Array Value} {h:Heap}:Zf9 (.func (.func g) a c) args h=some (.enter g (a++args++c),h):=rfl
end Go.Im
namespace Go.Im
attribute [go_sem] Zct ZbD
theorem wrap_i64 {x:Int} (h1: -9223372036854775808≤x) (h2:x≤9223372036854775807):IntKind.i64.wrap x=x:=IntWalk.i64_in x ⟨h1,h2⟩
theorem wrap_u8 {x:Int} (h1:0≤x) (h2:x≤255):IntKind.u8.wrap x=x:=by rw [IntKind.wrap_u8];omega
theorem wrap_u64 {x:Int} (h1:0≤x) (h2:x≤18446744073709551615):IntKind.u64.wrap x=x:=by rw [IntKind.wrap_u64];omega
theorem wrap_i32 {x:Int} (h1: -2147483648≤x) (h2:x≤2147483647):IntKind.i32.wrap x=x:=by rw [IntKind.wrap_i32];omega
@[go_sem] theorem Zqz {b:Bool} {k:IntKind} {x:Int}:ZbZ b [.int k x]=some (.int k x):=rfl
@[go_sem] theorem ZqB {k:IntKind} {x y:Int}:ZbZ true [.int k x,.int k y]=some (.int k (max x y)):=by
  simp only [ZbZ,ZbY,if_true]
  congr 2
  by_cases h:y > x
  ·rw [if_pos h];omega
  ·rw [if_neg h];omega
@[go_sem] theorem ZqA {k:IntKind} {x y:Int}:ZbZ false [.int k x,.int k y]=some (.int k (min x y)):=by
  simp only [ZbZ,ZbY,if_true,Bool.false_eq_true,if_false]
  congr 2
  by_cases h:y < x
  ·rw [if_pos h];omega
  ·rw [if_neg h];omega
def isl (k:Blk) (size o n:Nat):Option (List Value):=match k with
 | .cells cs esz=>if esz=size∧o+n*size≤cs.length then some ((cs.drop o).take (n*size)) else if n=0 then some [] else none
 | _=>if n=0 then some [] else none
@[go_sem] theorem Zrp {h:Heap} {size:Nat}:Zak h size (.slice none 0 0)=some []:=rfl
@[go_sem] theorem ZcX {h:Heap} {size b o n c:Nat}:Zak h size (.slice (some ⟨b,o,none⟩) n c)=isl (h.get b).read size o n:=by
  simp only [Zak,isl]
  rfl
@[go_sem] theorem Zin {cs:List Value} {esz size o n:Nat}:isl (.cells cs esz) size o n=if esz=size∧o+n*size≤cs.length then some ((cs.drop o).take (n*size)) else if n=0 then some [] else none:=rfl
def icvi (u v:Option TypeDesc) (n:Int) (h:Heap):Option (Value × Heap):=match u,v with
 | some (.int _),some (.int k)=>some (.int k (k.wrap n),h)
 | some (.int _),some .string=>some (.string (Utf8.encode n),h)
 | _,_=>none
@[go_sem] theorem Zfq {k k':IntKind} {n:Int} {h:Heap}:icvi (some (.int k')) (some (.int k)) n h=some (.int k (k.wrap n),h):=rfl
@[go_sem] theorem ZsP {k':IntKind} {n:Int} {h:Heap}:icvi (some (.int k')) (some .string) n h=some (.string (Utf8.encode n),h):=rfl
@[go_sem] theorem Zpt {P:Program} {h:Heap} {s d:TypeId} {k:IntKind} {n:Int}:ZaF P h s d (.int k n)=icvi (P.underlying s) (P.underlying d) n h:=by
  unfold ZaF icvi
  cases P.underlying s with
  | none=>rfl
  | some u=>cases P.underlying d with
    | none=>cases u<;>rfl
    | some v=>cases u<;>cases v<;>rfl
def sk (P:Program) (t:TypeId):Option IntKind:=match P.underlying t with
 | some (.slice e)=>match P.underlying e,Zaq P e with
   | some (.int .u8),some 1=>some .u8
   | some (.int .i32),some 1=>some .i32
   | _,_=>none
 | _=>none
def icvs (k:Option IntKind) (l:Option (List Value)) (h:Heap):Option (Value × Heap):=match k,l with
 | some .u8,some cs=>match Zdp .u8 cs with
   | some ns=>some (.string ⟨(ns.map fun n=>UInt8.ofNat n.toNat).toArray⟩,h)
   | none=>none
 | some .i32,some cs=>match Zdp .i32 cs with
   | some ns=>some (.string (runesBytes ns),h)
   | none=>none
 | _,_=>none
theorem Zdq {P:Program} {h:Heap} {s d:TypeId} {k:IntKind} {a:Option Addr} {n c:Nat} (hs:sk P s=some k) (hd:P.underlying d=some .string) :
  ZaF P h s d (.slice a n c)=icvs (some k) (Zak h 1 (.slice a n c)) h:=by
 unfold sk at hs
 split at hs
 ·rename_i e hu
  unfold ZaF
  simp only [hu,hd]
  split at hs
  ·rename_i h1 h2
   cases hs
   simp only [h1]
   cases Zak h 1 (.slice a n c)<;>rfl
  ·rename_i h1 h2
   cases hs
   simp only [h1]
   cases Zak h 1 (.slice a n c)<;>rfl
  ·cases hs
 ·cases hs
def intCells (k:IntKind) (ns:List Int):List Value:=ns.map fun n=> .int k n
theorem ZcY (k:IntKind):∀ ns:List Int,Zdp k (intCells k ns)=some ns
 | []=>rfl
 | n::ns=>by simp only [intCells,List.map_cons,Zdp,if_true];rw [show List.map (fun n=>Value.int k n) ns=intCells k ns from rfl,ZcY k ns]
theorem ZmW {ns:List Int} {h:Heap}:icvs (some .u8) (some (intCells .u8 ns)) h=some (.string ⟨(ns.map fun n=>UInt8.ofNat n.toNat).toArray⟩,h):=by
 simp only [icvs,ZcY]
theorem Zox {n:Int} {h:Heap}:icvs (some .u8) (some [.int .u8 n]) h=some (.string ⟨#[UInt8.ofNat n.toNat]⟩,h):=ZmW (ns:=[n])
attribute [go_sem] Zox
def Ztj (P:Program) (t:TypeId):Option (Nat × Nat):=match P.underlying t with
 | some (.slice e)=>match P.info? e with
   | some i=>if i.size≠0∧(i.zero.map fun z=>z.cells.size)=some i.size then some (i.size,i.bytes) else none
   | none=>none
 | _=>none
def iapp (low:Nat) (h:Heap) (size bytes:Nat) (s:Value) (k:Nat) (new:Option (List Value)):Option (Value × Heap):=match new with
 | some new=>match s with
   | .slice base n cap=>if 140737488355328 < 2*(n+k)*bytes∨4611686018427387904 < n+k then none else if k=0 then some (.slice base n cap,h) else iput low h size (.slice base n cap) k new
   | _=>none
 | none=>none
theorem Zas {P:Program} {low:Nat} {h:Heap} {t1 t2 e2:TypeId} {size bytes:Nat} {s:Value} {a:Option Addr} {k c:Nat} (ha:Ztj P t1=some (size,bytes)) (hu:P.underlying t2=some (.slice e2)) :
  ZaC P low h #[t1,t2] s (.slice a k c)=iapp low h size bytes s k (Zak h size (.slice a k c)):=by
 unfold Ztj at ha
 split at ha
 ·rename_i e he
  split at ha
  ·rename_i i hi
   split at ha
   ·rename_i hz
    cases ha
    have e1:((#[t1,t2]:Array TypeId)[0]?).bind P.underlying=some (.slice e):=he
    have e2':((#[t1,t2]:Array TypeId)[1]?).bind P.underlying=some (.slice e2):=hu
    simp only [ZaC,e1,e2',hi,Zlf,iapp]
    cases Zak h i.size (.slice a k c) with
    | none=>cases s<;>rfl
    | some l =>
      cases s with
      | slice base n cap =>
        simp only
        by_cases h1:140737488355328 < 2*(n+k)*i.bytes∨4611686018427387904 < n+k
        ·rw [if_pos (h1.elim (fun a=> .inr (.inl a)) (fun a=> .inr (.inr (.inl a)))),if_pos h1]
        ·rw [if_neg (by rintro (h0 | h0 | h0 | h0)<;>first | exact hz.1 h0 | exact h1 (.inl h0) | exact h1 (.inr h0) | exact h0 hz.2),if_neg h1]
      | _=>rfl
   ·cases ha
  ·cases ha
 ·cases ha
def vblk:Value→Option Nat
 | .slice (some a) _ _=>some a.block
 | .pointer (some a)=>some a.block
 | _=>none
def Own (low:Nat) (h:Heap) (size:Nat) (v:Value) (n:Nat) (xs:List Value):Prop :=
 (v= .slice none 0 0∧n=0∧xs=[])∨∃ b,v= .slice (some ⟨b,0,none⟩) n big∧low≤b∧b < h.size∧h.get b= .cells xs size∧xs.length=n*size
theorem Own.nil (low:Nat) (h:Heap) (size:Nat):Own low h size (.slice none 0 0) 0 []:= .inl ⟨rfl,rfl,rfl⟩
theorem ZdC {low:Nat} {h:Heap} {size bytes:Nat} {v:Value} {n k:Nat} {xs new:List Value} (H:Own low h size v n xs) (hl:low≤h.size) (hs:0 < size) (hk:0 < k) (hn:new.length=k*size)
  (hb:2*(n+k)*bytes≤140737488355328) (hc:n+k≤4611686018427387904) :
  ∃ h',iapp low h size bytes v k (some new)=some (.slice (some ⟨h.size,0,none⟩) (n+k) big,h')∧Own low h' size (.slice (some ⟨h.size,0,none⟩) (n+k) big) (n+k) (xs++new)∧h'.size=h.size+1 ∧
    ∀ b,b < h.size→vblk v≠some b→h'.get b=h.get b:=by
 rcases H with ⟨rfl,rfl,rfl⟩ | ⟨b,rfl,hlb,hbs,hg,hx⟩
 ·refine ⟨h.push (.cells new size),?_,.inr ⟨h.size,rfl,hl,by simp,by simp [Heap.Zam],by simpa using hn⟩,rfl,fun b hb _=>by rw [Heap.Zam,if_neg Ya]⟩
  simp only [iapp,Nat.zero_add]
  rw [if_neg (by simp at hb hc;omega),if_neg Ya]
  simp [iput]
 ·have ht:xs.take (n*size)=xs:=by rw [← hx];exact List.take_length
  refine ⟨(h.set b .dead).push (.cells (xs++new) size),?_,.inr ⟨h.size,rfl,hl,by simp,by simp [Heap.Zam],by simp [hx,hn,Nat.add_mul]⟩,rfl,fun c hc hv=> ?_⟩
  ·simp only [iapp]
   rw [if_neg Ya,if_neg Ya]
   simp only [iput,hg,Nat.zero_add,List.drop_zero,ht]
   have hpos:0 < k*size:=Nat.mul_pos hk hs
   rw [if_neg Yl,if_neg (Nat.lt_irrefl _),if_pos ⟨trivial,hlb⟩,if_neg (by rw [Nat.add_mul];omega)]
  ·rw [Heap.Zam,if_neg Yl,Heap.Zae,if_neg (by intro hcb;exact hv (by simp [vblk,hcb]))]
def Zmr (P:Program) (t:TypeId):Option (Nat × Nat × List Value):=match P.underlying t with
 | some (.slice e)=>match P.info? e with
   | some i=>match i.zero with
     | some z=>if 0 < i.size∧z.cells.size=i.size∧z.cells.toList.all atomic=true then some (i.size,i.bytes,z.cells.toList) else none
     | none=>none
   | none=>none
 | _=>none
def imk (sz size bytes:Nat) (z:List Value) (l c:Int):Option (Value × Option Blk) :=
 if 0≤l∧l≤c∧c*bytes≤140737488355328∧c < 281474976710656 then
  some (.slice (some ⟨sz,0,none⟩) l.toNat c.toNat,some (.cells ((List.replicate c.toNat z).flatten) size))
 else none
theorem Zfn {P:Program} {sz:Nat} {t:TypeId} {k k':IntKind} {l c:Int} {size bytes:Nat} {z:List Value} (hm:Zmr P t=some (size,bytes,z)):Zf8 P sz t (.int k l) (.int k' c)=imk sz size bytes z l c:=by
 unfold Zmr at hm
 split at hm
 ·rename_i e hu
  split at hm
  ·rename_i i hi
   split at hm
   ·rename_i zz hz
    split at hm
    ·rename_i hc
     cases hm
     simp only [Zf8,hu,numOf,hi,hz,imk]
     by_cases h1:0≤l∧l≤c∧c*i.bytes≤140737488355328∧c < 281474976710656
     ·rw [if_pos ⟨h1.1,h1.2.1,h1.2.2.1,h1.2.2.2,hc⟩,if_pos h1]
     ·rw [if_neg (fun hh=>h1 ⟨hh.1,hh.2.1,hh.2.2.1,hh.2.2.2.1⟩),if_neg h1]
    ·cases hm
   ·cases hm
  ·cases hm
 ·cases hm
theorem Ziw {sz size bytes:Nat} {z:List Value} {l c:Int} (h1:0≤l) (h2:l≤c) (h3:c*bytes≤140737488355328) (h4:c < 281474976710656) :
  imk sz size bytes z l c=some (.slice (some ⟨sz,0,none⟩) l.toNat c.toNat,some (.cells ((List.replicate c.toNat z).flatten) size)):=by rw [imk,if_pos ⟨h1,h2,h3,h4⟩]
theorem Ziz {low:Nat} {h:Heap} {size bytes b o n k cap:Nat} {cs new:List Value} (hg:h.get b= .cells cs size) (hl:low≤b) (hk:0 < k) (hb:2*(n+k)*bytes≤140737488355328) (hc:n+k≤cap) (hcap:cap < big)
  (ho:o+(n+k)*size≤cs.length):iapp low h size bytes (.slice (some ⟨b,o,none⟩) n cap) k (some new)=some (.slice (some ⟨b,o,none⟩) (n+k) cap,h.set b (.cells (splice cs (o+n*size) new) size)):=by
 have h1:o+n*size≤cs.length:=by rw [Nat.add_mul] at ho;omega
 simp only [iapp]
 rw [if_neg (by simp only [big] at hcap;omega),if_neg Ya]
 simp only [iput,hg]
 rw [if_neg Yl,if_pos hcap,if_pos hc,if_pos ⟨hl,ho⟩]
def text (l:List UInt8):ByteArray:=⟨l.toArray⟩
theorem Zbt (l:List UInt8):(text l).size=l.length:=rfl
theorem ZfG (l:List UInt8):(text l).data.toList=l:=rfl
attribute [go_sem] Zbt ZfG
theorem Zdv (l m:List UInt8):text l++text m=text (l++m):=by
 apply Go.WideShapes.bytes_inj
 simp [text]
theorem ZdT {l m:List UInt8}:text l=text m↔l=m:=by
 constructor
 ·intro h
  have:=congrArg (fun b=>b.data.toList) h
  exact this
 ·intro h
  rw [h]
theorem Zg5 (s:ByteArray):∃ l,s=text l:=⟨s.data.toList,by cases s;rfl⟩
theorem ZhQ (l:List UInt8) (a b:Nat):(text l).extract a b=text ((l.drop a).take (b - a)):=by
 apply Go.WideShapes.bytes_inj
 simp [text,ByteArray.data_extract]
theorem Zb1 {P:Program} {t:TypeId} {a b:List UInt8} (h:a.length+b.length≤9223372036854775807):Zaj P .add t (.string (text a)) (.string (text b))=some (.string (text (a++b))):=by
 rw [ZeN (by rw [Zbt,Zbt];exact h),Zdv]
@[go_sem] theorem ZrE {a:UInt8} {l:List UInt8}:Zgk (text (a::l)) 0=some (.int .u8 a.toNat):=rfl
theorem ZgR {l:List UInt8} {i:Nat} {a:UInt8} (h:l[i]? =some a):Zgk (text l) i=some (.int .u8 a.toNat):=by
 simp [Zgk,ZfG,h]
@[go_sem] theorem ZiS {d:Nat}:Zag d none=some d:=rfl
@[go_sem] theorem ZpL {d:Nat} {k:IntKind} {i:Int}:Zag d (some (.int k i))=if 0≤i then some i.toNat else none:=rfl
def irt (s:List UInt8) (l h:Option Nat):Option Value:=match l,h with
 | some l,some h=>if l≤h∧h≤s.length then some (.string (text ((s.drop l).take (h - l)))) else none
 | _,_=>none
@[go_sem] theorem Ztu {s:List UInt8} {l h:Nat}:irt s (some l) (some h)=if l≤h∧h≤s.length then some (.string (text ((s.drop l).take (h - l)))) else none:=rfl
def irsu (u:Option TypeDesc) (s:List UInt8) (lo hi mx:Option Value):Option Value:=match u,mx with
 | some .string,none=>irt s (Zag 0 lo) (Zag s.length hi)
 | _,_=>none
@[go_sem] theorem Zqr {s:List UInt8} {lo hi:Option Value}:irsu (some .string) s lo hi none=irt s (Zag 0 lo) (Zag s.length hi):=rfl
@[go_sem] theorem Zrq {P:Program} {h:Heap} {t:TypeId} {s:List UInt8} {lo hi mx:Option Value}:ZeM P h t (.string (text s)) lo hi mx=irsu (P.underlying t) s lo hi mx:=by
  unfold ZeM irsu irt
  cases P.underlying t with
  | none=>rfl
  | some u =>
    cases u with
    | string =>
      cases mx with
      | none =>
        simp only [Zb4,Zbt,ZiS]
        cases Zag 0 lo with
        | none=>rfl
        | some l=>cases Zag s.length hi with
          | none=>rfl
          | some r =>
            simp only
            by_cases h1:l≤r∧r≤s.length
            ·simp [h1,ZhQ]
            ·simp only [Nat.le_refl,Option.isSome_none,Bool.false_eq_true,false_implies,and_true,h1,if_false]
      | some m=>simp only
    | _=>rfl
def byteCells (l:List UInt8):List Value:=l.map fun b=> .int .u8 b.toNat
theorem byteCells_length (l:List UInt8):(byteCells l).length=l.length:=by simp [byteCells]
theorem byteCells_append (l m:List UInt8):byteCells (l++m)=byteCells l++byteCells m:=by simp [byteCells]
theorem Zcs {l:List UInt8} {h:Heap}:icvs (some .u8) (some (byteCells l)) h=some (.string (text l),h):=by
 have e:byteCells l=intCells .u8 (l.map fun b=>(b.toNat:Int)):=by simp [byteCells,intCells,Function.comp_def]
 rw [e,ZmW]
 congr 3
 apply Go.WideShapes.bytes_inj
 simp [text,Function.comp_def]
theorem ZfK {xs:List UInt8} {z:Value} {k:Nat} {x:UInt8}:splice (byteCells xs++List.replicate (k+1) z) xs.length [.int .u8 x.toNat]=byteCells (xs++[x])++List.replicate k z:=by
 simp only [splice]
 rw [List.take_append_of_le_length (by rw [byteCells_length];exact Nat.le_refl _),List.take_of_length_le (by rw [byteCells_length];exact Nat.le_refl _)]
 rw [List.drop_append,List.drop_eq_nil_of_le (by rw [byteCells_length];simp)]
 simp [byteCells]
theorem Own.ext {low:Nat} {h h':Heap} {size:Nat} {v:Value} {n:Nat} {xs:List Value} (H:Own low h size v n xs) (k:Ext h h'):Own low h' size v n xs:=by
 rcases H with H | ⟨b,hv,hl,hb,hg,hx⟩
 ·exact .inl H
 ·exact .inr ⟨b,hv,hl,by have:=k.1;omega,by rw [k.2 b hb];exact hg,hx⟩
end Go.Im
namespace Go.Im
open Go.RowKit
structure View where
 blk:Nat
 off:Nat
 cap:Nat
 esz:Nat
 cells:List Value
def laid:List View→Heap
 | []=>h0
 | v::vs=>(laid vs).push (.fixed v.cells v.esz)
theorem ZcW:∀ vs,(laid vs).size=vs.length
 | []=>rfl
 | v::vs=>by simp [laid,ZcW vs]
def vAt (vs:List View) (i:Nat):Option View:=vs.reverse[i]?
theorem Zb6 {v:View} {vs:List View} {i:Nat}:vAt (v::vs) i=if i=vs.length then some v else vAt vs i:=by
 unfold vAt
 rw [List.reverse_cons]
 by_cases h:i < vs.length
 ·rw [List.getElem?_append_left YO,if_neg Ya]
 ·rw [List.getElem?_append_right YO]
  by_cases e:i=vs.length
  ·simp [e]
  ·rw [if_neg e,List.getElem?_eq_none Yl,List.getElem?_eq_none Yl]
theorem Zdg:∀ (vs:List View) (i:Nat) (v:View),vAt vs i=some v→(laid vs).get i= .fixed v.cells v.esz
 | [],i,v,h=>by simp [vAt] at h
 | u::vs,i,v,h=>by
   rw [Zb6] at h
   simp only [laid]
   rw [Heap.Zam,ZcW]
   by_cases e:i=vs.length
   ·rw [if_pos e] at h
    cases h
    rw [if_pos e]
   ·rw [if_neg e] at h
    rw [if_neg e]
    exact Zdg vs i v h
def View.loc (v:View):Loc:=⟨v.blk,v.off,v.cells.length,v.cap,v.esz⟩
def ZaD (vs:List View):Zac:=fun i=>(vAt vs i).map View.loc
def View.of (φ:Zac) (w:World) (v:View):Prop:=0 < v.esz∧∃ c e fr,w.heap[v.blk]? =some (.cells c e fr)∧v.off+v.cells.length≤c.size∧∀ (i:Nat) (x:Value),v.cells[i]? =some x→Zal x=true∧∃ y,c[v.off+i]? =some y∧RV φ x y
theorem RH.laid {w:World} {vs:List View} (h:∀ i v,vAt vs i=some v→v.of (ZaD vs) w):RH (ZaD vs) (laid vs) w where
 low:=by
  intro b l hb
  simp only [ZaD,Option.map_eq_some_iff] at hb
  obtain ⟨v,hv,rfl⟩:=hb
  obtain ⟨_,c,e,fr,h1,_⟩:=h b v hv
  refine ⟨?_,(Array.getElem?_eq_some_iff.1 h1).1⟩
  rw [ZcW]
  have:=(List.getElem?_eq_some_iff.1 hv).1
  simpa using this
 blk:=by
  intro b l hb
  simp only [ZaD,Option.map_eq_some_iff] at hb
  obtain ⟨v,hv,rfl⟩:=hb
  obtain ⟨h0,c,e,fr,h1,h2,h3⟩:=h b v hv
  refine ⟨_,h1,?_⟩
  rw [Zdg vs b v hv]
  exact ⟨rfl,h2,rfl,h0,h3⟩
 inj:=by
  intro b c l m hb hc _ _ hf
  simp only [ZaD,Option.map_eq_some_iff] at hb hc
  obtain ⟨v,hv,rfl⟩:=hb
  obtain ⟨u,hu,rfl⟩:=hc
  rw [Zdg vs b v hv,Zdg vs c u hu] at hf
  simp [Blk.isFixed] at hf
theorem ZeV {K:Cfg} (hK:CfgOK K) {f:FuncId} {vs:List View} {args args':Array Value} {v:Value} {w:World} (hv:∀ i u,vAt vs i=some u→u.of (ZaD vs) w) (ha:RL (ZaD vs) args.toList args'.toList)
  (hp:Im.atomic v=true) (H:Runs K f args (laid vs) fun x _=>x=v) (ht:K.tied.holds (ZaD vs):=by exact True.intro):Calls K.P f args' w fun e w'=>e= .returned v∧Below w.heap.size w w':=by
 obtain ⟨n,x,h',hi,_,rfl⟩:=H
 refine (ZbH hK (Nat.le_refl _) hi ha (RH.laid hv) ht).mono fun e w' ⟨ψ,v',he,hr,g⟩=> ?_
 rw [RV.Zcy hp hr] at he
 refine ⟨he,g.below fun b l hb hl=> ?_⟩
 have h1:=(RH.laid hv).low b l hl
 omega
def Sl (h:Heap) (size:Nat) (a:Option Addr) (n c:Nat) (xs:List Value):Prop :=
 (a=none∧n=0∧c=0∧xs=[])∨(∃ b o,a=some ⟨b,o,none⟩∧n=0∧c=0∧xs=[]) ∨
 ∃ b o cs,a=some ⟨b,o,none⟩∧0 < c∧b < h.size∧(h.get b).read= .cells cs size∧o+n*size≤cs.length∧xs=(cs.drop o).take (n*size)∧((n≤c∧c < big)∨c=big)
theorem Sl.nil (h:Heap) (size:Nat):Sl h size none 0 0 []:= .inl ⟨rfl,rfl,rfl,rfl⟩
theorem Sl.length {h:Heap} {size:Nat} {a:Option Addr} {n c:Nat} {xs:List Value} (s:Sl h size a n c xs):xs.length=n*size:=by
 rcases s with ⟨_,rfl,_,rfl⟩ | ⟨_,_,_,rfl,_,rfl⟩ | ⟨b,o,cs,_,_,_,_,h1,rfl,_⟩
 ·simp
 ·simp
 ·simp;omega
theorem Sl.ext {h h':Heap} (k:Ext h h') {size:Nat} {a:Option Addr} {n c:Nat} {xs:List Value} (s:Sl h size a n c xs):Sl h' size a n c xs:=by
 rcases s with h1 | h1 | ⟨b,o,cs,h1,h2,h3,h4,h5⟩
 ·exact .inl h1
 ·exact .inr (.inl h1)
 ·exact .inr (.inr ⟨b,o,cs,h1,h2,by have:=k.1;omega,by rw [k.2 b h3];exact h4,h5⟩)
theorem Sl.at {h:Heap} {a:Option Addr} {n c i size:Nat} {xs:List Value} (s:Sl h size a n c xs) (hi:i < n) :
  ∃ b o cs,a=some ⟨b,o,none⟩∧b < h.size∧(h.get b).read= .cells cs size∧o+n*size≤cs.length∧xs=(cs.drop o).take (n*size):=by
 rcases s with ⟨_,rfl,_⟩ | ⟨_,_,_,rfl,_⟩ | ⟨b,o,cs,h1,h2,h3,h4,h5,h6,_⟩
 ·omega
 ·omega
 ·exact ⟨b,o,cs,h1,h3,h4,h5,h6⟩
theorem Sl.one {h:Heap} {a:Option Addr} {n c i:Nat} {xs:List Value} {x:Value} (s:Sl h 1 a n c xs) (hx:xs[i]? =some x) :
  ∃ b o cs,a=some ⟨b,o,none⟩∧b < h.size∧(h.get b).read= .cells cs 1∧cs[o+i]? =some x:=by
 have hi:i < n:=by have:=(List.getElem?_eq_some_iff.1 hx).1;rw [s.length] at this;omega
 obtain ⟨b,o,cs,h1,h2,h3,h4,h5⟩:=s.at hi
 refine ⟨b,o,cs,h1,h2,h3,?_⟩
 rw [h5,List.getElem?_take] at hx
 split at hx
 ·rw [List.getElem?_drop] at hx;exact hx
 ·cases hx
theorem Sl.Zak {h:Heap} {a:Option Addr} {n c size:Nat} {xs:List Value} (s:Sl h size a n c xs):Zak h size (.slice a n c)=some xs∨(n=0∧xs=[]∧∃ b o,a=some ⟨b,o,none⟩∧c=0):=by
 rcases s with ⟨rfl,rfl,rfl,rfl⟩ | ⟨b,o,rfl,rfl,rfl,rfl⟩ | ⟨b,o,cs,rfl,h2,h3,h4,h5,rfl,_⟩
 ·exact .inl rfl
 ·exact .inr ⟨rfl,rfl,b,o,rfl,rfl⟩
 ·left
  simp only [Im.Zak,Heap.look,h4]
  rw [if_pos ⟨trivial,h5⟩]
theorem Sl.isl {h:Heap} {a:Option Addr} {n c size:Nat} {xs:List Value} (s:Sl h size a n c xs):Im.Zak h size (.slice a n c)=some xs:=by
 rcases s.Zak with h1 | ⟨rfl,rfl,b,o,rfl,rfl⟩
 ·exact h1
 ·simp only [Im.Zak]
  split<;>simp
theorem Za6 {n cap l u:Nat} {lo hi:Option Value} (hl:Zag 0 lo=some l) (hu:Zag n hi=some u) (h1:l≤u) (h2:u≤cap):Zb4 n cap lo hi none=some (l,u,cap):=by
 unfold Zb4
 have:Zag cap none=some cap:=rfl
 rw [hl,hu,this]
 simp only
 rw [if_pos ⟨h1,h2,Nat.le_refl _,by simp⟩]
def Arg (W:World) (a:Option Addr) (k c:Nat) (vals:List Value):Prop:=vals.length=k∧k≤c ∧
 ((a=none∧c=0)∨(c=0∧∃ ad,a=some ad)∨∃ b o cc e fr,a=some ⟨b,o,none⟩∧0 < c∧W.heap[b]? =some (.cells cc e fr)∧o+c≤cc.size∧∀ (i:Nat) (x:Value),vals[i]? =some x→cc[o+i]? =some x)
theorem Arg.of_cells {W:World} {a:Addr} {k c:Nat} {vals:List Value} (hl:vals.length=c) (hk:k≤c) (hc:∀ i,i < c→W.cell? (a.add i)=vals[i]?):Arg W (some a) k c (vals.take k):=by
 refine ⟨by simp;omega,hk,?_⟩
 by_cases h0:c=0
 ·exact .inr (.inl ⟨h0,a,rfl⟩)
 ·right;right
  obtain ⟨b,o,sp⟩:=a
  have c0:=hc 0 Ya
  have hadd0:(⟨b,o,sp⟩:Addr).add 0=⟨b,o,sp⟩:=rfl
  rw [hadd0] at c0
  obtain ⟨x,hx⟩:∃ x,vals[0]? =some x:=⟨_,List.getElem?_eq_getElem Ya⟩
  rw [hx] at c0
  unfold World.cell? at c0
  split at c0
  ·rename_i cc e fr hb
   split at c0
   ·cases c0
   ·rename_i hsp
    have hsp':sp=none:=by cases sp with
     | none=>rfl
     | some z=>simp at hsp
    subst hsp'
    refine ⟨b,o,cc,e,fr,rfl,by omega,hb,?_,?_⟩
    ·have cl:=hc (c - 1) Ya
     obtain ⟨y,hy⟩:∃ y,vals[c - 1]? =some y:=⟨_,List.getElem?_eq_getElem Ya⟩
     rw [hy,addr_add] at cl
     simp only [World.cell?,hb] at cl
     simp at cl
     have:=(Array.getElem?_eq_some_iff.1 cl).1
     omega
    ·intro i y hy
     rw [List.getElem?_take] at hy
     split at hy
     ·rename_i hik
      have cl:=hc i Ya
      rw [hy,addr_add] at cl
      simp only [World.cell?,hb] at cl
      simpa using cl
     ·cases hy
  ·cases c0
theorem ZpR {v:View} {vs:List View} {i:Nat} {u:View} (h:vAt vs i=some u):vAt (v::vs) i=some u:=by
 rw [Zb6,if_neg,h]
 have:=(List.getElem?_eq_some_iff.1 h).1
 simp at this
 omega
theorem ZbT {v:View} {vs:List View}:∀ b l,ZaD vs b=some l→ZaD (v::vs) b=some l:=by
 intro b l h
 simp only [ZaD,Option.map_eq_some_iff] at h ⊢
 obtain ⟨u,hu,rfl⟩:=h
 exact ⟨u,ZpR hu,rfl⟩
def Zc5 (W:World) (vs:List View):Prop:=∀ i v,vAt vs i=some v→v.of (ZaD vs) W
theorem Zc5.nil (W:World):Zc5 W []:=by
 intro i v h
 simp [vAt] at h
theorem View.Zmg {φ ψ:Zac} (hx:∀ b l,φ b=some l→ψ b=some l) {w:World} {v:View} (h:v.of φ w):v.of ψ w:=by
 obtain ⟨h0,c,e,fr,h1,h2,h3⟩:=h
 exact ⟨h0,c,e,fr,h1,h2,fun i x hi=>let ⟨a,y,b,d⟩:=h3 i x hi;⟨a,y,b,d.mono hx⟩⟩
theorem Does.ext {K:Cfg} (hK:CfgOK K) {h0 h:Heap} (x:Ext h0 h) {f:FuncId} {args:Array Value} {Q:Value→Heap→Prop} (H:Does K h0.size f args h Q):Does K h0.size f args h fun v h'=>Ext h0 h'∧Q v h':=by
 obtain ⟨n,v,h',hi,hq⟩:=H
 obtain ⟨k1,k2⟩:=(sound hK n).2.keeps x.1 hi
 exact ⟨n,v,h',hi,⟨Nat.le_trans x.1 k1,fun b hb=>(k2 b hb).trans (x.2 b hb)⟩,hq⟩
theorem Own.keep {low low':Nat} (hl:low≤low') {h w:Heap} {size n:Nat} {v:Value} {xs:List Value} (H:Own low' h size v n xs) (hk:∀ b,b < h.size→vblk v=some b→w.get b=h.get b∧b < w.size):Own low w size v n xs:=by
 rcases H with h1 | ⟨b,rfl,h2,h3,h4,h5⟩
 ·exact .inl h1
 ·have:=hk b h3 rfl
  exact .inr ⟨b,rfl,by omega,this.2,by rw [this.1];exact h4,h5⟩
theorem Own.shape {low:Nat} {h:Heap} {size n:Nat} {v:Value} {xs:List Value} (H:Own low h size v n xs):∃ a c,v= .slice a n c:=by
 rcases H with ⟨rfl,rfl,_⟩ | ⟨b,rfl,_⟩
 ·exact ⟨_,_,rfl⟩
 ·exact ⟨_,_,rfl⟩
theorem Own.isl {low:Nat} {h:Heap} {size n:Nat} {v:Value} {xs:List Value} (H:Own low h size v n xs):Zak h size v=some xs:=by
 rcases H with ⟨rfl,rfl,rfl⟩ | ⟨b,rfl,_,h3,h4,h5⟩
 ·rfl
 ·simp only [Zak,Heap.look,h4,Blk.read]
  rw [if_pos ⟨trivial,by omega⟩,List.drop_zero,List.take_of_length_le Ya]
theorem Own.sl {low:Nat} {h:Heap} {size n:Nat} {a:Option Addr} {c:Nat} {xs:List Value} (H:Own low h size (.slice a n c) n xs):Sl h size a n c xs:=by
 rcases H with ⟨h1,h2,rfl⟩ | ⟨b,h1,h2,h3,h4,h5⟩
 ·cases h1
  exact .inl ⟨rfl,rfl,rfl,rfl⟩
 ·cases h1
  exact .inr (.inr ⟨b,0,xs,rfl,by simp [big],h3,by rw [h4];rfl,by omega,by rw [List.drop_zero,List.take_of_length_le Ya],.inr rfl⟩)
theorem app0 {low:Nat} {h:Heap} {size bytes b k:Nat} {new:List Value} (hg:h.get b= .cells [] size) (hs:0 < size) (hbb:b < h.size) (hn:new.length=k*size) (hb:2*k*bytes≤140737488355328) (hc:k≤4611686018427387904) :
  ∃ a c w,iapp low h size bytes (.slice (some ⟨b,0,none⟩) 0 0) k (some new)=some (.slice a k c,w)∧Ext h w∧((k=0∧a=some ⟨b,0,none⟩∧c=0∧w=h)∨(0 < k∧a=some ⟨h.size,0,none⟩∧c=big∧w=h.push (.cells new size)))∧Sl w size a k c new:=by
 by_cases h0:k=0
 ·subst h0
  refine ⟨_,_,h,?_,Ext.refl h,.inl ⟨rfl,rfl,rfl,rfl⟩,.inr (.inl ⟨b,0,rfl,rfl,rfl,List.eq_nil_of_length_eq_zero Ya⟩)⟩
  simp only [iapp,Nat.zero_add]
  rw [if_neg Ya,if_pos trivial]
 ·refine ⟨_,_,_,?_,(Ext.refl h).push _,.inr ⟨by omega,rfl,rfl,rfl⟩,.inr (.inr ⟨h.size,0,new,rfl,by simp [big],by simp,by rw [Heap.Zam,if_pos rfl];rfl,by omega,by rw [List.drop_zero,List.take_of_length_le Ya],.inr rfl⟩)⟩
  simp only [iapp,Nat.zero_add]
  rw [if_neg Ya,if_neg h0]
  simp only [iput,hg,Nat.zero_mul,List.length_nil,Nat.zero_add]
  rw [if_neg Yp,if_pos YT,if_neg Ya]
  simp
theorem Zbu {low:Nat} {h w:Heap} (hlow:low≤h.size) (x:Ext h w) {size bytes:Nat} {v:Value} {n k:Nat} {xs new:List Value} (H:Own h.size w size v n xs) (hs:0 < size) (hk:0 < k) (hn:new.length=k*size)
  (hb:2*(n+k)*bytes≤140737488355328) (hc:n+k≤4611686018427387904) :
  ∃ w',iapp low w size bytes v k (some new)=some (.slice (some ⟨w.size,0,none⟩) (n+k) big,w')∧Own h.size w' size (.slice (some ⟨w.size,0,none⟩) (n+k) big) (n+k) (xs++new)∧w'.size=w.size+1∧Ext h w':=by
 obtain ⟨w',h1,h2,h3,h4⟩:=ZdC (H.keep hlow fun b hb _=>⟨rfl,hb⟩) (Nat.le_trans hlow x.1) hs hk hn hb hc
 refine ⟨w',h1,?_,h3,⟨by have:=x.1;omega,fun b hb=> ?_⟩⟩
 ·rcases h2 with ⟨h5,_⟩ | ⟨b,h5,_,h6,h7,h8⟩
  ·cases h5
  ·cases h5
   exact .inr ⟨w.size,rfl,x.1,h6,h7,h8⟩
 ·rw [h4 b (by have:=x.1;omega),x.2 b hb]
  rcases H with ⟨rfl,_⟩ | ⟨b',rfl,h5,_⟩
  ·simp [vblk]
  ·simp only [vblk,ne_eq,Option.some.injEq]
   omega
theorem Own.ne {low:Nat} {h:Heap} {size n b e:Nat} {v:Value} {xs C:List Value} (H:Own low h size v n xs) (hg:h.get b= .cells C e) (he:e≠size):vblk v≠some b:=by
 rcases H with ⟨rfl,_,_⟩ | ⟨q,rfl,_,_,hq,_⟩
 ·simp [vblk]
 ·intro hh
  simp only [vblk,Option.some.injEq] at hh
  rw [hh,hg] at hq
  simp only [Blk.cells.injEq] at hq
  exact he hq.2
end Go.Im
