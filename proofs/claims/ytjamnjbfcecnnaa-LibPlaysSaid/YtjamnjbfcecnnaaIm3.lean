/- Proved here: rules by which the ideal machine is stepped through a function; no condition beyond those that each rule names. -/
import Derived.Test.YtjamnjbfcecnnaaIm2
import Derived.Below
import Derived.WalkKit
import Derived.IntWalk
import Derived.SliceStrings
import Derived.ChangeSlices
namespace Go.Im
open Go.RowKit

def h0 : Heap := ⟨0, .leaf⟩
theorem RH.empty (w : World) : RH (fun _ => none) h0 w where
  low := fun _ _ h => by cases h
  blk := fun _ _ h => by cases h
  inj := fun _ _ _ _ h => by cases h

theorem Goes.below {low : Nat} {φ ψ : Places} {h h' : Heap} {w w' : World} (g : Goes low φ h w ψ h' w') (hn : ∀ b l, low ≤ b → φ b = some l → False) : Below w.heap.size w w' :=
  ⟨g.os, g.tape, g.output, g.size, fun i hi => g.kept i hi fun b l hb hl => (hn b l hb hl).elim⟩

/-- Behind a run of the ideal machine at arguments without memory. -/
theorem calls_atomic {K : Cfg} (hK : CfgOK K) {n : Nat} {f : FuncId} {args : Array Value} {h' : Heap} {v : Value} (hi : icall K n 0 f args h0 = some (v, h')) (ha : args.toList.all Im.atomic = true) (hv : Im.atomic v = true) (w : World) (ht : K.tied.holds (fun _ => none) := by exact True.intro) :
    Calls K.P f args w fun e w' => e = .returned v ∧ Below w.heap.size w w' :=
  (calls_of_icall hK (Nat.zero_le _) hi (RL.atomic _ ha) (RH.empty w) ht).mono fun e w' ⟨ψ, v', he, hr, g⟩ => by
    refine ⟨?_, g.below fun b l _ h => by cases h⟩
    rw [he]
    congr 1
    cases hr <;> first | rfl | simp [Im.atomic] at hv

def isT : Option (Value × Heap) → Bool
  | some (.bool true, _) => true
  | _ => false
theorem isT_some {r : Option (Value × Heap)} (h : isT r = true) : ∃ h', r = some (.bool true, h') := by
  match r with
  | none => simp [isT] at h
  | some (.bool true, h') => exact ⟨h', rfl⟩
  | some (.bool false, _) => simp [isT] at h
  | some (.int _ _, _) => simp [isT] at h
  | some (.float _ _, _) => simp [isT] at h
  | some (.string _, _) => simp [isT] at h
  | some (.pointer _, _) => simp [isT] at h
  | some (.slice _ _ _, _) => simp [isT] at h
  | some (.map _, _) => simp [isT] at h
  | some (.agg _, _) => simp [isT] at h
  | some (.tuple _, _) => simp [isT] at h
  | some (.chan _, _) => simp [isT] at h
  | some (.func _ _ _, _) => simp [isT] at h
  | some (.nilFunc, _) => simp [isT] at h
  | some (.iface _ _, _) => simp [isT] at h
  | some (.nilIface, _) => simp [isT] at h

/-- A law at arguments without memory. -/
theorem calls_true {K : Cfg} (hK : CfgOK K) {n : Nat} {f : FuncId} {args : Array Value} (hi : isT (icall K n 0 f args h0) = true) (ha : args.toList.all Im.atomic = true) (w : World) (ht : K.tied.holds (fun _ => none) := by exact True.intro) :
    Calls K.P f args w fun e w' => e = .returned (.bool true) ∧ Below w.heap.size w w' := by
  obtain ⟨h', e⟩ := isT_some hi
  exact calls_atomic hK e ha rfl w ht

/-- What CfgOK asks of one function. -/
def fnLook (P : Program) (pm : Nat → Nat → Pu) (dy : Nat → Nat → List (Nat × Nat)) (f : Nat) : Bool :=
  match P.funcs[f]? with
  | some fn => match fn.body with
    | some c => codeOK (pm f) (dy f) c && !(fn.name == "runtime.NumGoroutine")
    | none => true
  | none => true

/-- What is known of a function of plain values. -/
structure Fact (P : Program) where
  f : FuncId
  fn : ∃ fn, P.funcs[f]? = some fn ∧ fn.body.isNone = false ∧ (fn.name == "runtime.NumGoroutine") = false
  run : Array Value → Option Value
  ok : ∀ args v, run args = some v → args.toList.all Im.atomic = true ∧ Im.atomic v = true ∧ ∀ w, Calls P f args w fun e w' => e = .returned v ∧ Below w.heap.size w w'

theorem RV.atomic_inv {φ : Places} {v v' : Value} (hv : Im.atomic v = true) (h : RV φ v v') : v' = v := by
  cases h <;> first | rfl | (simp [Im.atomic] at hv)
theorem RL.atomic_inv {φ : Places} : ∀ {l l' : List Value}, l.all Im.atomic = true → RL φ l l' → l' = l
  | [], [], _, _ => rfl
  | [], _ :: _, _, h => by simp [RL] at h
  | _ :: _, [], _, h => by simp [RL] at h
  | v :: l, v' :: l', hv, h => by
    simp only [List.all_cons, Bool.and_eq_true] at hv
    obtain ⟨h1, h2⟩ := h.tail
    rw [h1.atomic_inv hv.1, RL.atomic_inv hv.2 h2]

theorem Below.goes {low : Nat} {φ : Places} {h : Heap} {w w' : World} (r : RH φ h w) (b : Below w.heap.size w w') : Goes low φ h w φ h w' where
  ext := fun _ _ h => h
  old := fun _ _ => rfl
  rh := {
    low := fun i l hl => ⟨(r.low i l hl).1, Nat.lt_of_lt_of_le (r.low i l hl).2 b.size⟩
    blk := fun i l hl => by
      rw [b.block _ (r.low i l hl).2]
      exact r.blk i l hl
    inj := r.inj }
  grows := Nat.le_refl _
  fresh := fun i l hb hl => by have := (r.low i l hl).1; omega
  os := b.os
  tape := b.tape
  output := b.output
  size := b.size
  kept := fun i hi _ => b.block i hi

/-- A table of what is known. -/
def table {P : Program} (fs : List (Fact P)) (f : FuncId) : Option (Nat → Array Value → Heap → Option (Value × Heap)) := match fs with
  | [] => none
  | x :: fs => if x.f = f then some fun _ args h => (x.run args).map fun v => (v, h) else table fs f

theorem table_ok {P : Program} {K : Cfg} (hP : K.P = P) (fs : List (Fact P)) (hx : ∀ f, K.ext f = table fs f) : CallOK K.P K.tied K.known := by
  have inv : ∀ {low f args h v h'}, K.known low f args h = some (v, h') → ∃ x : Fact P, x.f = f ∧ x.run args = some v ∧ h' = h := by
    intro low f args h v h' hk
    simp only [Cfg.known, hx] at hk
    clear hx
    induction fs with
    | nil => simp [table] at hk
    | cons x fs ih =>
      simp only [table] at hk
      by_cases hf : x.f = f
      · rw [if_pos hf] at hk
        simp only [Option.map_eq_some_iff] at hk
        obtain ⟨v1, h1, h2⟩ := hk
        cases h2
        exact ⟨x, hf, h1, rfl⟩
      · rw [if_neg hf] at hk
        exact ih hk
  constructor
  · intro low f args h v h' hk
    obtain ⟨x, rfl, _, _⟩ := inv hk
    rw [hP]
    exact x.fn
  · intro low f args h v h' hl hk
    obtain ⟨x, _, _, rfl⟩ := inv hk
    exact ⟨Nat.le_refl _, fun _ _ => rfl⟩
  · intro low f args h v h' hl hk φ w args' ha hr _
    obtain ⟨x, rfl, hrun, rfl⟩ := inv hk
    obtain ⟨h1, h2, h3⟩ := x.ok args v hrun
    have e : args' = args := Array.toList_inj.1 (RL.atomic_inv h1 ha)
    rw [e, hP]
    exact (h3 w).mono fun e w' ⟨he, hb⟩ => ⟨φ, v, he, RV.atomic φ h2, Below.goes hr hb⟩

/-- The configuration of the functions of a list, with the regions whose calls are taken to be pure, and what is known already. -/
def dyAt (dy : List (Nat × Nat × List (Nat × Nat))) (f r : Nat) : List (Nat × Nat) := match dy with
  | [] => []
  | x :: dy => if x.1 = f ∧ x.2.1 = r then x.2.2 else dyAt dy f r
def pmAt (pm : List (Nat × Nat × List FuncId)) (f r : Nat) : Pu := match pm with
  | [] => none
  | x :: pm => if x.1 = f ∧ x.2.1 = r then some x.2.2 else pmAt pm f r
def cfg (P : Program) (fs : List Nat) (pm : List (Nat × Nat × List FuncId)) (dy : List (Nat × Nat × List (Nat × Nat))) (xs : List (Fact P)) : Cfg := ⟨P, fun f => fs.contains f, pmAt pm, dyAt dy, table xs, Tied.free⟩
theorem cfg_ok {P : Program} {fs : List Nat} {pm : List (Nat × Nat × List FuncId)} {dy : List (Nat × Nat × List (Nat × Nat))} {xs : List (Fact P)} (h0 : P.follows .mixedOrders = true) (h : fs.all (fnLook P (pmAt pm) (dyAt dy)) = true) : CfgOK (cfg P fs pm dy xs) where
  follows := h0
  fn := by
    intro f fn c hf hfn hc
    have := List.all_eq_true.1 h f (by simpa [cfg] using hf)
    simp only [cfg] at hfn
    simp only [fnLook, hfn, hc, Bool.and_eq_true, Bool.not_eq_true'] at this
    exact this
  ext := table_ok rfl xs fun _ => rfl
  lower := by
    intro low low' f args h r _ hk
    have e : (cfg P fs pm dy xs).known low' f args h = (cfg P fs pm dy xs).known low f args h := by
      simp only [Cfg.known, cfg]
      induction xs with
      | nil => rfl
      | cons x xs ih =>
        simp only [table]
        by_cases hf : x.f = f
        · simp only [if_pos hf]
        · simp only [if_neg hf]
          exact ih (by simpa only [Cfg.known, cfg, table, if_neg hf] using hk)
    rw [e]
    exact hk
end Go.Im

namespace Go.Im

/-! ### More fuel changes nothing -/
theorem iregion_mono {P : Program} {low : Nat} {p : Pu} {c d : Nat → FuncId → Array Value → Heap → Option (Value × Heap)} (hcd : ∀ l f a h r, c l f a h = some r → d l f a h = some r) {ops : Array Oper} :
    ∀ {rest : List Oper} {e : Env} {h : Heap} {r : Env × Heap}, iregion P low p c ops rest e h = some r → iregion P low p d ops rest e h = some r
  | [], e, h, r, H => by simpa [iregion] using H
  | o :: rest, e, h, r, H => by
    simp only [iregion] at H ⊢
    split at H
    · cases H
    · rename_i hw
      try rw [hw]
      exact iregion_mono hcd H
    · rename_i hw
      try rw [hw]
      try simp only
      split at H
      · cases H
      · rename_i hi
        try rw [hi]
        exact iregion_mono hcd H
      · rename_i hi
        try rw [hi]
        exact iregion_mono hcd H
      · rename_i hi
        try rw [hi]
        try simp only
        split at H
        · cases H
        · rename_i hc
          try rw [hcd _ _ _ _ _ hc]
          exact iregion_mono hcd H

theorem fuel_mono {K : Cfg} : ∀ n, (∀ low f c e h r, ieval K n low f c e h = some r → ieval K (n + 1) low f c e h = some r) ∧ (∀ low f a h r, icall K n low f a h = some r → icall K (n + 1) low f a h = some r)
  | 0 => by
    constructor
    · intro low f c e h r H
      simp [ieval] at H
    · intro low f a h r H
      simp [icall] at H
  | n + 1 => by
    obtain ⟨ihE, ihC⟩ := fuel_mono (K := K) n
    constructor
    · intro low f c e h r H
      unfold ieval at H ⊢
      cases c with
      | region id ops draw =>
        simp only at H ⊢
        split at H
        · rename_i hr
          rw [iregion_mono (d := icall K (n + 1)) (fun l f a h r => ihC l f a h r) hr]
          split at H
          · rename_i hd
            simp only [hd, if_true]
            exact H
          · cases H
        · cases H
      | seq a b =>
        simp only at H ⊢
        split at H
        · rename_i he
          rw [ihE _ _ _ _ _ _ he]
          exact ihE _ _ _ _ _ _ H
        · rename_i r' hne
          rw [ihE _ _ _ _ _ _ H]
          split
          · rename_i e1 h1 heq
            exact absurd (H.trans heq) (hne e1 h1)
          · rfl
      | cond c a b =>
        simp only at H ⊢
        split at H
        · exact ihE _ _ _ _ _ _ H
        · exact ihE _ _ _ _ _ _ H
        · cases H
      | block id b =>
        simp only at H ⊢
        split at H
        · rename_i he
          rw [ihE _ _ _ _ _ _ he]
          exact H
        · rename_i r' hne
          rw [ihE _ _ _ _ _ _ H]
          split
          · rename_i id' e1 h1 heq
            exact absurd (H.trans heq) (hne id' e1 h1)
          · rfl
      | loop b =>
        simp only at H ⊢
        split at H
        · rename_i he
          rw [ihE _ _ _ _ _ _ he]
          exact ihE _ _ _ _ _ _ H
        · rename_i r' hne
          rw [ihE _ _ _ _ _ _ H]
          split
          · rename_i e1 h1 heq
            exact absurd (H.trans heq) (hne e1 h1)
          · rfl
      | scope b => exact ihE _ _ _ _ _ _ H
      | _ => exact H
    · intro low f a h r H
      unfold icall at H ⊢
      cases hx : K.ext f with
      | some g =>
        rw [hx] at H
        exact H
      | none =>
      rw [hx] at H
      simp only at H ⊢
      split at H
      · rename_i hok
        rw [if_pos hok]
        split at H
        · rename_i fn hf
          try rw [hf]
          try simp only
          split at H
          · rename_i c hb
            try rw [hb]
            try simp only
            split at H
            · rename_i he
              rw [ihE _ _ _ _ _ _ he]
              exact H
            · rename_i he
              rw [ihE _ _ _ _ _ _ he]
              exact H
            · cases H
          · cases H
        · cases H
      · cases H

theorem ieval_le {K : Cfg} {n m : Nat} (hnm : n ≤ m) {low : Nat} {f : FuncId} {c : Code} {e : Env} {h : Heap} {r : Ex × Env × Heap} (H : ieval K n low f c e h = some r) : ieval K m low f c e h = some r := by
  induction hnm with
  | refl => exact H
  | step _ ih => exact (fuel_mono _).1 _ _ _ _ _ _ ih
theorem icall_le {K : Cfg} {n m : Nat} (hnm : n ≤ m) {low : Nat} {f : FuncId} {a : Array Value} {h : Heap} {r : Value × Heap} (H : icall K n low f a h = some r) : icall K m low f a h = some r := by
  induction hnm with
  | refl => exact H
  | step _ ih => exact (fuel_mono _).2 _ _ _ _ _ ih

/-! ### The stack -/
inductive Fr where
  | code (c : Code)
  | ops (pure : Pu) (all : Array Oper) (rest : List Oper)
  | blk (id : Nat)
  | loop (b : Code)
  | chk (ops : Array Oper) (s : Nat) (l : List (Nat × Nat))

/-- The check of pairs, where there are any. -/
def chks (ops : Array Oper) (s : Nat) (l : List (Nat × Nat)) (fs : List Fr) : List Fr := match l with
  | [] => fs
  | x :: l => .chk ops s (x :: l) :: fs

def unwind (id : Nat) : List Fr → Option (List Fr)
  | [] => none
  | .blk id' :: fs => if id = id' then some fs else unwind id fs
  | _ :: fs => unwind id fs

def go (K : Cfg) (low : Nat) (f : FuncId) : Nat → List Fr → Env → Heap → Option (Env × Heap)
  | 0, _, _, _ => none
  | n + 1, fs, e, h => match fs with
    | [] => some (e, h)
    | .code c :: fs => match c with
      | .skip => go K low f n fs e h
      | .label _ => go K low f n fs e h
      | .region id ops draw => go K low f n (.ops (if draw then K.pm f id else none) ops ops.toList :: chks ops h.size (K.dy f id) fs) e h
      | .seq a b => go K low f n (.code a :: .code b :: fs) e h
      | .cond c a b => match e.eval c with
        | .bool true => go K low f n (.code a :: fs) e h
        | .bool false => go K low f n (.code b :: fs) e h
        | _ => none
      | .block id b => go K low f n (.code b :: .blk id :: fs) e h
      | .loop b => go K low f n (.code b :: .loop b :: fs) e h
      | .exit id => match unwind id fs with
        | some fs => go K low f n fs e h
        | none => none
      | .scope b => go K low f n (.code b :: fs) e h
      | .ret => some (e, h)
      | _ => none
    | .ops _ _ [] :: fs => go K low f n fs e h
    | .ops p all (o :: rest) :: fs => match iwanted all o e with
      | none => none
      | some false => go K low f n (.ops p all rest :: fs) (e.put o.dst undef) h
      | some true => match iop K.P low o e.eval h with
        | none => none
        | some (.val v, h) => go K low f n (.ops p all rest :: fs) (e.put o.dst v) h
        | some (.skip, h) => go K low f n (.ops p all rest :: fs) (e.put o.dst undef) h
        | some (.enter g args, h) => match icall K n (if p.of o.op then h.size else low) g args h with
          | none => none
          | some (v, h) => go K low f n (.ops p all rest :: fs) (e.put o.dst v) h
    | .blk _ :: fs => go K low f n fs e h
    | .loop b :: fs => go K low f n (.code (.loop b) :: fs) e h
    | .chk ops s l :: fs => if dyOK ops s e l then go K low f n fs e h else none

theorem go_mono {K : Cfg} {low : Nat} {f : FuncId} : ∀ (n : Nat) {fs : List Fr} {e : Env} {h : Heap} {r : Env × Heap}, go K low f n fs e h = some r → go K low f (n + 1) fs e h = some r
  | 0, fs, e, h, r, H => by simp [go] at H
  | n + 1, fs, e, h, r, H => by
    unfold go at H ⊢
    split at H
    · exact H
    · rename_i c fs
      cases c with
      | cond c a b =>
        simp only at H ⊢
        split at H
        · exact go_mono n H
        · exact go_mono n H
        · cases H
      | exit id =>
        simp only at H ⊢
        split at H
        · exact go_mono n H
        · cases H
      | skip => exact go_mono n H
      | label l => exact go_mono n H
      | region id ops d => exact go_mono n H
      | seq a b => exact go_mono n H
      | block id b => exact go_mono n H
      | loop b => exact go_mono n H
      | scope b => exact go_mono n H
      | ret => exact H
      | _ => exact absurd H (by simp)
    · exact go_mono n H
    · split at H
      · cases H
      · exact go_mono n H
      · split at H
        · cases H
        · exact go_mono n H
        · exact go_mono n H
        · split at H
          · cases H
          · rename_i hc
            simp only [(fuel_mono n).2 _ _ _ _ _ hc]
            exact go_mono n H
    · exact go_mono n H
    · exact go_mono n H
    · split at H
      · rename_i hd
        simp only [hd, if_true]
        exact go_mono n H
      · cases H
theorem go_le {K : Cfg} {low : Nat} {f : FuncId} {n m : Nat} (hnm : n ≤ m) {fs : List Fr} {e : Env} {h : Heap} {r : Env × Heap} (H : go K low f n fs e h = some r) : go K low f m fs e h = some r := by
  induction hnm with
  | refl => exact H
  | step _ ih => exact go_mono _ ih

/-! ### What the stack does, ieval does -/
theorem go_ops {K : Cfg} {low : Nat} {f : FuncId} {p : Pu} {all : Array Oper} {fs : List Fr} {r : Env × Heap} : ∀ (n : Nat) {rest : List Oper} {e : Env} {h : Heap}, go K low f n (.ops p all rest :: fs) e h = some r →
    ∃ e1 h1, iregion K.P low p (icall K n) all rest e h = some (e1, h1) ∧ ∃ k, k < n ∧ go K low f k fs e1 h1 = some r
  | 0, rest, e, h, H => by simp [go] at H
  | n + 1, [], e, h, H => ⟨e, h, rfl, n, Nat.lt_succ_self _, by simpa [go] using H⟩
  | n + 1, o :: rest, e, h, H => by
    have up : ∀ {rest : List Oper} {e : Env} {h : Heap} {r : Env × Heap}, iregion K.P low p (icall K n) all rest e h = some r → iregion K.P low p (icall K (n + 1)) all rest e h = some r :=
      fun H => iregion_mono (fun l g a h r => (fuel_mono n).2 l g a h r) H
    simp only [go] at H
    simp only [iregion]
    split at H
    · cases H
    · rename_i hw
      obtain ⟨e1, h1, hr, k, hk, hg⟩ := go_ops n H
      exact ⟨e1, h1, by rw [hw]; exact up hr, k, by omega, hg⟩
    · rename_i hw
      split at H
      · cases H
      · rename_i hi
        obtain ⟨e1, h1, hr, k, hk, hg⟩ := go_ops n H
        exact ⟨e1, h1, by rw [hw]; simp only [hi]; exact up hr, k, by omega, hg⟩
      · rename_i hi
        obtain ⟨e1, h1, hr, k, hk, hg⟩ := go_ops n H
        exact ⟨e1, h1, by rw [hw]; simp only [hi]; exact up hr, k, by omega, hg⟩
      · rename_i hi
        split at H
        · cases H
        · rename_i hc
          obtain ⟨e1, h1, hr, k, hk, hg⟩ := go_ops n H
          exact ⟨e1, h1, by rw [hw]; simp only [hi, (fuel_mono n).2 _ _ _ _ _ hc]; exact up hr, k, by omega, hg⟩

def after (K : Cfg) (low : Nat) (f : FuncId) (n : Nat) (fs : List Fr) (r : Env × Heap) (x : Ex) (e : Env) (h : Heap) : Prop := match x with
  | .normal => ∃ k, k < n ∧ go K low f k fs e h = some r
  | .ret => r = (e, h)
  | .exit id => ∃ fs', unwind id fs = some fs' ∧ ∃ k, k < n ∧ go K low f k fs' e h = some r

theorem after_le {K : Cfg} {low : Nat} {f : FuncId} {n m : Nat} (hnm : n ≤ m) {fs : List Fr} {r : Env × Heap} {x : Ex} {e : Env} {h : Heap} (H : after K low f n fs r x e h) : after K low f m fs r x e h := by
  cases x with
  | normal => obtain ⟨k, hk, hg⟩ := H; exact ⟨k, by omega, hg⟩
  | ret => exact H
  | exit id => obtain ⟨fs', hu, k, hk, hg⟩ := H; exact ⟨fs', hu, k, by omega, hg⟩

theorem go_code {K : Cfg} {low : Nat} {f : FuncId} {r : Env × Heap} : ∀ (N n : Nat), n ≤ N → ∀ {c : Code} {fs : List Fr} {e : Env} {h : Heap}, go K low f n (.code c :: fs) e h = some r →
    ∃ m x e1 h1, ieval K m low f c e h = some (x, e1, h1) ∧ after K low f n fs r x e1 h1
  | _, 0, _, c, fs, e, h, H => by simp [go] at H
  | 0, n + 1, hn, c, fs, e, h, H => by omega
  | N + 1, n + 1, hn, c, fs, e, h, H => by
    have hnN : n ≤ N := by omega
    cases c with
    | skip => exact ⟨1, .normal, e, h, rfl, n, by omega, by simpa [go] using H⟩
    | label l => exact ⟨1, .normal, e, h, rfl, n, by omega, by simpa [go] using H⟩
    | region id ops draw =>
      simp only [go] at H
      obtain ⟨e1, h1, hr, k, hk, hg⟩ := go_ops n H
      cases hdl : K.dy f id with
      | nil =>
        rw [hdl] at hg
        exact ⟨n + 1, .normal, e1, h1, by simp only [ieval, hr, hdl, dyOK, List.all_nil, if_true], k, by omega, hg⟩
      | cons x l =>
        rw [hdl] at hg
        cases k with
        | zero => simp [go] at hg
        | succ k =>
          simp only [chks, go] at hg
          split at hg
          · rename_i hd
            exact ⟨n + 1, .normal, e1, h1, by simp only [ieval, hr, hdl, hd, if_true], k, by omega, hg⟩
          · cases hg
    | seq a b =>
      simp only [go] at H
      obtain ⟨m, x, e1, h1, he, ha⟩ := go_code N n hnN H
      cases x with
      | normal =>
        obtain ⟨k, hk, hg⟩ := ha
        obtain ⟨m', x', e2, h2, he', ha'⟩ := go_code N k (by omega) hg
        refine ⟨max m m' + 1, x', e2, h2, ?_, after_le (by omega) ha'⟩
        simp only [ieval, ieval_le (Nat.le_max_left m m') he]
        exact ieval_le (Nat.le_max_right m m') he'
      | ret => exact ⟨m + 1, .ret, e1, h1, by simp only [ieval, he], ha⟩
      | exit id =>
        obtain ⟨fs', hu, k, hk, hg⟩ := ha
        exact ⟨m + 1, .exit id, e1, h1, by simp only [ieval, he], fs', by simpa [unwind] using hu, k, by omega, hg⟩
    | cond c a b =>
      simp only [go] at H
      split at H
      · rename_i hc
        obtain ⟨m, x, e1, h1, he, ha⟩ := go_code N n hnN H
        exact ⟨m + 1, x, e1, h1, by simp only [ieval, hc]; exact he, after_le (by omega) ha⟩
      · rename_i hc
        obtain ⟨m, x, e1, h1, he, ha⟩ := go_code N n hnN H
        exact ⟨m + 1, x, e1, h1, by simp only [ieval, hc]; exact he, after_le (by omega) ha⟩
      · cases H
    | block id b =>
      simp only [go] at H
      obtain ⟨m, x, e1, h1, he, ha⟩ := go_code N n hnN H
      cases x with
      | normal =>
        obtain ⟨k, hk, hg⟩ := ha
        cases k with
        | zero => simp [go] at hg
        | succ k => exact ⟨m + 1, .normal, e1, h1, by simp only [ieval, he], k, by omega, by simpa [go] using hg⟩
      | ret => exact ⟨m + 1, .ret, e1, h1, by simp only [ieval, he], ha⟩
      | exit id' =>
        obtain ⟨fs', hu, k, hk, hg⟩ := ha
        by_cases hid : id' = id
        · refine ⟨m + 1, .normal, e1, h1, by simp only [ieval, he, if_pos hid], k, by omega, ?_⟩
          simp only [unwind, if_pos hid, Option.some.injEq] at hu
          subst hu
          exact hg
        · refine ⟨m + 1, .exit id', e1, h1, by simp only [ieval, he, if_neg hid], fs', ?_, k, by omega, hg⟩
          simpa [unwind, if_neg hid] using hu
    | loop b =>
      simp only [go] at H
      obtain ⟨m, x, e1, h1, he, ha⟩ := go_code N n hnN H
      cases x with
      | normal =>
        obtain ⟨k, hk, hg⟩ := ha
        cases k with
        | zero => simp [go] at hg
        | succ k =>
          simp only [go] at hg
          obtain ⟨m', x', e2, h2, he', ha'⟩ := go_code N k (by omega) hg
          refine ⟨max m m' + 1, x', e2, h2, ?_, after_le (by omega) ha'⟩
          simp only [ieval, ieval_le (Nat.le_max_left m m') he]
          exact ieval_le (Nat.le_max_right m m') he'
      | ret => exact ⟨m + 1, .ret, e1, h1, by simp only [ieval, he], ha⟩
      | exit id =>
        obtain ⟨fs', hu, k, hk, hg⟩ := ha
        exact ⟨m + 1, .exit id, e1, h1, by simp only [ieval, he], fs', by simpa [unwind] using hu, k, by omega, hg⟩
    | exit id =>
      simp only [go] at H
      split at H
      · rename_i fs' hu
        exact ⟨1, .exit id, e, h, rfl, fs', hu, n, by omega, H⟩
      · cases H
    | scope b =>
      simp only [go] at H
      obtain ⟨m, x, e1, h1, he, ha⟩ := go_code N n hnN H
      exact ⟨m + 1, x, e1, h1, by simp only [ieval]; exact he, after_le (by omega) ha⟩
    | ret => exact ⟨1, .ret, e, h, rfl, by simpa [go, after, eq_comm] using H⟩
    | _ => simp [go] at H
end Go.Im

namespace Go.Im
@[go_sem] theorem dyAt_nil {f r : Nat} : dyAt [] f r = [] := rfl
@[go_sem] theorem dyAt_cons {f r : Nat} {x : Nat × Nat × List (Nat × Nat)} {dy : List (Nat × Nat × List (Nat × Nat))} : dyAt (x :: dy) f r = if x.1 = f ∧ x.2.1 = r then x.2.2 else dyAt dy f r := rfl

/-- The stack is done, and then Q holds. -/
def W (K : Cfg) (low : Nat) (f : FuncId) (fs : List Fr) (e : Env) (h : Heap) (Q : Env → Heap → Prop) : Prop := ∃ n e' h', go K low f n fs e h = some (e', h') ∧ Q e' h'

/-- A call answers, and then Q holds. -/
def Does (K : Cfg) (low : Nat) (f : FuncId) (args : Array Value) (h : Heap) (Q : Value → Heap → Prop) : Prop := ∃ n v h', icall K n low f args h = some (v, h') ∧ Q v h'

theorem Does.mono {K : Cfg} {low : Nat} {f : FuncId} {args : Array Value} {h : Heap} {Q R : Value → Heap → Prop} (H : Does K low f args h Q) (hqr : ∀ v h', Q v h' → R v h') : Does K low f args h R := by
  obtain ⟨n, v, h', hi, hq⟩ := H
  exact ⟨n, v, h', hi, hqr _ _ hq⟩
theorem W.mono {K : Cfg} {low : Nat} {f : FuncId} {fs : List Fr} {e : Env} {h : Heap} {Q R : Env → Heap → Prop} (H : W K low f fs e h Q) (hqr : ∀ e' h', Q e' h' → R e' h') : W K low f fs e h R := by
  obtain ⟨n, v, h', hi, hq⟩ := H
  exact ⟨n, v, h', hi, hqr _ _ hq⟩

section
variable {K : Cfg} {low : Nat} {f : FuncId} {fs : List Fr} {e : Env} {h : Heap} {Q : Env → Heap → Prop}

theorem W_step {fs' : List Fr} {e' : Env} {h' : Heap} (H : ∀ n, go K low f (n + 1) fs e h = go K low f n fs' e' h') : W K low f fs e h Q ↔ W K low f fs' e' h' Q := by
  constructor
  · rintro ⟨n, e1, h1, hg, hq⟩
    cases n with
    | zero => simp [go] at hg
    | succ n => exact ⟨n, e1, h1, by rw [← H]; exact hg, hq⟩
  · rintro ⟨n, e1, h1, hg, hq⟩
    exact ⟨n + 1, e1, h1, by rw [H]; exact hg, hq⟩

@[go_sem] theorem W_nil : W K low f [] e h Q ↔ Q e h := by
  constructor
  · rintro ⟨n, e1, h1, hg, hq⟩
    cases n with
    | zero => simp [go] at hg
    | succ n =>
      simp only [go, Option.some.injEq, Prod.mk.injEq] at hg
      obtain ⟨rfl, rfl⟩ := hg
      exact hq
  · intro hq
    exact ⟨1, e, h, rfl, hq⟩
@[go_sem] theorem W_ret : W K low f (.code .ret :: fs) e h Q ↔ Q e h := by
  constructor
  · rintro ⟨n, e1, h1, hg, hq⟩
    cases n with
    | zero => simp [go] at hg
    | succ n =>
      simp only [go, Option.some.injEq, Prod.mk.injEq] at hg
      obtain ⟨rfl, rfl⟩ := hg
      exact hq
  · intro hq
    exact ⟨1, e, h, rfl, hq⟩
@[go_sem] theorem W_skip : W K low f (.code .skip :: fs) e h Q ↔ W K low f fs e h Q := W_step fun _ => rfl
@[go_sem] theorem W_label {l : Nat} : W K low f (.code (.label l) :: fs) e h Q ↔ W K low f fs e h Q := W_step fun _ => rfl
theorem W_region {id : Nat} {ops : Array Oper} {d : Bool} : W K low f (.code (.region id ops d) :: fs) e h Q ↔ W K low f (.ops (if d then K.pm f id else none) ops ops.toList :: chks ops h.size (K.dy f id) fs) e h Q := W_step fun _ => rfl
@[go_sem] theorem chks_nil {ops : Array Oper} {s : Nat} : chks ops s [] fs = fs := rfl
@[go_sem] theorem chks_cons {ops : Array Oper} {s : Nat} {x : Nat × Nat} {l : List (Nat × Nat)} : chks ops s (x :: l) fs = .chk ops s (x :: l) :: fs := rfl
theorem W_chk {ops : Array Oper} {s : Nat} {l : List (Nat × Nat)} (hd : dyOK ops s e l = true) (H : W K low f fs e h Q) : W K low f (.chk ops s l :: fs) e h Q := (W_step (fs' := fs) (e' := e) (h' := h) fun _ => by simp only [go, hd, if_true]).2 H
@[go_sem] theorem W_seq {a b : Code} : W K low f (.code (.seq a b) :: fs) e h Q ↔ W K low f (.code a :: .code b :: fs) e h Q := W_step fun _ => rfl
@[go_sem] theorem W_block {id : Nat} {b : Code} : W K low f (.code (.block id b) :: fs) e h Q ↔ W K low f (.code b :: .blk id :: fs) e h Q := W_step fun _ => rfl
@[go_sem] theorem W_scope {b : Code} : W K low f (.code (.scope b) :: fs) e h Q ↔ W K low f (.code b :: fs) e h Q := W_step fun _ => rfl
@[go_sem] theorem W_blk {id : Nat} : W K low f (.blk id :: fs) e h Q ↔ W K low f fs e h Q := W_step fun _ => rfl
@[go_sem] theorem W_again {b : Code} : W K low f (.loop b :: fs) e h Q ↔ W K low f (.code (.loop b) :: fs) e h Q := W_step fun _ => rfl
theorem W_round {b : Code} : W K low f (.code (.loop b) :: fs) e h Q ↔ W K low f (.code b :: .loop b :: fs) e h Q := W_step fun _ => rfl
@[go_sem] theorem W_noops {p : Pu} {all : Array Oper} : W K low f (.ops p all [] :: fs) e h Q ↔ W K low f fs e h Q := W_step fun _ => rfl

/-- What an exit comes to. -/
def Wx (K : Cfg) (low : Nat) (f : FuncId) (fs : Option (List Fr)) (e : Env) (h : Heap) (Q : Env → Heap → Prop) : Prop := match fs with
  | some fs => W K low f fs e h Q
  | none => False
theorem Wx_some : Wx K low f (some fs) e h Q ↔ W K low f fs e h Q := Iff.rfl
@[go_sem] theorem W_exit {id : Nat} : W K low f (.code (.exit id) :: fs) e h Q ↔ Wx K low f (unwind id fs) e h Q := by
  cases hu : unwind id fs with
  | none =>
    refine ⟨?_, fun hh => hh.elim⟩
    rintro ⟨n, e1, h1, hg, hq⟩
    cases n with
    | zero => simp [go] at hg
    | succ n => simp [go, hu] at hg
  | some fs' => exact W_step fun n => by simp only [go, hu]
@[go_sem] theorem unwind_blk {id id' : Nat} {fs : List Fr} : unwind id (.blk id' :: fs) = if id = id' then some fs else unwind id fs := rfl
@[go_sem] theorem unwind_code {id : Nat} {c : Code} {fs : List Fr} : unwind id (.code c :: fs) = unwind id fs := rfl
@[go_sem] theorem unwind_loop {id : Nat} {c : Code} {fs : List Fr} : unwind id (.loop c :: fs) = unwind id fs := rfl
@[go_sem] theorem unwind_chk {id : Nat} {ops : Array Oper} {s : Nat} {l : List (Nat × Nat)} {fs : List Fr} : unwind id (.chk ops s l :: fs) = unwind id fs := rfl
@[go_sem] theorem unwind_ops {id : Nat} {p : Pu} {all : Array Oper} {l : List Oper} {fs : List Fr} : unwind id (.ops p all l :: fs) = unwind id fs := rfl

/-- A branch. -/
def Wc (K : Cfg) (low : Nat) (f : FuncId) (v : Value) (a b : Code) (fs : List Fr) (e : Env) (h : Heap) (Q : Env → Heap → Prop) : Prop := match v with
  | .bool true => W K low f (.code a :: fs) e h Q
  | .bool false => W K low f (.code b :: fs) e h Q
  | _ => False
@[go_sem] theorem Wc_true {a b : Code} : Wc K low f (.bool true) a b fs e h Q ↔ W K low f (.code a :: fs) e h Q := Iff.rfl
@[go_sem] theorem Wc_false {a b : Code} : Wc K low f (.bool false) a b fs e h Q ↔ W K low f (.code b :: fs) e h Q := Iff.rfl
theorem Wc_bool {c : Bool} {a b : Code} : Wc K low f (.bool c) a b fs e h Q ↔ (c = true → W K low f (.code a :: fs) e h Q) ∧ (c = false → W K low f (.code b :: fs) e h Q) := by
  cases c <;> simp [Wc]
@[go_sem] theorem W_cond {c : Operand} {a b : Code} : W K low f (.code (.cond c a b) :: fs) e h Q ↔ Wc K low f (e.eval c) a b fs e h Q := by
  unfold Wc
  split
  · rename_i hv
    exact W_step fun n => by simp only [go, hv]
  · rename_i hv
    exact W_step fun n => by simp only [go, hv]
  · rename_i h1 h2
    refine ⟨?_, fun hh => hh.elim⟩
    rintro ⟨n, e1, h1', hg, hq⟩
    cases n with
    | zero => simp [go] at hg
    | succ n =>
      simp only [go] at hg
      first
        | (cases hg; done)
        | (split at hg
           · exact absurd (by assumption) h1
           · exact absurd (by assumption) h2
           · cases hg)

/-- An operation. -/
def Wo (K : Cfg) (low : Nat) (f : FuncId) (p : Pu) (pb : Bool) (all : Array Oper) (d : Option Tmp) (rest : List Oper) (fs : List Fr) (e : Env) (h : Heap) (Q : Env → Heap → Prop) (w : Option Bool) (r : Option (Out × Heap)) : Prop := match w with
  | some false => W K low f (.ops p all rest :: fs) (e.put d undef) h Q
  | some true => match r with
    | some (.val v, h) => W K low f (.ops p all rest :: fs) (e.put d v) h Q
    | some (.skip, h) => W K low f (.ops p all rest :: fs) (e.put d undef) h Q
    | some (.enter g args, h) => Does K (if pb then h.size else low) g args h fun v h => W K low f (.ops p all rest :: fs) (e.put d v) h Q
    | none => False
  | none => False
variable {p : Pu} {pb : Bool} {all : Array Oper} {d : Option Tmp} {rest : List Oper}
@[go_sem] theorem Wo_off {r : Option (Out × Heap)} : Wo K low f p pb all d rest fs e h Q (some false) r ↔ W K low f (.ops p all rest :: fs) (e.put d undef) h Q := Iff.rfl
@[go_sem] theorem Wo_val {v : Value} {h' : Heap} : Wo K low f p pb all d rest fs e h Q (some true) (some (.val v, h')) ↔ W K low f (.ops p all rest :: fs) (e.put d v) h' Q := Iff.rfl
@[go_sem] theorem Wo_skip {h' : Heap} : Wo K low f p pb all d rest fs e h Q (some true) (some (.skip, h')) ↔ W K low f (.ops p all rest :: fs) (e.put d undef) h' Q := Iff.rfl
theorem Wo_enter {g : FuncId} {args : Array Value} {h' : Heap} : Wo K low f p pb all d rest fs e h Q (some true) (some (.enter g args, h')) ↔ Does K (if pb then h'.size else low) g args h' fun v h => W K low f (.ops p all rest :: fs) (e.put d v) h Q := Iff.rfl

@[go_sem] theorem W_op {o : Oper} : W K low f (.ops p all (o :: rest) :: fs) e h Q ↔ Wo K low f p (p.of o.op) all o.dst rest fs e h Q (iwanted all o e) (iop K.P low o e.eval h) := by
  constructor
  · rintro ⟨n, e1, h1, hg, hq⟩
    cases n with
    | zero => simp [go] at hg
    | succ n =>
      simp only [go] at hg
      split at hg
      · cases hg
      · rename_i hw
        rw [hw]
        exact ⟨n, e1, h1, hg, hq⟩
      · rename_i hw
        rw [hw]
        split at hg
        · cases hg
        · rename_i hi
          rw [hi]
          exact ⟨n, e1, h1, hg, hq⟩
        · rename_i hi
          rw [hi]
          exact ⟨n, e1, h1, hg, hq⟩
        · rename_i hi
          rw [hi]
          split at hg
          · cases hg
          · rename_i v h2 hc
            exact ⟨n, v, h2, hc, n, e1, h1, hg, hq⟩
  · intro H
    unfold Wo at H
    split at H
    · rename_i hw
      obtain ⟨n, e1, h1, hg, hq⟩ := H
      exact ⟨n + 1, e1, h1, by simp only [go, hw]; exact hg, hq⟩
    · rename_i hw
      split at H
      · rename_i hi
        obtain ⟨n, e1, h1, hg, hq⟩ := H
        exact ⟨n + 1, e1, h1, by simp only [go, hw, hi]; exact hg, hq⟩
      · rename_i hi
        obtain ⟨n, e1, h1, hg, hq⟩ := H
        exact ⟨n + 1, e1, h1, by simp only [go, hw, hi]; exact hg, hq⟩
      · rename_i hi
        obtain ⟨m, v, h2, hc, n, e1, h1, hg, hq⟩ := H
        refine ⟨max m n + 1, e1, h1, ?_, hq⟩
        simp only [go, hw, hi, icall_le (Nat.le_max_left m n) hc]
        exact go_le (Nat.le_max_right m n) hg
      · exact H.elim
    · exact H.elim
end
end Go.Im

namespace Go.Im

def okv (r : Option Value) (h : Heap) : Option (Out × Heap) := match r with
  | some v => some (.val v, h)
  | none => none
def okb (r : Option (Value × Option Blk)) (h : Heap) : Option (Out × Heap) := match r with
  | some (v, none) => some (.val v, h)
  | some (v, some x) => some (.val v, h.push x)
  | none => none
def oks (r : Option Heap) : Option (Out × Heap) := match r with
  | some h => some (.skip, h)
  | none => none
def okh (r : Option (Value × Heap)) : Option (Out × Heap) := match r with
  | some (v, h) => some (.val v, h)
  | none => none
@[go_sem] theorem okv_some {v : Value} {h : Heap} : okv (some v) h = some (.val v, h) := rfl
@[go_sem] theorem okb_val {v : Value} {h : Heap} : okb (some (v, none)) h = some (.val v, h) := rfl
@[go_sem] theorem okb_new {v : Value} {h : Heap} {x : Blk} : okb (some (v, some x)) h = some (.val v, h.push x) := rfl
@[go_sem] theorem oks_some {h : Heap} : oks (some h) = some (.skip, h) := rfl
@[go_sem] theorem okh_some {v : Value} {h : Heap} : okh (some (v, h)) = some (.val v, h) := rfl

/-! ### Slots -/
@[go_sem] theorem Env.eval_tmp {e : Env} {t : Nat} : e.eval (.tmp t) = e.get t := rfl
@[go_sem] theorem Env.eval_func {e : Env} {g : FuncId} : e.eval (.func g) = .func (.func g) #[] #[] := rfl
@[go_sem] theorem Env.eval_int {e : Env} {k : IntKind} {n : Int} : e.eval (.const (.int k n)) = .int k n := rfl
@[go_sem] theorem Env.eval_bool {e : Env} {b : Bool} : e.eval (.const (.bool b)) = .bool b := rfl
@[go_sem] theorem Env.eval_string {e : Env} {s : ByteArray} : e.eval (.const (.string s)) = .string s := rfl
@[go_sem] theorem Env.eval_nil {e : Env} : e.eval (.const (.slice none 0 0)) = .slice none 0 0 := rfl
@[go_sem] theorem Env.eval_nilp {e : Env} : e.eval (.const (.pointer none)) = .pointer none := rfl
@[go_sem] theorem Env.eval_nilm {e : Env} : e.eval (.const (.map none)) = .map none := rfl
@[go_sem] theorem Env.eval_nilf {e : Env} : e.eval (.const .nilFunc) = .nilFunc := rfl
@[go_sem] theorem Env.eval_nili {e : Env} : e.eval (.const .nilIface) = .nilIface := rfl
@[go_sem] theorem Env.put_none {e : Env} {v : Value} : e.put none v = e := rfl
@[go_sem] theorem Env.put_size {e : Env} {d : Option Tmp} {v : Value} : (e.put d v).size = e.size := by
  cases d with
  | none => rfl
  | some t => simp only [Env.put]; split <;> rfl
@[go_sem] theorem Env.start_size {n : Nat} {args : List Value} : (Env.start n args).size = max n args.length := rfl

theorem Env.get_put_if {e : Env} {d t : Nat} {v : Value} : (e.put (some d) v).get t = if d = t then (if d < e.size then v else e.get t) else e.get t := by
  rw [Env.get_put]
  by_cases hd : d = t
  · subst hd
    by_cases hs : d < e.size <;> simp [hs]
  · rw [if_neg (by omega), if_neg hd]
@[go_sem] theorem Env.get_put_ne {e : Env} {d t : Nat} {v : Value} (h : ¬ d = t) : (e.put (some d) v).get t = e.get t := by
  rw [Env.get_put_if, if_neg h]
@[go_sem] theorem Env.get_put_eq {e : Env} {d : Nat} {v : Value} (h : d < e.size) : (e.put (some d) v).get d = v := by
  rw [Env.get_put_if, if_pos rfl, if_pos h]
/-- The slots that a call begins with. -/
def nth : List Value → Nat → Value
  | [], _ => undef
  | v :: _, 0 => v
  | _ :: l, i + 1 => nth l i
@[go_sem] theorem nth_zero {v : Value} {l : List Value} : nth (v :: l) 0 = v := rfl
@[go_sem] theorem nth_succ {v : Value} {l : List Value} {i : Nat} : nth (v :: l) (i + 1) = nth l i := rfl
@[go_sem] theorem nth_one {v w : Value} {l : List Value} : nth (v :: w :: l) 1 = w := rfl
@[go_sem] theorem nth_two {v w x : Value} {l : List Value} : nth (v :: w :: x :: l) 2 = x := rfl
@[go_sem] theorem nth_three {v w x y : Value} {l : List Value} : nth (v :: w :: x :: y :: l) 3 = y := rfl
@[go_sem] theorem nth_four {v w x y z : Value} {l : List Value} : nth (v :: w :: x :: y :: z :: l) 4 = z := rfl
@[go_sem] theorem nth_nil {i : Nat} : nth [] i = undef := rfl
theorem nth_get : ∀ (l : List Value) (i : Nat), nth l i = match l[i]? with
    | some v => v
    | none => undef
  | [], i => by simp [nth]
  | v :: l, 0 => rfl
  | v :: l, i + 1 => by simpa [nth] using nth_get l i
@[go_sem] theorem Env.start_get {n : Nat} {args : List Value} {t : Nat} : (Env.start n args).get t = nth args t := by
  rw [nth_get]
  simp only [Env.get, Env.start, Env.fill_get, Nat.zero_le, true_and, Nat.zero_add, Nat.sub_zero]
  by_cases ht : t < args.length
  · rw [if_pos ht]
    rfl
  · rw [if_neg ht, List.getElem?_eq_none (by omega)]
    cases t <;> rfl
@[go_sem] theorem iwanted_none {ops : Array Oper} {d : Option Tmp} {op : Op} {t : TypeId} {s : String} {a : Array Edge} {e : Env} : iwanted ops ⟨d, op, t, s, a, none⟩ e = some true := rfl
/-- The slot that a guard looks at. -/
def gslot (ops : Array Oper) (j : Nat) : Option Tmp := (ops[j]?).bind (·.dst)
def gwant (v : Option Value) (want : Bool) : Option Bool := match v with
  | none => some false
  | some (.bool b) => some (b == want)
  | some (.tuple _) => some false
  | _ => none
@[go_sem] theorem gwant_true {b : Bool} : gwant (some (.bool b)) true = some b := by cases b <;> rfl
@[go_sem] theorem gwant_false {b : Bool} : gwant (some (.bool b)) false = some (!b) := by cases b <;> rfl
@[go_sem] theorem gwant_undef {want : Bool} : gwant (some undef) want = some false := rfl
theorem iwanted_some {ops : Array Oper} {d : Option Tmp} {op : Op} {t : TypeId} {s : String} {a : Array Edge} {j : Nat} {want : Bool} {e : Env} :
    iwanted ops ⟨d, op, t, s, a, some (j, want)⟩ e = gwant ((gslot ops j).map e.get) want := by
  simp only [iwanted, gslot]
  cases (ops[j]?).bind (·.dst) with
  | none => rfl
  | some d => simp only [Option.map_some, gwant]; cases e.get d <;> rfl
attribute [go_sem] iwanted_some

/-! ### Operations -/
/-- A value and no block. -/
def vo (r : Option Value) : Option (Value × Option Blk) := match r with
  | some v => some (v, none)
  | none => none
@[go_sem] theorem vo_some {v : Value} : vo (some v) = some (v, none) := rfl
theorem okb_vo {r : Option Value} {h : Heap} : okb (vo r) h = okv r h := by cases r <;> rfl
section
variable {P : Program} {low : Nat} {ρ : Operand → Value} {h : Heap} {d : Option Tmp} {t : TypeId} {s : String} {a : Array Edge} {g : Option (Nat × Bool)}
theorem iop_plain {op : Op} (ht : Op.touches op = false) : iop P low ⟨d, op, t, s, a, g⟩ ρ h = okb (iop0 P h.size op ρ) h := by
  simp only [iop, ht, Bool.false_eq_true, if_false]
  rfl
@[go_sem] theorem iop_move {x : Operand} : iop P low ⟨d, .move x, t, s, a, g⟩ ρ h = some (.val (ρ x), h) := rfl
@[go_sem] theorem iop_assign {x : Operand} : iop P low ⟨d, .assign x, t, s, a, g⟩ ρ h = some (.val (ρ x), h) := rfl
def ipick (c a b : Value) : Option Value := match c with
  | .bool t => some (if t then a else b)
  | _ => none
@[go_sem] theorem ipick_bool {t : Bool} {x y : Value} : ipick (.bool t) x y = some (if t then x else y) := rfl
@[go_sem] theorem iop_pick {c x y : Operand} : iop P low ⟨d, .pick c x y, t, s, a, g⟩ ρ h = okv (ipick (ρ c) (ρ x) (ρ y)) h := by
  rw [iop_plain rfl, ← okb_vo]
  congr 1
  simp only [iop0]
  unfold ipick
  cases ρ c <;> rfl
@[go_sem] theorem iop_binOp {op : BinOp} {x y : Operand} {t1 t2 : TypeId} : iop P low ⟨d, .binOp op t1 x y t2, t, s, a, g⟩ ρ h = okv (ibinop P op t1 (ρ x) (ρ y)) h := by
  rw [iop_plain rfl, ← okb_vo]
  rfl
def iunop (op : UnOp) (P : Program) (v : Value) : Option Value := match op, v with
  | .not, .bool b => some (.bool !b)
  | .neg, .int k n => some (.int k (k.wrap (0 - n)))
  | .xor, .int k n => pureRun P (Op.intBits .xor k (if k.signed then -1 else k.max) n)
  | _, _ => none
@[go_sem] theorem iunop_not {b : Bool} : iunop .not P (.bool b) = some (.bool !b) := rfl
@[go_sem] theorem iunop_neg {k : IntKind} {n : Int} : iunop .neg P (.int k n) = some (.int k (k.wrap (0 - n))) := rfl
@[go_sem] theorem iop_unOp {op : UnOp} {t1 : TypeId} {x : Operand} : iop P low ⟨d, .unOp op t1 x, t, s, a, g⟩ ρ h = okv (iunop op P (ρ x)) h := by
  rw [iop_plain rfl, ← okb_vo]
  congr 1
  simp only [iop0]
  unfold iunop
  cases op <;> cases ρ x <;> rfl
@[go_sem] theorem iop_load {t1 : TypeId} {x : Operand} : iop P low ⟨d, .load t1 x, t, s, a, g⟩ ρ h = okv (iload P h t1 (ρ x)) h := rfl
@[go_sem] theorem iop_store {t1 : TypeId} {x y : Operand} : iop P low ⟨d, .store t1 x y, t, s, a, g⟩ ρ h = oks (istore P low h t1 (ρ x) (ρ y)) := rfl
@[go_sem] theorem iop_slice {t1 : TypeId} {x : Operand} {lo hi mx : Option Operand} : iop P low ⟨d, .slice t1 x lo hi mx, t, s, a, g⟩ ρ h = okv (iresl P h t1 (ρ x) (lo.map ρ) (hi.map ρ) (mx.map ρ)) h := rfl
@[go_sem] theorem iop_convert {t1 t2 : TypeId} {x : Operand} : iop P low ⟨d, .convert t1 t2 x, t, s, a, g⟩ ρ h = okh (iconv P low h t1 t2 (ρ x)) := rfl
@[go_sem] theorem iconv_int {t1 t2 : TypeId} {k : IntKind} {n : Int} : iconv P low h t1 t2 (.int k n) = iconvert P h t1 t2 (.int k n) := rfl
@[go_sem] theorem iconv_string {t1 t2 : TypeId} {x : ByteArray} : iconv P low h t1 t2 (.string x) = iconvert P h t1 t2 (.string x) := rfl
@[go_sem] theorem iconv_slice {t1 t2 : TypeId} {x : Option Addr} {n c : Nat} : iconv P low h t1 t2 (.slice x n c) = if t1 = t2 then isame P low h t1 x n c else iconvert P h t1 t2 (.slice x n c) := rfl
@[go_sem] theorem iop_alloc {t1 : TypeId} : iop P low ⟨d, .alloc t1, t, s, a, g⟩ ρ h = okb (iop0 P h.size (.alloc t1) ρ) h := iop_plain rfl
@[go_sem] theorem iop_box {t1 : TypeId} {x : Operand} : iop P low ⟨d, .box t1 x, t, s, a, g⟩ ρ h = okb (iop0 P h.size (.box t1 x) ρ) h := iop_plain rfl
@[go_sem] theorem iop_build {t1 : TypeId} {ps : Array (Nat × Operand)} : iop P low ⟨d, .build t1 ps, t, s, a, g⟩ ρ h = okb (iop0 P h.size (.build t1 ps) ρ) h := iop_plain rfl
@[go_sem] theorem iop_buildSlice {t1 : TypeId} {n : Nat} {ps : Array (Nat × Operand)} : iop P low ⟨d, .buildSlice t1 n ps, t, s, a, g⟩ ρ h = okb (iop0 P h.size (.buildSlice t1 n ps) ρ) h := iop_plain rfl
def inil (v : Value) : Option Value := match v with
  | .pointer (some a) => some (.pointer (some a))
  | .func (.func f) a c => some (.func (.func f) a c)
  | _ => none
@[go_sem] theorem inil_ptr {x : Addr} : inil (.pointer (some x)) = some (.pointer (some x)) := rfl
@[go_sem] theorem inil_func {f : FuncId} {x y : Array Value} : inil (.func (.func f) x y) = some (.func (.func f) x y) := rfl
@[go_sem] theorem iop_nilCheck {x : Operand} : iop P low ⟨d, .nilCheck x, t, s, a, g⟩ ρ h = okv (inil (ρ x)) h := by
  rw [iop_plain rfl, ← okb_vo]
  congr 1
  simp only [iop0]
  unfold inil
  cases ρ x with
  | pointer o => cases o <;> rfl
  | func f a c => cases f <;> rfl
  | _ => rfl
@[go_sem] theorem iop_makeSlice {t1 : TypeId} {x y : Operand} : iop P low ⟨d, .makeSlice t1 x y, t, s, a, g⟩ ρ h = okb (imake P h.size t1 (ρ x) (ρ y)) h := iop_plain rfl
/-- Where a field begins; none: it has no cells. -/
def foff (P : Program) (s : TypeId) (f : Nat) : Option Nat := match fieldOf P s f with
  | some fd => match tsize P fd.type with
    | some n => if n = 0 then none else some fd.offset
    | none => none
  | none => none
def ifaddr (o : Option Nat) (v : Value) : Option Value := match v with
  | .pointer (some ⟨b, i, none⟩) => match o with
    | some k => some (.pointer (some ⟨b, i + k, none⟩))
    | none => none
  | _ => none
@[go_sem] theorem ifaddr_some {k b o : Nat} : ifaddr (some k) (.pointer (some ⟨b, o, none⟩)) = some (.pointer (some ⟨b, o + k, none⟩)) := rfl
@[go_sem] theorem iop_fieldAddr {s1 : TypeId} {x : Operand} {f : Nat} : iop P low ⟨d, .fieldAddr s1 x f, t, s, a, g⟩ ρ h = okv (ifaddr (foff P s1 f) (ρ x)) h := by
  rw [iop_plain rfl, ← okb_vo]
  congr 1
  simp only [iop0]
  unfold ifaddr foff
  cases fieldOf P s1 f with
  | none =>
    cases ρ x with
    | pointer o => cases o with
      | none => rfl
      | some ad => obtain ⟨b, o, z⟩ := ad; cases z <;> rfl
    | _ => rfl
  | some fd =>
    cases hv : ρ x with
    | pointer o => cases o with
      | none => rfl
      | some ad => obtain ⟨b, o, z⟩ := ad; cases z with
        | none => simp only; cases tsize P fd.type with
          | none => rfl
          | some n => simp only; split <;> rfl
        | some z => rfl
    | _ => rfl
/-- Which cells a field has: one (false) or many (true), and which. -/
def fpart (P : Program) (s : TypeId) (f : Nat) : Option (Bool × Nat × Nat) := match fieldOf P s f with
  | some fd => match tagg P fd.type, tsize P fd.type with
    | some true, some n => some (true, fd.offset, n)
    | some false, _ => some (false, fd.offset, 1)
    | _, _ => none
  | none => none
def ifield (o : Option (Bool × Nat × Nat)) (v : Value) : Option Value := match o, v with
  | some (true, k, n), .agg cs => some (.agg (cs.extract k (k + n)))
  | some (false, k, _), .agg cs => cs[k]?
  | _, _ => none
@[go_sem] theorem ifield_one {k n : Nat} {cs : Array Value} : ifield (some (false, k, n)) (.agg cs) = cs[k]? := rfl
@[go_sem] theorem ifield_many {k n : Nat} {cs : Array Value} : ifield (some (true, k, n)) (.agg cs) = some (.agg (cs.extract k (k + n))) := rfl
theorem vo_match (r : Option Value) : (match r with
    | some x => some (x, (none : Option Blk))
    | none => none) = vo r := by cases r <;> rfl
@[go_sem] theorem iop_field {s1 : TypeId} {x : Operand} {f : Nat} : iop P low ⟨d, .field s1 x f, t, s, a, g⟩ ρ h = okv (ifield (fpart P s1 f) (ρ x)) h := by
  rw [iop_plain rfl, ← okb_vo]
  congr 1
  simp only [iop0]
  unfold ifield fpart ipart
  cases fieldOf P s1 f with
  | none => rfl
  | some fd =>
    cases ρ x with
    | agg cs =>
      simp only
      cases tagg P fd.type with
      | none => rfl
      | some b => cases b <;> cases tsize P fd.type <;> rfl
    | _ =>
      simp only
      cases tagg P fd.type with
      | none => rfl
      | some b => cases b <;> cases tsize P fd.type <;> rfl
def iextract (v : Value) (i : Nat) : Option Value := match v with
  | .tuple vs => vs[i]?
  | _ => none
@[go_sem] theorem iextract_tuple {vs : Array Value} {i : Nat} : iextract (.tuple vs) i = vs[i]? := rfl
@[go_sem] theorem iop_extract {x : Operand} {i : Nat} : iop P low ⟨d, .extract x i, t, s, a, g⟩ ρ h = okv (iextract (ρ x) i) h := by
  rw [iop_plain rfl, ← okb_vo]
  congr 1
  simp only [iop0]
  unfold iextract
  cases ρ x <;> rfl
end
end Go.Im

namespace Go.Im

section
variable {P : Program} {low : Nat} {ρ : Operand → Value} {h : Heap} {d : Option Tmp} {t : TypeId} {s : String} {a : Array Edge} {g : Option (Nat × Bool)}
/-- The size of an element, of a slice or of an array behind a pointer. -/
inductive Elts where
  | slice (size : Nat)
  | array (n size : Nat)
  | text
def elts (P : Program) (t : TypeId) : Option Elts := match P.underlying t with
  | some (.slice e) => (tsize P e).map .slice
  | some (.array n e) => (tsize P e).map (.array n)
  | some .string => some .text
  | _ => none
def iaddr (k : Option Elts) (x ix : Value) : Option Value := match ix with
  | .int _ i => match k with
    | some (.slice size) => match x with
      | .slice (some ⟨b, o, none⟩) n _ => if 0 ≤ i ∧ i < n then some (.pointer (some ⟨b, o + i.toNat * size, none⟩)) else none
      | _ => none
    | some (.array n size) => match x with
      | .pointer (some ⟨b, o, none⟩) => if 0 ≤ i ∧ i < n then some (.pointer (some ⟨b, o + i.toNat * size, none⟩)) else none
      | _ => none
    | _ => none
  | _ => none
@[go_sem] theorem iaddr_slice {k : IntKind} {i : Int} {size b o n c : Nat} : iaddr (some (.slice size)) (.slice (some ⟨b, o, none⟩) n c) (.int k i) = if 0 ≤ i ∧ i < n then some (.pointer (some ⟨b, o + i.toNat * size, none⟩)) else none := rfl
@[go_sem] theorem iaddr_array {k : IntKind} {i : Int} {size b o n : Nat} : iaddr (some (.array n size)) (.pointer (some ⟨b, o, none⟩)) (.int k i) = if 0 ≤ i ∧ i < n then some (.pointer (some ⟨b, o + i.toNat * size, none⟩)) else none := rfl
@[go_sem] theorem iop_indexAddr {t1 : TypeId} {x y : Operand} : iop P low ⟨d, .indexAddr t1 x y, t, s, a, g⟩ ρ h = okv (iaddr (elts P t1) (ρ x) (ρ y)) h := by
  rw [iop_plain rfl, ← okb_vo]
  congr 1
  simp only [iop0]
  unfold iaddr elts
  generalize ρ x = v
  generalize ρ y = w
  cases hu : P.underlying t1 with
  | none => cases w <;> rfl
  | some u =>
    cases w with
    | int k i =>
      cases u with
      | slice e =>
        cases v with
        | slice o n c => cases o with
          | none => (simp only; cases tsize P e <;> rfl)
          | some ad => obtain ⟨b, o, z⟩ := ad; cases z with
            | none => simp only [numOf]; cases tsize P e with
              | none => rfl
              | some n => simp only [Option.map_some]; split <;> rfl
            | some z => (simp only; cases tsize P e <;> rfl)
        | _ => (simp only; cases tsize P e <;> rfl)
      | array m e =>
        cases v with
        | pointer o => cases o with
          | none => (simp only; cases tsize P e <;> rfl)
          | some ad => obtain ⟨b, o, z⟩ := ad; cases z with
            | none => simp only [numOf]; cases tsize P e with
              | none => rfl
              | some n => simp only [Option.map_some]; split <;> rfl
            | some z => (simp only; cases tsize P e <;> rfl)
        | _ => (simp only; cases tsize P e <;> rfl)
      | _ => rfl
    | _ => cases u <;> first | rfl | (split <;> simp_all [numOf, vo])
/-- A byte of a text. -/
def ichar (s : ByteArray) (i : Int) : Option Value := if 0 ≤ i then match s.data.toList[i.toNat]? with
    | some b => some (.int .u8 b.toNat)
    | none => none else none
def iindex (P : Program) (t : TypeId) (k : Option Elts) (x ix : Value) : Option Value := match ix with
  | .int _ i => match k with
    | some .text => match x with
      | .string s => ichar s i
      | _ => none
    | some (.array n size) => match x with
      | .agg cs => if 0 ≤ i ∧ i < n then match P.underlying t with
        | some (.array _ e) => ipart P e cs (i.toNat * size)
        | _ => none else none
      | _ => none
    | _ => none
  | _ => none
@[go_sem] theorem iindex_text {t : TypeId} {k : IntKind} {i : Int} {s : ByteArray} : iindex P t (some .text) (.string s) (.int k i) = ichar s i := rfl
@[go_sem] theorem iop_index {t1 : TypeId} {x y : Operand} : iop P low ⟨d, .index t1 x y, t, s, a, g⟩ ρ h = okv (iindex P t1 (elts P t1) (ρ x) (ρ y)) h := by
  rw [iop_plain rfl, ← okb_vo]
  congr 1
  simp only [iop0]
  unfold iindex elts ichar
  generalize ρ x = v
  generalize ρ y = w
  cases hu : P.underlying t1 with
  | none => cases w <;> rfl
  | some u =>
    cases w with
    | int k i =>
      cases u with
      | string =>
        cases v with
        | string s =>
          simp only [numOf]
          split
          · cases s.data.toList[i.toNat]? <;> rfl
          · rfl
        | _ => rfl
      | array m e =>
        cases v with
        | agg cs =>
          simp only [numOf]
          cases tsize P e with
          | none => rfl
          | some n =>
            simp only [Option.map_some]
            split
            · cases ipart P e cs (i.toNat * n) <;> rfl
            · rfl
        | _ => (simp only; cases tsize P e <;> rfl)
      | slice e => cases v <;> (simp only; cases tsize P e <;> rfl)
      | _ => rfl
    | _ => cases u <;> first | rfl | (split <;> simp_all [numOf, vo])
@[go_sem] theorem iop_len {ts : Array TypeId} {x : Array Operand} : iop P low ⟨d, .call ⟨.builtin .len, x, ts⟩, t, s, a, g⟩ ρ h = okv (ibuiltin0 P .len ts (x.toList.map ρ)) h := by
  rw [iop_plain rfl, ← okb_vo]
  rfl
@[go_sem] theorem iop_max {ts : Array TypeId} {x : Array Operand} : iop P low ⟨d, .call ⟨.builtin .max, x, ts⟩, t, s, a, g⟩ ρ h = okv (ibuiltin0 P .max ts (x.toList.map ρ)) h := by
  rw [iop_plain rfl, ← okb_vo]
  rfl
@[go_sem] theorem iop_min {ts : Array TypeId} {x : Array Operand} : iop P low ⟨d, .call ⟨.builtin .min, x, ts⟩, t, s, a, g⟩ ρ h = okv (ibuiltin0 P .min ts (x.toList.map ρ)) h := by
  rw [iop_plain rfl, ← okb_vo]
  rfl
def ilen (t : Option TypeDesc) (x : Value) : Option Value := match t with
  | some .string => match x with
    | .string s => some (.int .i64 s.size)
    | _ => none
  | some (.slice _) => match x with
    | .slice _ n _ => some (.int .i64 n)
    | _ => none
  | some (.array n _) => some (.int .i64 n)
  | _ => none
@[go_sem] theorem ilen_string {s : ByteArray} : ilen (some .string) (.string s) = some (.int .i64 s.size) := rfl
@[go_sem] theorem ilen_slice {e : TypeId} {x : Option Addr} {n c : Nat} : ilen (some (.slice e)) (.slice x n c) = some (.int .i64 n) := rfl
@[go_sem] theorem ilen_array {e : TypeId} {x : Value} {n : Nat} : ilen (some (.array n e)) x = some (.int .i64 n) := rfl
@[go_sem] theorem ibuiltin0_len {t1 : TypeId} {x : Value} : ibuiltin0 P .len #[t1] [x] = ilen (P.underlying t1) x := by
  have e : ((#[t1] : Array TypeId)[0]?).bind P.underlying = P.underlying t1 := rfl
  simp only [ibuiltin0, e]
  cases P.underlying t1 with
  | none => rfl
  | some u => cases u <;> cases x <;> rfl
@[go_sem] theorem ibuiltin0_max {ts : Array TypeId} {l : List Value} : ibuiltin0 P .max ts l = iminmax true l := by
  cases l with
  | nil => rfl
  | cons x l => cases l <;> rfl
@[go_sem] theorem ibuiltin0_min {ts : Array TypeId} {l : List Value} : ibuiltin0 P .min ts l = iminmax false l := by
  cases l with
  | nil => rfl
  | cons x l => cases l <;> rfl
@[go_sem] theorem iop_append {ts : Array TypeId} {x : Array Operand} : iop P low ⟨d, .call ⟨.builtin .append, x, ts⟩, t, s, a, g⟩ ρ h = okh (ibuiltin P low h .append ts (x.toList.map ρ)) := rfl
@[go_sem] theorem iop_copy {ts : Array TypeId} {x : Array Operand} : iop P low ⟨d, .call ⟨.builtin .copy, x, ts⟩, t, s, a, g⟩ ρ h = okh (ibuiltin P low h .copy ts (x.toList.map ρ)) := rfl
@[go_sem] theorem ibuiltin_append {t1 t2 : TypeId} {x y : Value} : ibuiltin P low h .append #[t1, t2] [x, y] = iappend P low h #[t1, t2] x y := rfl
def ishut (u : Option TypeDesc) (t : TypeId) (x : Value) : Option Value := match u with
  | some (.interface _) | none => none
  | _ => some (.iface t x)
def icallee (v : Value) (args : Array Value) (h : Heap) : Option (Out × Heap) := match v with
  | .func (.func g) first captured => some (.enter g (first ++ args ++ captured), h)
  | _ => none
@[go_sem] theorem icallee_func {g : FuncId} {args : Array Value} : icallee (.func (.func g) #[] #[]) args h = some (.enter g args, h) := by
  simp [icallee]
@[go_sem] theorem iop_call {f : Operand} {ts : Array TypeId} {x : Array Operand} : iop P low ⟨d, .call ⟨.value f, x, ts⟩, t, s, a, g⟩ ρ h = icallee (ρ f) (x.map ρ) h := by
  simp only [iop, Op.touches, iop1, icallee]
  cases ρ f with
  | func fn first captured => cases fn <;> rfl
  | _ => rfl
@[go_sem] theorem iop_lookup {t1 : TypeId} {x y : Operand} {ok : Bool} : iop P low ⟨d, .lookup t1 x y ok, t, s, a, g⟩ ρ h = okv (ilookup P h t1 (ρ x) (ρ y) ok) h := rfl
@[go_sem] theorem iop_mapUpdate {t1 : TypeId} {x y z : Operand} : iop P low ⟨d, .mapUpdate t1 x y z, t, s, a, g⟩ ρ h = oks (imapset P low h t1 (ρ x) (ρ y) (ρ z)) := rfl
@[go_sem] theorem iop_makeMap {t1 : TypeId} : iop P low ⟨d, .makeMap t1 none, t, s, a, g⟩ ρ h = some (.val (.map (some h.size)), h.push (.map [] 0)) := rfl
@[go_sem] theorem iop_delete {ts : Array TypeId} {x : Array Operand} : iop P low ⟨d, .call ⟨.builtin .delete, x, ts⟩, t, s, a, g⟩ ρ h = okh (ibuiltin P low h .delete ts (x.toList.map ρ)) := rfl
def idelr (r : Option Heap) : Option (Value × Heap) := match r with
  | some h => some (.tuple #[], h)
  | none => none
@[go_sem] theorem idelr_some {h : Heap} : idelr (some h) = some (.tuple #[], h) := rfl
@[go_sem] theorem ibuiltin_delete {t1 t2 : TypeId} {x y : Value} : ibuiltin P low h .delete #[t1, t2] [x, y] = idelr (imapdel P low h t1 x y) := rfl
def iinvoke (P : Program) (v : Value) (name : String) (args : Array Value) (h : Heap) : Option (Out × Heap) := match v with
  | .iface t x => match imethod P t name with
    | some f => some (.enter f (#[x] ++ args), h)
    | none => none
  | _ => none
theorem iinvoke_iface {t : TypeId} {x : Value} {name : String} {f : FuncId} {args : Array Value} (hf : imethod P t name = some f) : iinvoke P (.iface t x) name args h = some (.enter f (#[x] ++ args), h) := by
  simp only [iinvoke, hf]
@[go_sem] theorem iop_invoke {f : Operand} {name : String} {ts : Array TypeId} {x : Array Operand} : iop P low ⟨d, .call ⟨.invoke f name, x, ts⟩, t, s, a, g⟩ ρ h = iinvoke P (ρ f) name (x.map ρ) h := rfl
@[go_sem] theorem iop_makeInterface {t1 : TypeId} {x : Operand} : iop P low ⟨d, .makeInterface t1 x, t, s, a, g⟩ ρ h = okv (ishut (P.underlying t1) t1 (ρ x)) h := by
  rw [iop_plain rfl, ← okb_vo]
  congr 1
  simp only [iop0]
  unfold ishut
  cases P.underlying t1 with
  | none => rfl
  | some u => cases u <;> rfl
@[go_sem] theorem iop_range {t1 : TypeId} {x : Operand} : iop P low ⟨d, .range t1 x, t, s, a, g⟩ ρ h = okb (iop0 P h.size (.range t1 x) ρ) h := iop_plain rfl
@[go_sem] theorem iop_makeFunc {fn : Fn} {x y : Array Operand} : iop P low ⟨d, .makeFunc fn x y, t, s, a, g⟩ ρ h = some (.val (.func fn (x.map ρ) (y.map ρ)), h) := rfl
end

/-! ### Arithmetic -/
section
variable {P : Program} {t : TypeId} {k : IntKind} {x y : Int}
@[go_sem] theorem ibinop_add : ibinop P .add t (.int k x) (.int k y) = some (.int k (k.wrap (x + y))) := by simp [ibinop, ibin]
@[go_sem] theorem ibinop_sub : ibinop P .sub t (.int k x) (.int k y) = some (.int k (k.wrap (x - y))) := by simp [ibinop, ibin]
@[go_sem] theorem ibinop_mul : ibinop P .mul t (.int k x) (.int k y) = some (.int k (k.wrap (x * y))) := by simp [ibinop, ibin]
theorem ibinop_quo (hy : y ≠ 0) : ibinop P .quo t (.int k x) (.int k y) = some (.int k (k.wrap (x.tdiv y))) := by simp [ibinop, ibin, hy]
theorem ibinop_rem (hy : y ≠ 0) : ibinop P .rem t (.int k x) (.int k y) = some (.int k (x.tmod y)) := by simp [ibinop, ibin, hy]
@[go_sem] theorem ibinop_eql : ibinop P .eql t (.int k x) (.int k y) = some (.bool (decide (x = y))) := by
  have e : (x == y) = decide (x = y) := by rw [Bool.eq_iff_iff]; simp
  simp only [ibinop, ibin, if_true, e]
@[go_sem] theorem ibinop_neq : ibinop P .neq t (.int k x) (.int k y) = some (.bool (!decide (x = y))) := by
  have e : (x == y) = decide (x = y) := by rw [Bool.eq_iff_iff]; simp
  simp only [ibinop, ibin, if_true, bne, e]
@[go_sem] theorem ibinop_lss : ibinop P .lss t (.int k x) (.int k y) = some (.bool (decide (x < y))) := by simp [ibinop, ibin]
@[go_sem] theorem ibinop_leq : ibinop P .leq t (.int k x) (.int k y) = some (.bool (decide (x ≤ y))) := by simp [ibinop, ibin]
@[go_sem] theorem ibinop_gtr : ibinop P .gtr t (.int k x) (.int k y) = some (.bool (decide (y < x))) := by simp [ibinop, ibin]
@[go_sem] theorem ibinop_geq : ibinop P .geq t (.int k x) (.int k y) = some (.bool (decide (y ≤ x))) := by simp [ibinop, ibin]
theorem bytes_ext {s u : ByteArray} : s.toList = u.toList ↔ s = u := by
  constructor
  · intro h
    rw [ByteArray.toList_eq, ByteArray.toList_eq] at h
    cases s
    cases u
    congr 1
    exact Array.toList_inj.1 h
  · intro h
    rw [h]
theorem bytes_beq {s u : ByteArray} : (s.toList == u.toList) = decide (s = u) := by
  rw [Bool.eq_iff_iff]
  simp [bytes_ext]
variable {s u : ByteArray}
@[go_sem] theorem ibinop_eqls : ibinop P .eql t (.string s) (.string u) = some (.bool (decide (s = u))) := by
  simp only [ibinop, ibin, bytes_beq]
@[go_sem] theorem ibinop_neqs : ibinop P .neq t (.string s) (.string u) = some (.bool (!decide (s = u))) := by
  simp only [ibinop, ibin, bytes_beq]
theorem ibinop_cat (hs : s.size + u.size ≤ 9223372036854775807) : ibinop P .add t (.string s) (.string u) = some (.string (s ++ u)) := by simp [ibinop, ibin, hs]
end

/-! ### A function -/
/-- What a function's results are. -/
def Wr (P : Program) (rs : List ResultVar) (Q : Value → Heap → Prop) (e : Env) (h : Heap) : Prop := match iresultList P e h rs with
  | some [v] => Q v h
  | some vs => Q (.tuple vs.toArray) h
  | none => False
theorem Wr_some {P : Program} {rs : List ResultVar} {Q : Value → Heap → Prop} {e : Env} {h : Heap} {vs : List Value} (hr : iresultList P e h rs = some vs) (hq : Q (match vs with
    | [v] => v
    | vs => .tuple vs.toArray) h) : Wr P rs Q e h := by
  unfold Wr
  rw [hr]
  split <;> rename_i he
  · cases he; exact hq
  · cases he
    split at hq
    · rename_i hne; exact absurd rfl (hne _)
    · exact hq
  · cases he

theorem Does.intro {K : Cfg} {low : Nat} {f : FuncId} {fn : Func} {c : Code} {args : Array Value} {h : Heap} {Q : Value → Heap → Prop} (hxx : K.ext f = none) (hok : K.ok f = true) (hf : K.P.funcs[f]? = some fn) (hc : fn.body = some c)
    (H : W K low f [.code c] (Env.start fn.ntmps args.toList) h (Wr K.P fn.results.toList Q)) : Does K low f args h Q := by
  obtain ⟨n, e1, h1, hg, hq⟩ := H
  obtain ⟨m, x, e2, h2, he, ha⟩ := go_code n n (Nat.le_refl _) hg
  have hx : (x = .normal ∨ x = .ret) ∧ e2 = e1 ∧ h2 = h1 := by
    cases x with
    | normal =>
      obtain ⟨k, hk, hk2⟩ := ha
      cases k with
      | zero => simp [go] at hk2
      | succ k =>
        simp only [go, Option.some.injEq, Prod.mk.injEq] at hk2
        exact ⟨.inl rfl, hk2.1, hk2.2⟩
    | ret =>
      simp only [after, Prod.mk.injEq] at ha
      exact ⟨.inr rfl, ha.1.symm, ha.2.symm⟩
    | exit id =>
      obtain ⟨fs', hu, _⟩ := ha
      simp [unwind] at hu
  obtain ⟨hx, rfl, rfl⟩ := hx
  have hr : ∃ v, iresults K.P fn e2 h2 = some v ∧ Q v h2 := by
    simp only [Wr] at hq
    simp only [iresults]
    split at hq
    · rename_i hl
      rw [hl]
      exact ⟨_, rfl, hq⟩
    · rename_i vs hne hl
      rw [hl]
      split
      · rename_i v heq
        cases heq
        exact absurd rfl (hne v)
      · rename_i heq
        cases heq
        exact ⟨_, rfl, hq⟩
      · rename_i heq
        cases heq
    · exact hq.elim
  obtain ⟨v, hv, hq⟩ := hr
  refine ⟨m + 1, v, h2, ?_, hq⟩
  simp only [icall, hok, if_true, hf, hc]
  rw [hxx]
  rcases hx with rfl | rfl
  · simp only [he, hv]
  · simp only [he, hv]
@[go_sem] theorem iresultList_nil {P : Program} {e : Env} {h : Heap} : iresultList P e h [] = some [] := rfl
theorem iresultList_tmp {P : Program} {e : Env} {h : Heap} {t : Nat} {rs : List ResultVar} : iresultList P e h (.tmp t :: rs) = (iresultList P e h rs).map (e.get t :: ·) := by
  simp only [iresultList, iresult]
  cases iresultList P e h rs <;> rfl
end Go.Im

namespace Go.Im

/-! ### A lower bound that is lower does no harm -/
theorem istore_lower {P : Program} {low low' : Nat} (hl : low' ≤ low) {h h' : Heap} {t : TypeId} {a v : Value} (H : istore P low h t a v = some h') : istore P low' h t a v = some h' := by
  unfold istore at H ⊢
  split at H
  · split at H
    · split at H
      · rename_i hc
        rw [if_pos ⟨by omega, hc.2⟩]
        exact H
      · cases H
    · cases H
  · cases H

theorem iput_lower {low low' : Nat} (hl : low' ≤ low) {h h' : Heap} {size k : Nat} {new : List Value} {s v : Value} (H : iput low h size s k new = some (v, h')) : iput low' h size s k new = some (v, h') := by
  unfold iput at H ⊢
  split at H
  · exact H
  · split at H
    · split at H
      · cases H
      · rename_i h1
        rw [if_neg h1]
        split at H
        · rename_i h2
          rw [if_pos h2]
          split at H
          · rename_i h3
            rw [if_pos h3]
            split at H
            · rename_i h4
              rw [if_pos ⟨by omega, h4.2⟩]
              exact H
            · cases H
          · rename_i h3
            rw [if_neg h3]
            exact H
        · rename_i h2
          rw [if_neg h2]
          split at H
          · rename_i h3
            rw [if_pos ⟨h3.1, by omega⟩]
            exact H
          · cases H
    · cases H
  · cases H

theorem iappend_lower {P : Program} {low low' : Nat} (hl : low' ≤ low) {h h' : Heap} {ts : Array TypeId} {s x v : Value} (H : iappend P low h ts s x = some (v, h')) : iappend P low' h ts s x = some (v, h') := by
  unfold iappend at H ⊢
  split at H
  · split at H
    · split at H
      · split at H
        · cases H
        · rename_i h1
          rw [if_neg h1]
          split at H
          · rename_i h2
            rw [if_pos h2]
            exact H
          · rename_i h2
            rw [if_neg h2]
            exact iput_lower hl H
      · cases H
    · cases H
  · cases H

theorem imapset_lower {P : Program} {low low' : Nat} (hl : low' ≤ low) {h h' : Heap} {t : TypeId} {m k v : Value} (H : imapset P low h t m k v = some h') : imapset P low' h t m k v = some h' := by
  unfold imapset at H ⊢
  split at H
  · split at H
    · split at H
      · rename_i hc
        rw [if_pos (by omega)]
        exact H
      · cases H
    · cases H
  · cases H
theorem imapdel_lower {P : Program} {low low' : Nat} (hl : low' ≤ low) {h h' : Heap} {t : TypeId} {m k : Value} (H : imapdel P low h t m k = some h') : imapdel P low' h t m k = some h' := by
  unfold imapdel at H ⊢
  split at H
  · exact H
  · split at H
    · split at H
      · rename_i hc
        rw [if_pos (by omega)]
        exact H
      · cases H
    · cases H
  · cases H

theorem ibuiltin_lower {P : Program} {low low' : Nat} (hl : low' ≤ low) {h h' : Heap} {b : Builtin} {ts : Array TypeId} {args : List Value} {v : Value} (H : ibuiltin P low h b ts args = some (v, h')) : ibuiltin P low' h b ts args = some (v, h') := by
  unfold ibuiltin at H ⊢
  split at H
  · split at H
    · rename_i h1
      rw [if_pos h1]
      exact iappend_lower hl H
    · cases H
  · split at H
    · split at H
      · split at H
        · split at H
          · rename_i hc
            rw [if_pos ⟨by omega, hc.2⟩]
            exact H
          · cases H
        · cases H
      · cases H
    · cases H
  · split at H
    · split at H
      · rename_i hd
        rw [imapdel_lower hl hd]
        exact H
      · cases H
    · cases H
  · cases H

theorem iconv_lower {P : Program} {low low' : Nat} (hl : low' ≤ low) {h h' : Heap} {s d : TypeId} {x v : Value} (H : iconv P low h s d x = some (v, h')) : iconv P low' h s d x = some (v, h') := by
  unfold iconv at H ⊢
  split at H
  · split at H
    · rename_i hsd
      rw [if_pos hsd]
      unfold isame at H ⊢
      split at H
      · split at H
        · split at H
          · rename_i hc
            rw [if_pos ⟨by omega, hc.2⟩]
            exact H
          · cases H
        · cases H
      · cases H
    · rename_i hsd
      rw [if_neg hsd]
      exact H
  · exact H

theorem iop_lower {P : Program} {low low' : Nat} (hl : low' ≤ low) {o : Oper} {ρ : Operand → Value} {h : Heap} {r : Out × Heap} (H : iop P low o ρ h = some r) : iop P low' o ρ h = some r := by
  cases hw : writes (some []) o.op with
  | false => rw [← iop_low hw low']; exact H
  | true =>
    obtain ⟨dst, op, ty, pos, after, guard⟩ := o
    cases op with
    | store t a x =>
      rw [iop_store] at H ⊢
      cases hs : istore P low h t (ρ a) (ρ x) with
      | none => rw [hs] at H; cases H
      | some h' => rw [hs] at H; rw [istore_lower hl hs]; exact H
    | convert s1 d1 x =>
      simp only [iop, Op.touches, iop1, if_true] at H ⊢
      split at H
      · rename_i v g hv
        rw [iconv_lower hl hv]
        exact H
      · cases H
    | lookup t x k ok => rw [iop_lookup] at H ⊢; exact H
    | makeMap t r =>
      cases r with
      | none => rw [iop_makeMap] at H ⊢; exact H
      | some r => simp [iop, Op.touches, iop1] at H
    | mapUpdate t m k x =>
      rw [iop_mapUpdate] at H ⊢
      cases hs : imapset P low h t (ρ m) (ρ k) (ρ x) with
      | none => rw [hs] at H; cases H
      | some h' => rw [hs] at H; rw [imapset_lower hl hs]; exact H
    | next it b =>
      cases b with
      | false => simp [iop, Op.touches, iop1] at H
      | true =>
        simp only [iop, Op.touches, iop1, if_true] at H ⊢
        split at H
        · split at H
          · split at H
            · rename_i h1
              rw [if_pos (by omega)]
              exact H
            · cases H
          · cases H
        · cases H
    | call c =>
      obtain ⟨cal, args, ts⟩ := c
      cases cal with
      | builtin b =>
        cases htc : Op.touches (.call ⟨.builtin b, args, ts⟩) with
        | false =>
          rw [iop_plain htc] at H ⊢
          exact H
        | true =>
          simp only [iop, htc, if_true, iop1] at H ⊢
          split at H
          · rename_i x hh hb
            rw [ibuiltin_lower hl hb]
            exact H
          · cases H
      | value f => rw [iop_call] at H ⊢; exact H
      | invoke f name => rw [iop_invoke] at H ⊢; exact H
    | _ => first | (simp [writes] at hw; done) | (simp [iop, Op.touches, iop1] at H; done)

theorem iregion_lower {P : Program} {low low' : Nat} (hl : low' ≤ low) {p : Pu} {c : Nat → FuncId → Array Value → Heap → Option (Value × Heap)} (hc : ∀ f a h r, c low f a h = some r → c low' f a h = some r) {ops : Array Oper} :
    ∀ {rest : List Oper} {e : Env} {h : Heap} {r : Env × Heap}, iregion P low p c ops rest e h = some r → iregion P low' p c ops rest e h = some r
  | [], e, h, r, H => by simpa [iregion] using H
  | o :: rest, e, h, r, H => by
    simp only [iregion] at H ⊢
    cases hw : iwanted ops o e with
    | none => rw [hw] at H; cases H
    | some b =>
      rw [hw] at H
      cases b with
      | false => exact iregion_lower hl hc H
      | true =>
        simp only at H ⊢
        cases hi : iop P low o e.eval h with
        | none => rw [hi] at H; cases H
        | some x =>
          rw [hi] at H
          rw [iop_lower hl hi]
          obtain ⟨out, h1⟩ := x
          cases out with
          | val v => exact iregion_lower hl hc H
          | skip => exact iregion_lower hl hc H
          | enter f args =>
            simp only at H ⊢
            cases hcc : c (if p.of o.op then h1.size else low) f args h1 with
            | none => rw [hcc] at H; cases H
            | some y =>
              rw [hcc] at H
              have : c (if p.of o.op then h1.size else low') f args h1 = some y := by
                cases hpb : p.of o.op with
                | true => rw [hpb] at hcc; exact hcc
                | false => rw [hpb] at hcc; exact hc _ _ _ _ hcc
              rw [this]
              exact iregion_lower hl hc H

theorem fuel_lower {K : Cfg} (hK : CfgOK K) {low low' : Nat} (hl : low' ≤ low) : ∀ n, (∀ f c e h r, ieval K n low f c e h = some r → ieval K n low' f c e h = some r) ∧ (∀ f a h r, icall K n low f a h = some r → icall K n low' f a h = some r)
  | 0 => by
    constructor
    · intro f c e h r H
      simp [ieval] at H
    · intro f a h r H
      simp [icall] at H
  | n + 1 => by
    obtain ⟨ihE, ihC⟩ := fuel_lower hK hl n
    constructor
    · intro f c e h r H
      unfold ieval at H ⊢
      cases c with
      | region id ops draw =>
        simp only at H ⊢
        split at H
        · rename_i hr
          rw [iregion_lower hl ihC hr]
          split at H
          · rename_i hd
            simp only [hd, if_true]
            exact H
          · cases H
        · cases H
      | seq a b =>
        simp only at H ⊢
        split at H
        · rename_i he
          rw [ihE _ _ _ _ _ he]
          exact ihE _ _ _ _ _ H
        · rename_i r' hne
          rw [ihE _ _ _ _ _ H]
          split
          · rename_i e1 h1 heq
            exact absurd (H.trans heq) (hne e1 h1)
          · rfl
      | cond c a b =>
        simp only at H ⊢
        split at H
        · exact ihE _ _ _ _ _ H
        · exact ihE _ _ _ _ _ H
        · cases H
      | block id b =>
        simp only at H ⊢
        split at H
        · rename_i he
          rw [ihE _ _ _ _ _ he]
          exact H
        · rename_i r' hne
          rw [ihE _ _ _ _ _ H]
          split
          · rename_i id' e1 h1 heq
            exact absurd (H.trans heq) (hne id' e1 h1)
          · rfl
      | loop b =>
        simp only at H ⊢
        split at H
        · rename_i he
          rw [ihE _ _ _ _ _ he]
          exact ihE _ _ _ _ _ H
        · rename_i r' hne
          rw [ihE _ _ _ _ _ H]
          split
          · rename_i e1 h1 heq
            exact absurd (H.trans heq) (hne e1 h1)
          · rfl
      | scope b => exact ihE _ _ _ _ _ H
      | _ => exact H
    · intro f a h r H
      unfold icall at H ⊢
      cases hx : K.ext f with
      | some g =>
        rw [hx] at H
        have h1 := hK.lower low low' f a h r hl (by simp only [Cfg.known, hx]; exact H)
        simp only [Cfg.known, hx] at h1
        exact h1
      | none =>
      rw [hx] at H
      simp only at H ⊢
      split at H
      · rename_i hok
        rw [if_pos hok]
        split at H
        · rename_i fn hf
          try rw [hf]
          try simp only
          split at H
          · rename_i c hb
            try rw [hb]
            try simp only
            split at H
            · rename_i he
              rw [ihE _ _ _ _ _ he]
              exact H
            · rename_i he
              rw [ihE _ _ _ _ _ he]
              exact H
            · cases H
          · cases H
        · cases H
      · cases H

/-! ### What a call leaves as it was -/
/-- The memory h' has all of h. -/
def Ext (h h' : Heap) : Prop := h.size ≤ h'.size ∧ ∀ b, b < h.size → h'.get b = h.get b
theorem Ext.refl (h : Heap) : Ext h h := ⟨Nat.le_refl _, fun _ _ => rfl⟩
theorem Ext.trans {a b c : Heap} (h : Ext a b) (k : Ext b c) : Ext a c := ⟨Nat.le_trans h.1 k.1, fun i hi => (k.2 i (by have := h.1; omega)).trans (h.2 i hi)⟩
theorem Ext.push {h h' : Heap} (k : Ext h h') (x : Blk) : Ext h (h'.push x) := ⟨by simp; have := k.1; omega, fun b hb => by rw [Heap.get_push, if_neg (by have := k.1; omega)]; exact k.2 b hb⟩
theorem Ext.set {h h' : Heap} (k : Ext h h') {b : Nat} (hb : h.size ≤ b) (x : Blk) : Ext h (h'.set b x) := ⟨by simp; exact k.1, fun i hi => by rw [Heap.get_set, if_neg (by omega)]; exact k.2 i hi⟩

/-- A function that leaves all memory as it was, but for what it makes. -/
def Runs (K : Cfg) (f : FuncId) (args : Array Value) (h : Heap) (Q : Value → Heap → Prop) : Prop := Does K h.size f args h fun v h' => Ext h h' ∧ Q v h'

theorem Runs.of {K : Cfg} (hK : CfgOK K) {f : FuncId} {args : Array Value} {h : Heap} {Q : Value → Heap → Prop} (H : Does K h.size f args h Q) : Runs K f args h Q := by
  obtain ⟨n, v, h', hi, hq⟩ := H
  obtain ⟨k1, k2⟩ := (sound hK n).2.keeps (Nat.le_refl _) hi
  exact ⟨n, v, h', hi, ⟨k1, k2⟩, hq⟩
theorem Does.lower {K : Cfg} (hK : CfgOK K) {low low' : Nat} (hl : low' ≤ low) {f : FuncId} {args : Array Value} {h : Heap} {Q : Value → Heap → Prop} (H : Does K low f args h Q) : Does K low' f args h Q := by
  obtain ⟨n, v, h', hi, hq⟩ := H
  exact ⟨n, v, h', (fuel_lower hK hl n).2 _ _ _ _ hi, hq⟩

section
variable {K : Cfg} {low : Nat} {f : FuncId} {fs : List Fr} {e : Env} {h : Heap} {Q : Env → Heap → Prop} {p : Pu} {pb : Bool} {all : Array Oper} {d : Option Tmp} {rest : List Oper}
/-- A call of such a function. -/
theorem W_call (hK : CfgOK K) (hl : low ≤ h.size) {g : FuncId} {args : Array Value} {R : Value → Heap → Prop} (H : Runs K g args h R) (hq : ∀ v h', Ext h h' → R v h' → W K low f (.ops p all rest :: fs) (e.put d v) h' Q) :
    Wo K low f p pb all d rest fs e h Q (some true) (some (.enter g args, h)) := by
  rw [Wo_enter]
  have H2 : Does K (if pb then h.size else low) g args h fun v h' => Ext h h' ∧ R v h' := by
    cases pb with
    | true => exact H
    | false => exact Does.lower hK hl H
  exact H2.mono fun v h' ⟨hx, hr⟩ => hq v h' hx hr

/-- A call of a function that writes. -/
theorem W_does (hp : pb = false) {g : FuncId} {args : Array Value} {R : Value → Heap → Prop} (H : Does K low g args h R) (hq : ∀ v h', R v h' → W K low f (.ops p all rest :: fs) (e.put d v) h' Q) :
    Wo K low f p pb all d rest fs e h Q (some true) (some (.enter g args, h)) := by
  rw [Wo_enter, hp]
  exact H.mono fun v h' hr => hq v h' hr
/-- Several ways meet. -/
theorem W_join {α : Type} (J : α → Env → Heap → Prop) {X : Prop} (h1 : (∀ a e h, J a e h → W K low f fs e h Q) → X) (h2 : ∀ a e h, J a e h → W K low f fs e h Q) : X := h1 h2
/-- A loop: what holds ahead of each round, and what becomes less. -/
theorem W_loop {α : Type} {b : Code} (I : α → Env → Heap → Prop) (m : α → Nat) (a : α) (h0 : I a e h)
    (H : ∀ a e h, I a e h → (∀ a' e' h', I a' e' h' → m a' < m a → W K low f (.code (.loop b) :: fs) e' h' Q) → W K low f (.code b :: .loop b :: fs) e h Q) : W K low f (.code (.loop b) :: fs) e h Q := by
  generalize hn : m a = n
  induction n using Nat.strongRecOn generalizing a e h with
  | ind n ih =>
    subst hn
    rw [W_round]
    exact H a e h h0 fun a' e' h' hi hm => ih (m a') hm a' hi rfl
end
end Go.Im

namespace Go.Im

attribute [go_sem] Heap.get_push Heap.get_set Heap.size_set Heap.size_push List.length_cons List.length_nil Bool.false_and Bool.true_and Bool.false_eq_true Bool.not_true Bool.not_false if_true if_false List.map_cons List.map_nil Option.map_some Option.map_none decide_true decide_false List.getElem?_cons_zero List.getElem?_cons_succ List.getElem?_toArray List.getElem?_nil Bool.or_true Bool.or_false Bool.true_or Bool.false_or Bool.and_true Bool.and_false true_and and_true List.all_cons List.all_nil List.append_nil List.nil_append Int.toNat_one Int.toNat_zero Int.toNat_natCast Nat.add_sub_cancel Nat.le_add_left List.take_length Nat.mul_one Nat.one_mul Nat.zero_mul Nat.mul_zero Nat.add_zero Nat.zero_add List.map_toArray List.extract_toArray List.size_toArray Nat.le_refl Nat.le_add_right List.take_zero List.drop_zero List.take_succ_cons List.drop_succ_cons List.take_nil List.drop_nil List.cons_append

/-! ### Cells -/
@[go_sem] theorem cells_agg {xs : Array Value} : (Value.agg xs).cells = xs := rfl
@[go_sem] theorem cells_int {k : IntKind} {n : Int} : (Value.int k n).cells = #[.int k n] := rfl
@[go_sem] theorem cells_bool {b : Bool} : (Value.bool b).cells = #[.bool b] := rfl
@[go_sem] theorem cells_string {s : ByteArray} : (Value.string s).cells = #[.string s] := rfl
@[go_sem] theorem cells_slice {a : Option Addr} {n c : Nat} : (Value.slice a n c).cells = #[.slice a n c] := rfl
@[go_sem] theorem cells_pointer {a : Option Addr} : (Value.pointer a).cells = #[.pointer a] := rfl
@[go_sem] theorem cells_map {a : Option Nat} : (Value.map a).cells = #[.map a] := rfl
@[go_sem] theorem cells_func {f : Fn} {a b : Array Value} : (Value.func f a b).cells = #[.func f a b] := rfl
@[go_sem] theorem cells_iface {t : TypeId} {v : Value} : (Value.iface t v).cells = #[.iface t v] := rfl
@[go_sem] theorem cellOK_int {k : IntKind} {n : Int} : cellOK (.int k n) = true := rfl
@[go_sem] theorem cellOK_bool {b : Bool} : cellOK (.bool b) = true := rfl
@[go_sem] theorem cellOK_string {s : ByteArray} : cellOK (.string s) = true := rfl
@[go_sem] theorem cellOK_slice {a : Option Addr} {n c : Nat} : cellOK (.slice a n c) = true := rfl
@[go_sem] theorem cellOK_pointer {a : Option Addr} : cellOK (.pointer a) = true := rfl
@[go_sem] theorem cellOK_map {a : Option Nat} : cellOK (.map a) = true := rfl
@[go_sem] theorem cellOK_func {f : Fn} {a b : Array Value} : cellOK (.func f a b) = true := rfl
@[go_sem] theorem cellOK_iface {t : TypeId} {v : Value} : cellOK (.iface t v) = true := rfl

/-! ### Making -/
/-- The cells of a new variable. -/
def acells (P : Program) (t : TypeId) : Option (List Value × Nat) := match tzero P t, tsize P t with
  | some z, some n => if 0 < n ∧ z.cells.size = n ∧ z.cells.toList.all atomic = true then some (z.cells.toList, n) else none
  | _, _ => none
def mkb (sz : Nat) (c : Option (List Value × Nat)) : Option (Value × Option Blk) := match c with
  | some (cs, n) => some (.pointer (some ⟨sz, 0, none⟩), some (.cells cs n))
  | none => none
@[go_sem] theorem mkb_some {sz n : Nat} {cs : List Value} : mkb sz (some (cs, n)) = some (.pointer (some ⟨sz, 0, none⟩), some (.cells cs n)) := rfl
@[go_sem] theorem iop0_alloc {P : Program} {sz : Nat} {t : TypeId} {ρ : Operand → Value} : iop0 P sz (.alloc t) ρ = mkb sz (acells P t) := by
  simp only [iop0]
  unfold acells
  cases tzero P t with
  | none => rfl
  | some z => cases tsize P t with
    | none => rfl
    | some n => simp only; split <;> rfl
def ibox (sz : Nat) (n : Option Nat) (cs : List Value) : Option (Value × Option Blk) := match n with
  | some n => if 0 < n ∧ cs.length = n ∧ cs.all cellOK = true then some (.pointer (some ⟨sz, 0, none⟩), some (.cells cs n)) else none
  | none => none
@[go_sem] theorem ibox_some {sz n : Nat} {cs : List Value} : ibox sz (some n) cs = if 0 < n ∧ cs.length = n ∧ cs.all cellOK = true then some (.pointer (some ⟨sz, 0, none⟩), some (.cells cs n)) else none := rfl
@[go_sem] theorem iop0_box {P : Program} {sz : Nat} {t : TypeId} {x : Operand} {ρ : Operand → Value} : iop0 P sz (.box t x) ρ = ibox sz (tsize P t) (ρ x).cells.toList := by
  simp only [iop0, ibox, Array.length_toList]
  rfl

/-! ### Reading and writing -/
/-- One cell (none) or many. -/
def tcell (P : Program) (t : TypeId) : Option (Option Nat) := match tagg P t with
  | some true => (tsize P t).map some
  | some false => some none
  | none => none
def ild (k : Option (Option Nat)) (b : Blk) (o : Nat) : Option Value := match b with
  | .cells cs _ => match k with
    | some none => cs[o]?
    | some (some n) => if o + n ≤ cs.length then some (.agg ((cs.drop o).take n).toArray) else none
    | none => none
  | _ => none
@[go_sem] theorem ild_one {cs : List Value} {esz o : Nat} : ild (some none) (.cells cs esz) o = cs[o]? := rfl
@[go_sem] theorem ild_many {cs : List Value} {esz o n : Nat} : ild (some (some n)) (.cells cs esz) o = if o + n ≤ cs.length then some (.agg ((cs.drop o).take n).toArray) else none := rfl
@[go_sem] theorem read_cells {cs : List Value} {esz : Nat} : (Blk.cells cs esz).read = .cells cs esz := rfl
@[go_sem] theorem read_fixed {cs : List Value} {esz : Nat} : (Blk.fixed cs esz).read = .cells cs esz := rfl
@[go_sem] theorem iload_at {P : Program} {h : Heap} {t : TypeId} {b o : Nat} : iload P h t (.pointer (some ⟨b, o, none⟩)) = ild (tcell P t) (h.get b).read o := by
  simp only [iload, ild, tcell, Heap.look]
  cases (h.get b).read with
  | cells cs esz =>
    cases tagg P t with
    | none => rfl
    | some x => cases x with
      | false => rfl
      | true => cases tsize P t <;> rfl
  | _ => rfl
def ist (low : Nat) (n : Option Nat) (h : Heap) (b o : Nat) (k : Blk) (vs : List Value) : Option Heap := match k with
  | .cells cs esz => if low ≤ b ∧ n = some vs.length ∧ o + vs.length ≤ cs.length ∧ vs.all cellOK = true then some (h.set b (.cells (splice cs o vs) esz)) else none
  | _ => none
@[go_sem] theorem ist_cells {low b o esz : Nat} {n : Option Nat} {h : Heap} {cs vs : List Value} : ist low n h b o (.cells cs esz) vs = if low ≤ b ∧ n = some vs.length ∧ o + vs.length ≤ cs.length ∧ vs.all cellOK = true then some (h.set b (.cells (splice cs o vs) esz)) else none := rfl
@[go_sem] theorem istore_at {P : Program} {low : Nat} {h : Heap} {t : TypeId} {b o : Nat} {v : Value} : istore P low h t (.pointer (some ⟨b, o, none⟩)) v = ist low (tsize P t) h b o (h.get b) v.cells.toList := by
  simp only [istore, ist, Array.length_toList]
  rfl
@[go_sem] theorem splice_eq {cs vs : List Value} {o : Nat} : splice cs o vs = cs.take o ++ vs ++ cs.drop (o + vs.length) := rfl

/-! ### Building -/
def ibuild (P : Program) (t : TypeId) (parts : List (Nat × Value)) : Option Value := match tzero P t with
  | some z => if z.cells.toList.all atomic = true ∧ parts.all (fun p => p.2.cells.toList.all cellOK) = true then (P.built t parts).map .agg else none
  | none => none
@[go_sem] theorem iop0_build {P : Program} {sz : Nat} {t : TypeId} {ps : Array (Nat × Operand)} {ρ : Operand → Value} : iop0 P sz (.build t ps) ρ = vo (ibuild P t (ps.toList.map fun p => (p.1, ρ p.2))) := by
  have e1 : (ps.map fun (i, x) => (i, ρ x)).toList = ps.toList.map fun p => (p.1, ρ p.2) := by simp
  have e2 : (ps.toList.map fun p => (p.1, ρ p.2)).all (fun p => p.2.cells.toList.all cellOK) = ps.toList.all (fun p => (ρ p.2).cells.toList.all cellOK) := by simp [List.all_map, Function.comp_def]
  simp only [iop0, ibuild, e2]
  cases tzero P t with
  | none => rfl
  | some z =>
    simp only
    split
    · rw [e1]; cases P.built t _ <;> rfl
    · rfl

/-! ### Results -/
def icons (a : Option Value) (l : Option (List Value)) : Option (List Value) := match a, l with
  | some v, some vs => some (v :: vs)
  | _, _ => none
@[go_sem] theorem icons_some {v : Value} {vs : List Value} : icons (some v) (some vs) = some (v :: vs) := rfl
@[go_sem] theorem iresultList_cons {P : Program} {e : Env} {h : Heap} {r : ResultVar} {rs : List ResultVar} : iresultList P e h (r :: rs) = icons (iresult P e h r) (iresultList P e h rs) := by
  simp only [iresultList, icons]
  rfl
@[go_sem] theorem iresult_tmp {P : Program} {e : Env} {h : Heap} {t : Nat} : iresult P e h (.tmp t) = some (e.get t) := rfl
@[go_sem] theorem iresult_cell {P : Program} {e : Env} {h : Heap} {a : Nat} {t : TypeId} : iresult P e h (.cell a t) = iload P h t (e.get a) := rfl
def Wrl (vs : Option (List Value)) (Q : Value → Heap → Prop) (h : Heap) : Prop := match vs with
  | some [v] => Q v h
  | some vs => Q (.tuple vs.toArray) h
  | none => False
@[go_sem] theorem Wr_eq {P : Program} {rs : List ResultVar} {Q : Value → Heap → Prop} {e : Env} {h : Heap} : Wr P rs Q e h ↔ Wrl (iresultList P e h rs) Q h := Iff.rfl
@[go_sem] theorem Wrl_none {Q : Value → Heap → Prop} {h : Heap} : Wrl (some []) Q h ↔ Q (.tuple #[]) h := Iff.rfl
@[go_sem] theorem Wrl_one {Q : Value → Heap → Prop} {h : Heap} {v : Value} : Wrl (some [v]) Q h ↔ Q v h := Iff.rfl
@[go_sem] theorem Wrl_two {Q : Value → Heap → Prop} {h : Heap} {v w : Value} {vs : List Value} : Wrl (some (v :: w :: vs)) Q h ↔ Q (.tuple (v :: w :: vs).toArray) h := Iff.rfl

/-! ### Guards -/
def gs : List Oper → Nat → Option Tmp
  | [], _ => none
  | o :: _, 0 => o.dst
  | _ :: l, j + 1 => gs l j
@[go_sem] theorem gslot_eq {l : List Oper} {j : Nat} : gslot l.toArray j = gs l j := by
  simp only [gslot, List.getElem?_toArray]
  induction l generalizing j with
  | nil => rfl
  | cons o l ih => cases j with
    | zero => rfl
    | succ j => simpa [gs] using ih
@[go_sem] theorem gs_zero {o : Oper} {l : List Oper} : gs (o :: l) 0 = o.dst := rfl
@[go_sem] theorem gs_succ {o : Oper} {l : List Oper} {j : Nat} : gs (o :: l) (j + 1) = gs l j := rfl

/-! ### Parts -/
theorem foldl_splice : ∀ (vs : List Value) (k off : Nat) (c : Array Value), off + k + vs.length ≤ c.size →
    ((vs.zipIdx k).foldl (fun (cs : Array Value) (x : Value × Nat) => cs.setIfInBounds (off + x.2) x.1) c).toList = splice c.toList (off + k) vs
  | [], k, off, c, h => by simp [splice]
  | v :: vs, k, off, c, h => by
    simp only [List.zipIdx_cons, List.foldl_cons]
    rw [foldl_splice vs (k + 1) off _ (by simp at h ⊢; omega)]
    simp only [Array.toList_setIfInBounds, splice]
    have h1 : off + k < c.toList.length := by simp at h ⊢; omega
    have e1 : (c.toList.set (off + k) v).take (off + (k + 1)) = c.toList.take (off + k) ++ [v] := by
      rw [show off + (k + 1) = (off + k) + 1 by omega, List.take_set, List.take_succ_eq_append_getElem h1]
      rw [List.set_append_right _ _ (by simp; omega)]
      have h2 : off + k - min (off + k) c.size = 0 := by simp at h1; omega
      simp [h2]
    have e2 : (c.toList.set (off + k) v).drop (off + (k + 1) + vs.length) = c.toList.drop (off + k + (vs.length + 1)) := by
      rw [List.drop_set_of_lt (by omega)]
      congr 1
      omega
    rw [e1, e2]
    simp

def sfill (place : Nat → Option (Nat × Nat)) (cs : List Value) : List (Nat × Value) → Option (List Value)
  | [] => some cs
  | (i, v) :: rest => match place i with
    | none => none
    | some (off, size) => if v.cells.toList.length = size ∧ off + size ≤ cs.length then sfill place (splice cs off v.cells.toList) rest else none
theorem fill_eq (place : Nat → Option (Nat × Nat)) : ∀ (ps : List (Nat × Value)) (c : Array Value), Instr.fill place c ps = (sfill place c.toList ps).map List.toArray
  | [], c => by simp [Instr.fill, sfill]
  | (i, v) :: ps, c => by
    simp only [Instr.fill, sfill]
    cases place i with
    | none => rfl
    | some p =>
      obtain ⟨off, size⟩ := p
      simp only [Array.length_toList]
      by_cases h1 : v.cells.size = size
      · by_cases h2 : off + v.cells.size ≤ c.size
        · rw [if_neg (by simp [h1]; omega), if_pos ⟨h1, by omega⟩, fill_eq place ps]
          congr 2
          rw [← Array.foldl_toList, Array.toList_zipIdx]
          exact foldl_splice _ 0 off c (by simpa using h2)
        · rw [if_pos (by simp; omega), if_neg (by omega)]
          rfl
      · rw [if_pos (by simp [h1]), if_neg (by simp [h1])]
        rfl
@[go_sem] theorem sfill_nil {place : Nat → Option (Nat × Nat)} {cs : List Value} : sfill place cs [] = some cs := rfl
def sfil (p : Option (Nat × Nat)) (place : Nat → Option (Nat × Nat)) (cs vs : List Value) (rest : List (Nat × Value)) : Option (List Value) := match p with
    | none => none
    | some (off, size) => if vs.length = size ∧ off + size ≤ cs.length then sfill place (splice cs off vs) rest else none
@[go_sem] theorem sfill_cons {place : Nat → Option (Nat × Nat)} {cs : List Value} {i : Nat} {v : Value} {rest : List (Nat × Value)} : sfill place cs ((i, v) :: rest) = sfil (place i) place cs v.cells.toList rest := rfl
@[go_sem] theorem sfil_some {place : Nat → Option (Nat × Nat)} {cs vs : List Value} {off size : Nat} {rest : List (Nat × Value)} : sfil (some (off, size)) place cs vs rest = if vs.length = size ∧ off + size ≤ cs.length then sfill place (splice cs off vs) rest else none := rfl

/-- How a struct lies: its fields' places, and its cells when it is new. -/
def lay (P : Program) (t : TypeId) : Option (List (Nat × Nat) × List Value) := match P.info? t, P.underlying t with
  | some it, some (.struct fields) => match it.zero, fields.toList.mapM (fun f => (P.info? f.type).map fun i => (f.offset, i.size)) with
    | some z, some places => if z.cells.toList.all atomic = true then some (places, z.cells.toList) else none
    | _, _ => none
  | _, _ => none
def blt (pl : List (Nat × Nat)) (z : List Value) (parts : List (Nat × Value)) : Option Value :=
  if parts.all (fun p => p.2.cells.toList.all cellOK) = true then (sfill (fun i => pl[i]?) z parts).map fun cs => .agg cs.toArray else none
@[go_sem] theorem blt_eq {pl : List (Nat × Nat)} {z : List Value} {parts : List (Nat × Value)} : blt pl z parts = if parts.all (fun p => p.2.cells.toList.all cellOK) = true then (sfill (fun i => pl[i]?) z parts).map fun cs => .agg cs.toArray else none := rfl
theorem ibuild_of {P : Program} {t : TypeId} {pl : List (Nat × Nat)} {z : List Value} (hl : lay P t = some (pl, z)) {parts : List (Nat × Value)} : ibuild P t parts = blt pl z parts := by
  unfold lay at hl
  split at hl
  · rename_i it fields hi hu
    split at hl
    · rename_i zz places hz hp
      split at hl
      · rename_i ha
        cases hl
        have e : P.built t parts = (sfill (fun i => pl[i]?) zz.cells.toList parts).map List.toArray := by
          simp only [Program.built, hi, hu, hz, hp]
          rw [fill_eq]
          congr 2
          funext i
          simp
        simp only [ibuild, tzero, hi, Option.bind_some, hz, ha, true_and, e, blt]
        split
        · simp [Option.map_map, Function.comp_def]
        · rfl
      · cases hl
    · cases hl
  · cases hl

/-- A slice's elements: their size, and a new one. -/
def elay (P : Program) (t : TypeId) (len : Nat) : Option (Nat × List Value) := match P.underlying t with
  | some (.slice e) => match P.info? e with
    | some i => match i.zero with
      | some z => if len * i.size ≤ 16777216 ∧ 0 < i.size ∧ z.cells.size = i.size ∧ z.cells.toList.all atomic = true then some (i.size, (List.replicate len z.cells.toList).flatten) else none
      | none => none
    | none => none
  | _ => none
def bsl (sz len size : Nat) (z : List Value) (parts : List (Nat × Value)) : Option (Value × Option Blk) :=
  if parts.all (fun p => p.2.cells.toList.all cellOK) = true then
    match sfill (fun k => some (k * size, size)) z parts with
    | some cs => if cs.all cellOK = true then some (.slice (some ⟨sz, 0, none⟩) len len, some (.cells cs size)) else none
    | none => none
  else none
def bsd (sz len size : Nat) (r : Option (List Value)) : Option (Value × Option Blk) := match r with
    | some cs => if cs.all cellOK = true then some (.slice (some ⟨sz, 0, none⟩) len len, some (.cells cs size)) else none
    | none => none
@[go_sem] theorem bsd_some {sz len size : Nat} {cs : List Value} : bsd sz len size (some cs) = if cs.all cellOK = true then some (.slice (some ⟨sz, 0, none⟩) len len, some (.cells cs size)) else none := rfl
@[go_sem] theorem bsl_eq {sz len size : Nat} {z : List Value} {parts : List (Nat × Value)} : bsl sz len size z parts = if parts.all (fun p => p.2.cells.toList.all cellOK) = true then bsd sz len size (sfill (fun k => some (k * size, size)) z parts) else none := rfl
theorem iop0_buildSlice_of {P : Program} {sz : Nat} {t : TypeId} {len size : Nat} {z : List Value} (hl : elay P t len = some (size, z)) {ps : Array (Nat × Operand)} {ρ : Operand → Value} :
    iop0 P sz (.buildSlice t len ps) ρ = bsl sz len size z (ps.toList.map fun p => (p.1, ρ p.2)) := by
  have e1 : (ps.map fun (i, x) => (i, ρ x)).toList = ps.toList.map fun p => (p.1, ρ p.2) := by simp
  have e2 : (ps.toList.map fun p => (p.1, ρ p.2)).all (fun p => p.2.cells.toList.all cellOK) = ps.toList.all (fun p => (ρ p.2).cells.toList.all cellOK) := by simp [List.all_map, Function.comp_def]
  unfold elay at hl
  split at hl
  · rename_i e hu
    split at hl
    · rename_i i hi
      split at hl
      · rename_i zz hz
        split at hl
        · rename_i hc
          cases hl
          simp only [iop0, hu, hi, hz, bsl, e2]
          by_cases hp : ps.toList.all (fun p => (ρ p.2).cells.toList.all cellOK) = true
          · rw [if_pos ⟨hc.1, hc.2.1, hc.2.2.1, hc.2.2.2, hp⟩, if_pos hp, e1, fill_eq]
            cases sfill (fun k => some (k * i.size, i.size)) (List.replicate len zz.cells.toList).flatten (ps.toList.map fun p => (p.1, ρ p.2)) with
            | none => rfl
            | some cs => rfl
          · rw [if_neg (fun hh => hp hh.2.2.2.2), if_neg hp]
        · cases hl
      · cases hl
    · cases hl
  · cases hl

/-! ### Comparisons by type -/
def iops (op : BinOp) (b : Option Bool) : Option Value := match b with
  | none => none
  | some b => match op with
    | .eql => some (.bool b)
    | .neq => some (.bool (!b))
    | _ => none
@[go_sem] theorem iops_eql {b : Bool} : iops .eql (some b) = some (.bool b) := rfl
@[go_sem] theorem iops_neq {b : Bool} : iops .neq (some b) = some (.bool (!b)) := rfl
def ieqt (u : Option TypeDesc) (x y : Value) : Option Bool := match u with
  | none => none
  | some d => ieqv d x y
theorem ibinop_typed {P : Program} {op : BinOp} {t : TypeId} {x y : Value} (h : ibin op x y = none) (hs : istruct P t x y = none) : ibinop P op t x y = iops op (ieqt (P.underlying t) x y) := by
  simp only [ibinop, h, ieqt, iops, hs]
  cases P.underlying t with
  | none => rfl
  | some d => simp only; cases ieqv d x y <;> rfl
section
variable {P : Program} {op : BinOp} {t : TypeId}
@[go_sem] theorem ibinop_bool {a b : Bool} : ibinop P op t (.bool a) (.bool b) = iops op (ieqt (P.underlying t) (.bool a) (.bool b)) := ibinop_typed (by cases op <;> rfl) rfl
@[go_sem] theorem ibinop_slice {a b : Option Addr} {n m c d : Nat} : ibinop P op t (.slice a n c) (.slice b m d) = iops op (ieqt (P.underlying t) (.slice a n c) (.slice b m d)) := ibinop_typed (by cases op <;> rfl) rfl
@[go_sem] theorem ibinop_pointer {a b : Option Addr} : ibinop P op t (.pointer a) (.pointer b) = iops op (ieqt (P.underlying t) (.pointer a) (.pointer b)) := ibinop_typed (by cases op <;> rfl) rfl
@[go_sem] theorem ibinop_map {a b : Option Nat} : ibinop P op t (.map a) (.map b) = iops op (ieqt (P.underlying t) (.map a) (.map b)) := ibinop_typed (by cases op <;> rfl) rfl
@[go_sem] theorem ieqt_bool {a b : Bool} : ieqt (some .bool) (.bool a) (.bool b) = some (decide (a = b)) := by cases a <;> cases b <;> rfl
@[go_sem] theorem ieqt_slice {e : TypeId} {a : Option Addr} {n c : Nat} : ieqt (some (.slice e)) (.slice a n c) (.slice none 0 0) = some a.isNone := by cases a <;> rfl
@[go_sem] theorem ieqt_pointer {e : TypeId} {a : Option Addr} : ieqt (some (.pointer e)) (.pointer a) (.pointer none) = some a.isNone := by cases a <;> rfl
@[go_sem] theorem ieqt_map {k e : TypeId} {a : Option Nat} : ieqt (some (.map k e)) (.map a) (.map none) = some a.isNone := by cases a <;> rfl
attribute [go_sem] Option.isNone_none Option.isNone_some
end
section
variable {P : Program} {op : BinOp} {t : TypeId} {xs ys : Array Value}
def eqst (o : Option (List (TypeDesc × Nat))) (op : BinOp) (xs ys : Array Value) : Option Value := match o with
  | some l => match cellsEq xs ys l with
    | some b => eqres op b
    | none => none
  | none => none
def eqO (op : BinOp) (b : Option Bool) : Option Value := match b with
  | some b => eqres op b
  | none => none
@[go_sem] theorem eqst_some {l : List (TypeDesc × Nat)} : eqst (some l) op xs ys = eqO op (cellsEq xs ys l) := by
  simp only [eqst, eqO]
@[go_sem] theorem eqO_eql {b : Bool} : eqO .eql (some b) = some (.bool b) := rfl
@[go_sem] theorem eqO_neq {b : Bool} : eqO .neq (some b) = some (.bool (!b)) := rfl
theorem ibinop_agg {l : List (TypeDesc × Nat)} (hl : eqlay P t = some l) (h : ∀ a b, ibin op (.agg a) (.agg b) = none) : ibinop P op t (.agg xs) (.agg ys) = eqst (some l) op xs ys := by
  have hu : ∃ d, P.underlying t = some d := by
    unfold eqlay at hl
    split at hl
    · exact ⟨_, by assumption⟩
    · cases hl
  obtain ⟨d, hd⟩ := hu
  have hi : ieqv d (.agg xs) (.agg ys) = none := by cases d <;> rfl
  simp only [ibinop, h, hd, hi, istruct, hl, eqst]
  cases cellsEq xs ys l <;> rfl
@[go_sem] theorem cellsEq_nil : cellsEq xs ys [] = some true := rfl
@[go_sem] theorem cellsEq_cons {d : TypeDesc} {o : Nat} {l : List (TypeDesc × Nat)} : cellsEq xs ys ((d, o) :: l) = andO (feq d xs[o]? ys[o]?) (cellsEq xs ys l) := rfl
@[go_sem] theorem andO_some {a b : Bool} : andO (some a) (some b) = some (a && b) := rfl
@[go_sem] theorem feq_bool {a b : Bool} : feq .bool (some (.bool a)) (some (.bool b)) = some (decide (a = b)) := by cases a <;> cases b <;> rfl
@[go_sem] theorem feq_int {k k' : IntKind} {a b : Int} : feq (.int k) (some (.int k' a)) (some (.int k' b)) = some (decide (a = b)) := by
  have e : (a == b) = decide (a = b) := by rw [Bool.eq_iff_iff]; simp
  simp only [feq, if_true, e]
@[go_sem] theorem feq_string {a b : ByteArray} : feq .string (some (.string a)) (some (.string b)) = some (decide (a = b)) := by
  simp only [feq, bytes_beq]
end
/-- A function value that bears captured variables. -/
@[go_sem] theorem icallee_fn {g : FuncId} {args a c : Array Value} {h : Heap} : icallee (.func (.func g) a c) args h = some (.enter g (a ++ args ++ c), h) := rfl
end Go.Im

namespace Go.Im

/-! ### Numbers -/
attribute [go_sem] ibinop_quo ibinop_rem
theorem wrap_i64 {x : Int} (h1 : -9223372036854775808 ≤ x) (h2 : x ≤ 9223372036854775807) : IntKind.i64.wrap x = x := IntWalk.i64_in x ⟨h1, h2⟩
theorem wrap_u8 {x : Int} (h1 : 0 ≤ x) (h2 : x ≤ 255) : IntKind.u8.wrap x = x := by rw [IntKind.wrap_u8]; omega
theorem wrap_u64 {x : Int} (h1 : 0 ≤ x) (h2 : x ≤ 18446744073709551615) : IntKind.u64.wrap x = x := by rw [IntKind.wrap_u64]; omega
theorem wrap_i32 {x : Int} (h1 : -2147483648 ≤ x) (h2 : x ≤ 2147483647) : IntKind.i32.wrap x = x := by rw [IntKind.wrap_i32]; omega
@[go_sem] theorem iminmax_one {b : Bool} {k : IntKind} {x : Int} : iminmax b [.int k x] = some (.int k x) := rfl
@[go_sem] theorem iminmax_max {k : IntKind} {x y : Int} : iminmax true [.int k x, .int k y] = some (.int k (max x y)) := by
  simp only [iminmax, iminmaxIn, if_true]
  congr 2
  by_cases h : y > x
  · rw [if_pos h]; omega
  · rw [if_neg h]; omega
@[go_sem] theorem iminmax_min {k : IntKind} {x y : Int} : iminmax false [.int k x, .int k y] = some (.int k (min x y)) := by
  simp only [iminmax, iminmaxIn, if_true, Bool.false_eq_true, if_false]
  congr 2
  by_cases h : y < x
  · rw [if_pos h]; omega
  · rw [if_neg h]; omega

/-! ### Slices -/
def isl (k : Blk) (size o n : Nat) : Option (List Value) := match k with
  | .cells cs esz => if esz = size ∧ o + n * size ≤ cs.length then some ((cs.drop o).take (n * size)) else if n = 0 then some [] else none
  | _ => if n = 0 then some [] else none
@[go_sem] theorem islice_nil {h : Heap} {size : Nat} : islice h size (.slice none 0 0) = some [] := rfl
@[go_sem] theorem islice_at {h : Heap} {size b o n c : Nat} : islice h size (.slice (some ⟨b, o, none⟩) n c) = isl (h.get b).read size o n := by
  simp only [islice, isl]
  rfl
@[go_sem] theorem isl_cells {cs : List Value} {esz size o n : Nat} : isl (.cells cs esz) size o n = if esz = size ∧ o + n * size ≤ cs.length then some ((cs.drop o).take (n * size)) else if n = 0 then some [] else none := rfl

/-! ### Conversions -/
def icvi (u v : Option TypeDesc) (n : Int) (h : Heap) : Option (Value × Heap) := match u, v with
  | some (.int _), some (.int k) => some (.int k (k.wrap n), h)
  | some (.int _), some .string => some (.string (Utf8.encode n), h)
  | _, _ => none
@[go_sem] theorem icvi_int {k k' : IntKind} {n : Int} {h : Heap} : icvi (some (.int k')) (some (.int k)) n h = some (.int k (k.wrap n), h) := rfl
@[go_sem] theorem icvi_text {k' : IntKind} {n : Int} {h : Heap} : icvi (some (.int k')) (some .string) n h = some (.string (Utf8.encode n), h) := rfl
@[go_sem] theorem iconvert_int {P : Program} {h : Heap} {s d : TypeId} {k : IntKind} {n : Int} : iconvert P h s d (.int k n) = icvi (P.underlying s) (P.underlying d) n h := by
  unfold iconvert icvi
  cases P.underlying s with
  | none => rfl
  | some u => cases P.underlying d with
    | none => cases u <;> rfl
    | some v => cases u <;> cases v <;> rfl
/-- A slice of bytes or of characters. -/
def sk (P : Program) (t : TypeId) : Option IntKind := match P.underlying t with
  | some (.slice e) => match P.underlying e, tsize P e with
    | some (.int .u8), some 1 => some .u8
    | some (.int .i32), some 1 => some .i32
    | _, _ => none
  | _ => none
def icvs (k : Option IntKind) (l : Option (List Value)) (h : Heap) : Option (Value × Heap) := match k, l with
  | some .u8, some cs => match intsOf .u8 cs with
    | some ns => some (.string ⟨(ns.map fun n => UInt8.ofNat n.toNat).toArray⟩, h)
    | none => none
  | some .i32, some cs => match intsOf .i32 cs with
    | some ns => some (.string (runesBytes ns), h)
    | none => none
  | _, _ => none
theorem iconvert_slice {P : Program} {h : Heap} {s d : TypeId} {k : IntKind} {a : Option Addr} {n c : Nat} (hs : sk P s = some k) (hd : P.underlying d = some .string) :
    iconvert P h s d (.slice a n c) = icvs (some k) (islice h 1 (.slice a n c)) h := by
  unfold sk at hs
  split at hs
  · rename_i e hu
    unfold iconvert
    simp only [hu, hd]
    split at hs
    · rename_i h1 h2
      cases hs
      simp only [h1]
      cases islice h 1 (.slice a n c) <;> rfl
    · rename_i h1 h2
      cases hs
      simp only [h1]
      cases islice h 1 (.slice a n c) <;> rfl
    · cases hs
  · cases hs
def intCells (k : IntKind) (ns : List Int) : List Value := ns.map fun n => .int k n
theorem intsOf_cells (k : IntKind) : ∀ ns : List Int, intsOf k (intCells k ns) = some ns
  | [] => rfl
  | n :: ns => by simp only [intCells, List.map_cons, intsOf, if_true]; rw [show List.map (fun n => Value.int k n) ns = intCells k ns from rfl, intsOf_cells k ns]
theorem icvs_u8 {ns : List Int} {h : Heap} : icvs (some .u8) (some (intCells .u8 ns)) h = some (.string ⟨(ns.map fun n => UInt8.ofNat n.toNat).toArray⟩, h) := by
  simp only [icvs, intsOf_cells]
theorem icvs_one {n : Int} {h : Heap} : icvs (some .u8) (some [.int .u8 n]) h = some (.string ⟨#[UInt8.ofNat n.toNat]⟩, h) := icvs_u8 (ns := [n])
attribute [go_sem] icvs_one

/-! ### Appending -/
/-- An element's cells and bytes, if a slice of it can be appended to. -/
def aelem (P : Program) (t : TypeId) : Option (Nat × Nat) := match P.underlying t with
  | some (.slice e) => match P.info? e with
    | some i => if i.size ≠ 0 ∧ (i.zero.map fun z => z.cells.size) = some i.size then some (i.size, i.bytes) else none
    | none => none
  | _ => none
def slen : Value → Nat | .slice _ n _ => n | _ => 0
def iapp (low : Nat) (h : Heap) (size bytes : Nat) (s : Value) (k : Nat) (new : Option (List Value)) : Option (Value × Heap) := match new with
  | some new => match s with
    | .slice base n cap => if 140737488355328 < 2 * (n + k) * bytes ∨ 4611686018427387904 < n + k then none else if k = 0 then some (.slice base n cap, h) else iput low h size (.slice base n cap) k new
    | _ => none
  | none => none
theorem iappend_slice {P : Program} {low : Nat} {h : Heap} {t1 t2 e2 : TypeId} {size bytes : Nat} {s : Value} {a : Option Addr} {k c : Nat} (ha : aelem P t1 = some (size, bytes)) (hu : P.underlying t2 = some (.slice e2)) :
    iappend P low h #[t1, t2] s (.slice a k c) = iapp low h size bytes s k (islice h size (.slice a k c)) := by
  unfold aelem at ha
  split at ha
  · rename_i e he
    split at ha
    · rename_i i hi
      split at ha
      · rename_i hz
        cases ha
        have e1 : ((#[t1, t2] : Array TypeId)[0]?).bind P.underlying = some (.slice e) := he
        have e2' : ((#[t1, t2] : Array TypeId)[1]?).bind P.underlying = some (.slice e2) := hu
        simp only [iappend, e1, e2', hi, inews, iapp]
        cases islice h i.size (.slice a k c) with
        | none => cases s <;> rfl
        | some l =>
          cases s with
          | slice base n cap =>
            simp only
            by_cases h1 : 140737488355328 < 2 * (n + k) * i.bytes ∨ 4611686018427387904 < n + k
            · rw [if_pos (h1.elim (fun a => .inr (.inl a)) (fun a => .inr (.inr (.inl a)))), if_pos h1]
            · rw [if_neg (by rintro (h0 | h0 | h0 | h0) <;> first | exact hz.1 h0 | exact h1 (.inl h0) | exact h1 (.inr h0) | exact h0 hz.2), if_neg h1]
          | _ => rfl
      · cases ha
    · cases ha
  · cases ha
theorem iappend_string {P : Program} {low : Nat} {h : Heap} {t1 t2 : TypeId} {bytes : Nat} {s : Value} {t : ByteArray} (ha : aelem P t1 = some (1, bytes)) (hu : P.underlying t2 = some .string) :
    iappend P low h #[t1, t2] s (.string t) = iapp low h 1 bytes s t.size (some (t.data.toList.map fun b => .int .u8 b.toNat)) := by
  unfold aelem at ha
  split at ha
  · rename_i e he
    split at ha
    · rename_i i hi
      split at ha
      · rename_i hz
        simp only [Option.some.injEq, Prod.mk.injEq] at ha
        obtain ⟨hs1, rfl⟩ := ha
        have e1 : ((#[t1, t2] : Array TypeId)[0]?).bind P.underlying = some (.slice e) := he
        have e2' : ((#[t1, t2] : Array TypeId)[1]?).bind P.underlying = some .string := hu
        simp only [iappend, e1, e2', hi, inews, iapp, hs1, if_true]
        cases s with
        | slice base n cap =>
          simp only
          by_cases h1 : 140737488355328 < 2 * (n + t.size) * i.bytes ∨ 4611686018427387904 < n + t.size
          · rw [if_pos (h1.elim (fun a => .inr (.inl a)) (fun a => .inr (.inr (.inl a)))), if_pos h1]
          · rw [if_neg (by
              rintro (h0 | h0 | h0 | h0)
              · omega
              · exact h1 (.inl h0)
              · exact h1 (.inr h0)
              · exact h0 (by rw [hz.2, hs1])), if_neg h1]
        | _ => rfl
      · cases ha
    · cases ha
  · cases ha

/-- The block that a value points into. -/
def vblk : Value → Option Nat
  | .slice (some a) _ _ => some a.block
  | .pointer (some a) => some a.block
  | _ => none
/-- A slice of the call's own, of n elements, that nothing else looks at. -/
def Own (low : Nat) (h : Heap) (size : Nat) (v : Value) (n : Nat) (xs : List Value) : Prop :=
  (v = .slice none 0 0 ∧ n = 0 ∧ xs = []) ∨ ∃ b, v = .slice (some ⟨b, 0, none⟩) n big ∧ low ≤ b ∧ b < h.size ∧ h.get b = .cells xs size ∧ xs.length = n * size
theorem Own.nil (low : Nat) (h : Heap) (size : Nat) : Own low h size (.slice none 0 0) 0 [] := .inl ⟨rfl, rfl, rfl⟩
theorem own_app {low : Nat} {h : Heap} {size bytes : Nat} {v : Value} {n k : Nat} {xs new : List Value} (H : Own low h size v n xs) (hl : low ≤ h.size) (hs : 0 < size) (hk : 0 < k) (hn : new.length = k * size)
    (hb : 2 * (n + k) * bytes ≤ 140737488355328) (hc : n + k ≤ 4611686018427387904) :
    ∃ h', iapp low h size bytes v k (some new) = some (.slice (some ⟨h.size, 0, none⟩) (n + k) big, h') ∧ Own low h' size (.slice (some ⟨h.size, 0, none⟩) (n + k) big) (n + k) (xs ++ new) ∧ h'.size = h.size + 1 ∧
      ∀ b, b < h.size → vblk v ≠ some b → h'.get b = h.get b := by
  rcases H with ⟨rfl, rfl, rfl⟩ | ⟨b, rfl, hlb, hbs, hg, hx⟩
  · refine ⟨h.push (.cells new size), ?_, .inr ⟨h.size, rfl, hl, by simp, by simp [Heap.get_push], by simpa using hn⟩, rfl, fun b hb _ => by rw [Heap.get_push, if_neg (by omega)]⟩
    simp only [iapp, Nat.zero_add]
    rw [if_neg (by simp at hb hc; omega), if_neg (by omega)]
    simp [iput]
  · have ht : xs.take (n * size) = xs := by rw [← hx]; exact List.take_length
    refine ⟨(h.set b .dead).push (.cells (xs ++ new) size), ?_, .inr ⟨h.size, rfl, hl, by simp, by simp [Heap.get_push], by simp [hx, hn, Nat.add_mul]⟩, rfl, fun c hc hv => ?_⟩
    · simp only [iapp]
      rw [if_neg (by omega), if_neg (by omega)]
      simp only [iput, hg, Nat.zero_add, List.drop_zero, ht]
      have hpos : 0 < k * size := Nat.mul_pos hk hs
      rw [if_neg (by simp; omega), if_neg (Nat.lt_irrefl _), if_pos ⟨trivial, hlb⟩, if_neg (by rw [Nat.add_mul]; omega)]
    · rw [Heap.get_push, if_neg (by simp; omega), Heap.get_set, if_neg (by intro hcb; exact hv (by simp [vblk, hcb]))]

/-! ### Making a slice -/
def melem (P : Program) (t : TypeId) : Option (Nat × Nat × List Value) := match P.underlying t with
  | some (.slice e) => match P.info? e with
    | some i => match i.zero with
      | some z => if 0 < i.size ∧ z.cells.size = i.size ∧ z.cells.toList.all atomic = true then some (i.size, i.bytes, z.cells.toList) else none
      | none => none
    | none => none
  | _ => none
def imk (sz size bytes : Nat) (z : List Value) (l c : Int) : Option (Value × Option Blk) :=
  if 0 ≤ l ∧ l ≤ c ∧ c * bytes ≤ 140737488355328 ∧ c < 281474976710656 then
    some (.slice (some ⟨sz, 0, none⟩) l.toNat c.toNat, some (.cells ((List.replicate c.toNat z).flatten) size))
  else none
theorem imake_of {P : Program} {sz : Nat} {t : TypeId} {k k' : IntKind} {l c : Int} {size bytes : Nat} {z : List Value} (hm : melem P t = some (size, bytes, z)) : imake P sz t (.int k l) (.int k' c) = imk sz size bytes z l c := by
  unfold melem at hm
  split at hm
  · rename_i e hu
    split at hm
    · rename_i i hi
      split at hm
      · rename_i zz hz
        split at hm
        · rename_i hc
          cases hm
          simp only [imake, hu, numOf, hi, hz, imk]
          by_cases h1 : 0 ≤ l ∧ l ≤ c ∧ c * i.bytes ≤ 140737488355328 ∧ c < 281474976710656
          · rw [if_pos ⟨h1.1, h1.2.1, h1.2.2.1, h1.2.2.2, hc⟩, if_pos h1]
          · rw [if_neg (fun hh => h1 ⟨hh.1, hh.2.1, hh.2.2.1, hh.2.2.2.1⟩), if_neg h1]
        · cases hm
      · cases hm
    · cases hm
  · cases hm
theorem imk_ok {sz size bytes : Nat} {z : List Value} {l c : Int} (h1 : 0 ≤ l) (h2 : l ≤ c) (h3 : c * bytes ≤ 140737488355328) (h4 : c < 281474976710656) :
    imk sz size bytes z l c = some (.slice (some ⟨sz, 0, none⟩) l.toNat c.toNat, some (.cells ((List.replicate c.toNat z).flatten) size)) := by rw [imk, if_pos ⟨h1, h2, h3, h4⟩]

/-- An append where there is room, and it is known. -/
theorem iapp_room {low : Nat} {h : Heap} {size bytes b o n k cap : Nat} {cs new : List Value} (hg : h.get b = .cells cs size) (hl : low ≤ b) (hk : 0 < k) (hb : 2 * (n + k) * bytes ≤ 140737488355328) (hc : n + k ≤ cap) (hcap : cap < big)
    (ho : o + (n + k) * size ≤ cs.length) : iapp low h size bytes (.slice (some ⟨b, o, none⟩) n cap) k (some new) = some (.slice (some ⟨b, o, none⟩) (n + k) cap, h.set b (.cells (splice cs (o + n * size) new) size)) := by
  have h1 : o + n * size ≤ cs.length := by rw [Nat.add_mul] at ho; omega
  simp only [iapp]
  rw [if_neg (by simp only [big] at hcap; omega), if_neg (by omega)]
  simp only [iput, hg]
  rw [if_neg (by simp; omega), if_pos hcap, if_pos hc, if_pos ⟨hl, ho⟩]

/-! ### Texts as lists of bytes -/
def text (l : List UInt8) : ByteArray := ⟨l.toArray⟩
theorem text_size (l : List UInt8) : (text l).size = l.length := rfl
theorem text_data (l : List UInt8) : (text l).data.toList = l := rfl
attribute [go_sem] text_size text_data
theorem text_append (l m : List UInt8) : text l ++ text m = text (l ++ m) := by
  apply Go.WideShapes.bytes_inj
  simp [text]
theorem text_inj {l m : List UInt8} : text l = text m ↔ l = m := by
  constructor
  · intro h
    have := congrArg (fun b => b.data.toList) h
    exact this
  · intro h
    rw [h]
theorem text_of (s : ByteArray) : ∃ l, s = text l := ⟨s.data.toList, by cases s; rfl⟩
theorem text_extract (l : List UInt8) (a b : Nat) : (text l).extract a b = text ((l.drop a).take (b - a)) := by
  apply Go.WideShapes.bytes_inj
  simp [text, ByteArray.data_extract]
theorem cat_ok {P : Program} {t : TypeId} {a b : List UInt8} (h : a.length + b.length ≤ 9223372036854775807) : ibinop P .add t (.string (text a)) (.string (text b)) = some (.string (text (a ++ b))) := by
  rw [ibinop_cat (by rw [text_size, text_size]; exact h), text_append]
@[go_sem] theorem ichar_zero {a : UInt8} {l : List UInt8} : ichar (text (a :: l)) 0 = some (.int .u8 a.toNat) := rfl
theorem ichar_text {l : List UInt8} {i : Nat} {a : UInt8} (h : l[i]? = some a) : ichar (text l) i = some (.int .u8 a.toNat) := by
  simp [ichar, text_data, h]
@[go_sem] theorem boundOf_none {d : Nat} : boundOf d none = some d := rfl
@[go_sem] theorem boundOf_some {d : Nat} {k : IntKind} {i : Int} : boundOf d (some (.int k i)) = if 0 ≤ i then some i.toNat else none := rfl
def irt (s : List UInt8) (l h : Option Nat) : Option Value := match l, h with
  | some l, some h => if l ≤ h ∧ h ≤ s.length then some (.string (text ((s.drop l).take (h - l)))) else none
  | _, _ => none
@[go_sem] theorem irt_some {s : List UInt8} {l h : Nat} : irt s (some l) (some h) = if l ≤ h ∧ h ≤ s.length then some (.string (text ((s.drop l).take (h - l)))) else none := rfl
def irsu (u : Option TypeDesc) (s : List UInt8) (lo hi mx : Option Value) : Option Value := match u, mx with
  | some .string, none => irt s (boundOf 0 lo) (boundOf s.length hi)
  | _, _ => none
@[go_sem] theorem irsu_string {s : List UInt8} {lo hi : Option Value} : irsu (some .string) s lo hi none = irt s (boundOf 0 lo) (boundOf s.length hi) := rfl
@[go_sem] theorem iresl_text {P : Program} {h : Heap} {t : TypeId} {s : List UInt8} {lo hi mx : Option Value} : iresl P h t (.string (text s)) lo hi mx = irsu (P.underlying t) s lo hi mx := by
  unfold iresl irsu irt
  cases P.underlying t with
  | none => rfl
  | some u =>
    cases u with
    | string =>
      cases mx with
      | none =>
        simp only [iinds, text_size, boundOf_none]
        cases boundOf 0 lo with
        | none => rfl
        | some l => cases boundOf s.length hi with
          | none => rfl
          | some r =>
            simp only
            by_cases h1 : l ≤ r ∧ r ≤ s.length
            · simp [h1, text_extract]
            · simp only [Nat.le_refl, Option.isSome_none, Bool.false_eq_true, false_implies, and_true, h1, if_false]
      | some m => simp only
    | _ => rfl
def byteCells (l : List UInt8) : List Value := l.map fun b => .int .u8 b.toNat
theorem byteCells_length (l : List UInt8) : (byteCells l).length = l.length := by simp [byteCells]
theorem byteCells_append (l m : List UInt8) : byteCells (l ++ m) = byteCells l ++ byteCells m := by simp [byteCells]
theorem icvs_bytes {l : List UInt8} {h : Heap} : icvs (some .u8) (some (byteCells l)) h = some (.string (text l), h) := by
  have e : byteCells l = intCells .u8 (l.map fun b => (b.toNat : Int)) := by simp [byteCells, intCells, Function.comp_def]
  rw [e, icvs_u8]
  congr 3
  apply Go.WideShapes.bytes_inj
  simp [text, Function.comp_def]
theorem splice_room {xs : List UInt8} {z : Value} {k : Nat} {x : UInt8} : splice (byteCells xs ++ List.replicate (k + 1) z) xs.length [.int .u8 x.toNat] = byteCells (xs ++ [x]) ++ List.replicate k z := by
  simp only [splice]
  rw [List.take_append_of_le_length (by rw [byteCells_length]; exact Nat.le_refl _), List.take_of_length_le (by rw [byteCells_length]; exact Nat.le_refl _)]
  rw [List.drop_append, List.drop_eq_nil_of_le (by rw [byteCells_length]; simp)]
  simp [byteCells]
theorem Own.push {low : Nat} {h : Heap} {size : Nat} {v : Value} {n : Nat} {xs : List Value} (H : Own low h size v n xs) (x : Blk) : Own low (h.push x) size v n xs := by
  rcases H with H | ⟨b, hv, hl, hb, hg, hx⟩
  · exact .inl H
  · exact .inr ⟨b, hv, hl, by simp; omega, by rw [Heap.get_push, if_neg (by omega)]; exact hg, hx⟩
theorem Own.ext {low : Nat} {h h' : Heap} {size : Nat} {v : Value} {n : Nat} {xs : List Value} (H : Own low h size v n xs) (k : Ext h h') : Own low h' size v n xs := by
  rcases H with H | ⟨b, hv, hl, hb, hg, hx⟩
  · exact .inl H
  · exact .inr ⟨b, hv, hl, by have := k.1; omega, by rw [k.2 b hb]; exact hg, hx⟩
end Go.Im

set_option linter.unusedSimpArgs false
set_option linter.unusedVariables false
namespace Go.Im
open Go.RowKit

/-! ### Blocks that are only read, laid for a call -/
structure View where
  blk : Nat
  off : Nat
  cap : Nat
  esz : Nat
  cells : List Value

def laid : List View → Heap
  | [] => h0
  | v :: vs => (laid vs).push (.fixed v.cells v.esz)
theorem laid_size : ∀ vs, (laid vs).size = vs.length
  | [] => rfl
  | v :: vs => by simp [laid, laid_size vs]
/-- The views are counted from the last one. -/
def vAt (vs : List View) (i : Nat) : Option View := vs.reverse[i]?
theorem vAt_cons {v : View} {vs : List View} {i : Nat} : vAt (v :: vs) i = if i = vs.length then some v else vAt vs i := by
  unfold vAt
  rw [List.reverse_cons]
  by_cases h : i < vs.length
  · rw [List.getElem?_append_left (by simpa using h), if_neg (by omega)]
  · rw [List.getElem?_append_right (by simpa using h)]
    by_cases e : i = vs.length
    · simp [e]
    · rw [if_neg e, List.getElem?_eq_none (by simp; omega), List.getElem?_eq_none (by simp; omega)]
theorem laid_get : ∀ (vs : List View) (i : Nat) (v : View), vAt vs i = some v → (laid vs).get i = .fixed v.cells v.esz
  | [], i, v, h => by simp [vAt] at h
  | u :: vs, i, v, h => by
    rw [vAt_cons] at h
    simp only [laid]
    rw [Heap.get_push, laid_size]
    by_cases e : i = vs.length
    · rw [if_pos e] at h
      cases h
      rw [if_pos e]
    · rw [if_neg e] at h
      rw [if_neg e]
      exact laid_get vs i v h
def View.loc (v : View) : Loc := ⟨v.blk, v.off, v.cells.length, v.cap, v.esz⟩
def vPlaces (vs : List View) : Places := fun i => (vAt vs i).map View.loc

/-- A view is of the world. -/
def View.of (φ : Places) (w : World) (v : View) : Prop := 0 < v.esz ∧ ∃ c e fr, w.heap[v.blk]? = some (.cells c e fr) ∧ v.off + v.cells.length ≤ c.size ∧ ∀ (i : Nat) (x : Value), v.cells[i]? = some x → cellOK x = true ∧ ∃ y, c[v.off + i]? = some y ∧ RV φ x y

theorem RH.laid {w : World} {vs : List View} (h : ∀ i v, vAt vs i = some v → v.of (vPlaces vs) w) : RH (vPlaces vs) (laid vs) w where
  low := by
    intro b l hb
    simp only [vPlaces, Option.map_eq_some_iff] at hb
    obtain ⟨v, hv, rfl⟩ := hb
    obtain ⟨_, c, e, fr, h1, _⟩ := h b v hv
    refine ⟨?_, (Array.getElem?_eq_some_iff.1 h1).1⟩
    rw [laid_size]
    have := (List.getElem?_eq_some_iff.1 hv).1
    simpa using this
  blk := by
    intro b l hb
    simp only [vPlaces, Option.map_eq_some_iff] at hb
    obtain ⟨v, hv, rfl⟩ := hb
    obtain ⟨h0, c, e, fr, h1, h2, h3⟩ := h b v hv
    refine ⟨_, h1, ?_⟩
    rw [laid_get vs b v hv]
    exact ⟨rfl, h2, rfl, h0, h3⟩
  inj := by
    intro b c l m hb hc _ _ hf
    simp only [vPlaces, Option.map_eq_some_iff] at hb hc
    obtain ⟨v, hv, rfl⟩ := hb
    obtain ⟨u, hu, rfl⟩ := hc
    rw [laid_get vs b v hv, laid_get vs c u hu] at hf
    simp [Blk.isFixed] at hf

/-- A call at such arguments that answers a plain value. -/
theorem calls_laid {K : Cfg} (hK : CfgOK K) {f : FuncId} {vs : List View} {args args' : Array Value} {v : Value} {w : World} (hv : ∀ i u, vAt vs i = some u → u.of (vPlaces vs) w) (ha : RL (vPlaces vs) args.toList args'.toList)
    (hp : Im.atomic v = true) (H : Runs K f args (laid vs) fun x _ => x = v) (ht : K.tied.holds (vPlaces vs) := by exact True.intro) : Calls K.P f args' w fun e w' => e = .returned v ∧ Below w.heap.size w w' := by
  obtain ⟨n, x, h', hi, _, rfl⟩ := H
  refine (calls_of_icall hK (Nat.le_refl _) hi ha (RH.laid hv) ht).mono fun e w' ⟨ψ, v', he, hr, g⟩ => ?_
  rw [RV.atomic_inv hp hr] at he
  refine ⟨he, g.below fun b l hb hl => ?_⟩
  have h1 := (RH.laid hv).low b l hl
  omega

/-! ### Slices that are read -/
/-- n elements, of so many cells each: the cells xs. -/
def Sl (h : Heap) (size : Nat) (a : Option Addr) (n c : Nat) (xs : List Value) : Prop :=
  (a = none ∧ n = 0 ∧ c = 0 ∧ xs = []) ∨ (∃ b o, a = some ⟨b, o, none⟩ ∧ n = 0 ∧ c = 0 ∧ xs = []) ∨
  ∃ b o cs, a = some ⟨b, o, none⟩ ∧ 0 < c ∧ b < h.size ∧ (h.get b).read = .cells cs size ∧ o + n * size ≤ cs.length ∧ xs = (cs.drop o).take (n * size) ∧ ((n ≤ c ∧ c < big) ∨ c = big)

theorem Sl.nil (h : Heap) (size : Nat) : Sl h size none 0 0 [] := .inl ⟨rfl, rfl, rfl, rfl⟩
theorem Sl.length {h : Heap} {size : Nat} {a : Option Addr} {n c : Nat} {xs : List Value} (s : Sl h size a n c xs) : xs.length = n * size := by
  rcases s with ⟨_, rfl, _, rfl⟩ | ⟨_, _, _, rfl, _, rfl⟩ | ⟨b, o, cs, _, _, _, _, h1, rfl, _⟩
  · simp
  · simp
  · simp; omega
theorem Sl.ext {h h' : Heap} (k : Ext h h') {size : Nat} {a : Option Addr} {n c : Nat} {xs : List Value} (s : Sl h size a n c xs) : Sl h' size a n c xs := by
  rcases s with h1 | h1 | ⟨b, o, cs, h1, h2, h3, h4, h5⟩
  · exact .inl h1
  · exact .inr (.inl h1)
  · exact .inr (.inr ⟨b, o, cs, h1, h2, by have := k.1; omega, by rw [k.2 b h3]; exact h4, h5⟩)
/-- Where an element lies. -/
theorem Sl.at {h : Heap} {a : Option Addr} {n c i size : Nat} {xs : List Value} (s : Sl h size a n c xs) (hi : i < n) :
    ∃ b o cs, a = some ⟨b, o, none⟩ ∧ b < h.size ∧ (h.get b).read = .cells cs size ∧ o + n * size ≤ cs.length ∧ xs = (cs.drop o).take (n * size) := by
  rcases s with ⟨_, rfl, _⟩ | ⟨_, _, _, rfl, _⟩ | ⟨b, o, cs, h1, h2, h3, h4, h5, h6, _⟩
  · omega
  · omega
  · exact ⟨b, o, cs, h1, h3, h4, h5, h6⟩
/-- An element of one cell. -/
theorem Sl.one {h : Heap} {a : Option Addr} {n c i : Nat} {xs : List Value} {x : Value} (s : Sl h 1 a n c xs) (hx : xs[i]? = some x) :
    ∃ b o cs, a = some ⟨b, o, none⟩ ∧ b < h.size ∧ (h.get b).read = .cells cs 1 ∧ cs[o + i]? = some x := by
  have hi : i < n := by have := (List.getElem?_eq_some_iff.1 hx).1; rw [s.length] at this; omega
  obtain ⟨b, o, cs, h1, h2, h3, h4, h5⟩ := s.at hi
  refine ⟨b, o, cs, h1, h2, h3, ?_⟩
  rw [h5, List.getElem?_take] at hx
  split at hx
  · rw [List.getElem?_drop] at hx; exact hx
  · cases hx
theorem Sl.islice {h : Heap} {a : Option Addr} {n c size : Nat} {xs : List Value} (s : Sl h size a n c xs) : islice h size (.slice a n c) = some xs ∨ (n = 0 ∧ xs = [] ∧ ∃ b o, a = some ⟨b, o, none⟩ ∧ c = 0) := by
  rcases s with ⟨rfl, rfl, rfl, rfl⟩ | ⟨b, o, rfl, rfl, rfl, rfl⟩ | ⟨b, o, cs, rfl, h2, h3, h4, h5, rfl, _⟩
  · exact .inl rfl
  · exact .inr ⟨rfl, rfl, b, o, rfl, rfl⟩
  · left
    simp only [Im.islice, Heap.look, h4]
    rw [if_pos ⟨trivial, h5⟩]
theorem Sl.isl {h : Heap} {a : Option Addr} {n c size : Nat} {xs : List Value} (s : Sl h size a n c xs) : Im.islice h size (.slice a n c) = some xs := by
  rcases s.islice with h1 | ⟨rfl, rfl, b, o, rfl, rfl⟩
  · exact h1
  · simp only [Im.islice]
    split <;> simp

theorem iinds_of {n cap l u : Nat} {lo hi : Option Value} (hl : boundOf 0 lo = some l) (hu : boundOf n hi = some u) (h1 : l ≤ u) (h2 : u ≤ cap) : iinds n cap lo hi none = some (l, u, cap) := by
  unfold iinds
  have : boundOf cap none = some cap := rfl
  rw [hl, hu, this]
  simp only
  rw [if_pos ⟨h1, h2, Nat.le_refl _, by simp⟩]
/-! ### Slices among the arguments -/
/-- A slice of one-cell elements in the world, and what its elements are. -/
def Arg (W : World) (a : Option Addr) (k c : Nat) (vals : List Value) : Prop := vals.length = k ∧ k ≤ c ∧
  ((a = none ∧ c = 0) ∨ (c = 0 ∧ ∃ ad, a = some ad) ∨ ∃ b o cc e fr, a = some ⟨b, o, none⟩ ∧ 0 < c ∧ W.heap[b]? = some (.cells cc e fr) ∧ o + c ≤ cc.size ∧ ∀ (i : Nat) (x : Value), vals[i]? = some x → cc[o + i]? = some x)

theorem Arg.of_cells {W : World} {a : Addr} {k c : Nat} {vals : List Value} (hl : vals.length = c) (hk : k ≤ c) (hc : ∀ i, i < c → W.cell? (a.add i) = vals[i]?) : Arg W (some a) k c (vals.take k) := by
  refine ⟨by simp; omega, hk, ?_⟩
  by_cases h0 : c = 0
  · exact .inr (.inl ⟨h0, a, rfl⟩)
  · right; right
    obtain ⟨b, o, sp⟩ := a
    have c0 := hc 0 (by omega)
    have hadd0 : (⟨b, o, sp⟩ : Addr).add 0 = ⟨b, o, sp⟩ := rfl
    rw [hadd0] at c0
    obtain ⟨x, hx⟩ : ∃ x, vals[0]? = some x := ⟨_, List.getElem?_eq_getElem (by omega)⟩
    rw [hx] at c0
    unfold World.cell? at c0
    split at c0
    · rename_i cc e fr hb
      split at c0
      · cases c0
      · rename_i hsp
        have hsp' : sp = none := by cases sp with
          | none => rfl
          | some z => simp at hsp
        subst hsp'
        refine ⟨b, o, cc, e, fr, rfl, by omega, hb, ?_, ?_⟩
        · have cl := hc (c - 1) (by omega)
          obtain ⟨y, hy⟩ : ∃ y, vals[c - 1]? = some y := ⟨_, List.getElem?_eq_getElem (by omega)⟩
          rw [hy, addr_add] at cl
          simp only [World.cell?, hb] at cl
          simp at cl
          have := (Array.getElem?_eq_some_iff.1 cl).1
          omega
        · intro i y hy
          rw [List.getElem?_take] at hy
          split at hy
          · rename_i hik
            have cl := hc i (by omega)
            rw [hy, addr_add] at cl
            simp only [World.cell?, hb] at cl
            simpa using cl
          · cases hy
    · cases c0

theorem vAt_old {v : View} {vs : List View} {i : Nat} {u : View} (h : vAt vs i = some u) : vAt (v :: vs) i = some u := by
  rw [vAt_cons, if_neg, h]
  have := (List.getElem?_eq_some_iff.1 h).1
  simp at this
  omega
theorem vPlaces_old {v : View} {vs : List View} : ∀ b l, vPlaces vs b = some l → vPlaces (v :: vs) b = some l := by
  intro b l h
  simp only [vPlaces, Option.map_eq_some_iff] at h ⊢
  obtain ⟨u, hu, rfl⟩ := h
  exact ⟨u, vAt_old hu, rfl⟩
def LaidOK (W : World) (vs : List View) : Prop := ∀ i v, vAt vs i = some v → v.of (vPlaces vs) W
theorem LaidOK.nil (W : World) : LaidOK W [] := by
  intro i v h
  simp [vAt] at h
theorem View.of_mono {φ ψ : Places} (hx : ∀ b l, φ b = some l → ψ b = some l) {w : World} {v : View} (h : v.of φ w) : v.of ψ w := by
  obtain ⟨h0, c, e, fr, h1, h2, h3⟩ := h
  exact ⟨h0, c, e, fr, h1, h2, fun i x hi => let ⟨a, y, b, d⟩ := h3 i x hi; ⟨a, y, b, d.mono hx⟩⟩

/-- One more slice of plain values is laid. -/
theorem LaidOK.arg {W : World} {vs : List View} (L : LaidOK W vs) {a : Option Addr} {k c : Nat} {vals : List Value} (A : Arg W a k c vals) (hat : vals.all Im.atomic = true) :
    ∃ vs' a' c', LaidOK W vs' ∧ (∀ b l, vPlaces vs b = some l → vPlaces vs' b = some l) ∧ Ext (laid vs) (laid vs') ∧ RV (vPlaces vs') (.slice a' k c') (.slice a k c) ∧ Sl (laid vs') 1 a' k c' vals := by
  obtain ⟨hl, hk, h⟩ := A
  rcases h with ⟨rfl, rfl⟩ | ⟨rfl, ad, rfl⟩ | ⟨b, o, cc, e, fr, rfl, hc, hb, hoc, hcell⟩
  · have : k = 0 := by omega
    subst this
    have hv : vals = [] := List.eq_nil_of_length_eq_zero hl
    subst hv
    exact ⟨vs, none, 0, L, fun _ _ h => h, Ext.refl _, .nilSlice, Sl.nil _ _⟩
  · have : k = 0 := by omega
    subst this
    have hv : vals = [] := List.eq_nil_of_length_eq_zero hl
    subst hv
    exact ⟨vs, some ⟨0, 0, none⟩, 0, L, fun _ _ h => h, Ext.refl _, .void 0 0 ad, .inr (.inl ⟨0, 0, rfl, rfl, rfl, rfl⟩)⟩
  · refine ⟨⟨b, o, o + c, 1, vals⟩ :: vs, some ⟨vs.length, 0, none⟩, big, ?_, vPlaces_old, (Ext.refl _).push _, ?_, ?_⟩
    · intro i v hv
      rw [vAt_cons] at hv
      split at hv
      · cases hv
        refine ⟨by simp, cc, e, fr, hb, by simp; omega, fun i x hi => ?_⟩
        have hx : Im.atomic x = true := List.all_eq_true.1 hat x (List.mem_of_getElem? hi)
        refine ⟨?_, x, hcell i x hi, RV.atomic _ hx⟩
        cases x <;> simp_all [Im.atomic, cellOK]
      · exact View.of_mono vPlaces_old (L i v hv)
    · have hφ : vPlaces (⟨b, o, o + c, 1, vals⟩ :: vs) vs.length = some ⟨b, o, vals.length, o + c, 1⟩ := by
        simp only [vPlaces, vAt_cons, if_true, Option.map_some, View.loc]
      have := RV.unknown (φ := vPlaces (⟨b, o, o + c, 1, vals⟩ :: vs)) vs.length 0 k c _ hφ hk (by simp; omega) (by simp; omega) (by simp)
      simpa using this
    · right; right
      refine ⟨vs.length, 0, vals, rfl, by simp [big], ?_, ?_, by simp; omega, ?_, .inr rfl⟩
      · rw [laid_size]; simp
      · rw [laid_get _ _ ⟨b, o, o + c, 1, vals⟩ (by rw [vAt_cons, if_pos rfl])]
        rfl
      · rw [List.drop_zero, List.take_of_length_le (by omega)]
theorem RV.agg_list {φ : Places} {xs ys : Array Value} (h : RL φ xs.toList ys.toList) : RV φ (.agg xs) (.agg ys) := .agg _ _ h.1 h.2
theorem Does.ext {K : Cfg} (hK : CfgOK K) {h0 h : Heap} (x : Ext h0 h) {f : FuncId} {args : Array Value} {Q : Value → Heap → Prop} (H : Does K h0.size f args h Q) : Does K h0.size f args h fun v h' => Ext h0 h' ∧ Q v h' := by
  obtain ⟨n, v, h', hi, hq⟩ := H
  obtain ⟨k1, k2⟩ := (sound hK n).2.keeps x.1 hi
  exact ⟨n, v, h', hi, ⟨Nat.le_trans x.1 k1, fun b hb => (k2 b hb).trans (x.2 b hb)⟩, hq⟩
theorem Own.keep {low low' : Nat} (hl : low ≤ low') {h w : Heap} {size n : Nat} {v : Value} {xs : List Value} (H : Own low' h size v n xs) (hk : ∀ b, b < h.size → vblk v = some b → w.get b = h.get b ∧ b < w.size) : Own low w size v n xs := by
  rcases H with h1 | ⟨b, rfl, h2, h3, h4, h5⟩
  · exact .inl h1
  · have := hk b h3 rfl
    exact .inr ⟨b, rfl, by omega, this.2, by rw [this.1]; exact h4, h5⟩
theorem Own.shape {low : Nat} {h : Heap} {size n : Nat} {v : Value} {xs : List Value} (H : Own low h size v n xs) : ∃ a c, v = .slice a n c := by
  rcases H with ⟨rfl, rfl, _⟩ | ⟨b, rfl, _⟩
  · exact ⟨_, _, rfl⟩
  · exact ⟨_, _, rfl⟩
theorem Own.isl {low : Nat} {h : Heap} {size n : Nat} {v : Value} {xs : List Value} (H : Own low h size v n xs) : islice h size v = some xs := by
  rcases H with ⟨rfl, rfl, rfl⟩ | ⟨b, rfl, _, h3, h4, h5⟩
  · rfl
  · simp only [islice, Heap.look, h4, Blk.read]
    rw [if_pos ⟨trivial, by omega⟩, List.drop_zero, List.take_of_length_le (by omega)]
theorem Own.sl {low : Nat} {h : Heap} {size n : Nat} {a : Option Addr} {c : Nat} {xs : List Value} (H : Own low h size (.slice a n c) n xs) : Sl h size a n c xs := by
  rcases H with ⟨h1, h2, rfl⟩ | ⟨b, h1, h2, h3, h4, h5⟩
  · cases h1
    exact .inl ⟨rfl, rfl, rfl, rfl⟩
  · cases h1
    exact .inr (.inr ⟨b, 0, xs, rfl, by simp [big], h3, by rw [h4]; rfl, by omega, by rw [List.drop_zero, List.take_of_length_le (by omega)], .inr rfl⟩)
/-- A copy: an empty slice of one's own, and elements behind it. -/
theorem app0 {low : Nat} {h : Heap} {size bytes b k : Nat} {new : List Value} (hg : h.get b = .cells [] size) (hs : 0 < size) (hbb : b < h.size) (hn : new.length = k * size) (hb : 2 * k * bytes ≤ 140737488355328) (hc : k ≤ 4611686018427387904) :
    ∃ a c w, iapp low h size bytes (.slice (some ⟨b, 0, none⟩) 0 0) k (some new) = some (.slice a k c, w) ∧ Ext h w ∧ ((k = 0 ∧ a = some ⟨b, 0, none⟩ ∧ c = 0 ∧ w = h) ∨ (0 < k ∧ a = some ⟨h.size, 0, none⟩ ∧ c = big ∧ w = h.push (.cells new size))) ∧ Sl w size a k c new := by
  by_cases h0 : k = 0
  · subst h0
    refine ⟨_, _, h, ?_, Ext.refl h, .inl ⟨rfl, rfl, rfl, rfl⟩, .inr (.inl ⟨b, 0, rfl, rfl, rfl, List.eq_nil_of_length_eq_zero (by omega)⟩)⟩
    simp only [iapp, Nat.zero_add]
    rw [if_neg (by omega), if_pos trivial]
  · refine ⟨_, _, _, ?_, (Ext.refl h).push _, .inr ⟨by omega, rfl, rfl, rfl⟩, .inr (.inr ⟨h.size, 0, new, rfl, by simp [big], by simp, by rw [Heap.get_push, if_pos rfl]; rfl, by omega, by rw [List.drop_zero, List.take_of_length_le (by omega)], .inr rfl⟩)⟩
    simp only [iapp, Nat.zero_add]
    rw [if_neg (by omega), if_neg h0]
    simp only [iput, hg, Nat.zero_mul, List.length_nil, Nat.zero_add]
    rw [if_neg (by simp), if_pos (by simp [big]), if_neg (by omega)]
    simp
/-- An append to a slice of blocks that are newer than h. -/
theorem own_app2 {low : Nat} {h w : Heap} (hlow : low ≤ h.size) (x : Ext h w) {size bytes : Nat} {v : Value} {n k : Nat} {xs new : List Value} (H : Own h.size w size v n xs) (hs : 0 < size) (hk : 0 < k) (hn : new.length = k * size)
    (hb : 2 * (n + k) * bytes ≤ 140737488355328) (hc : n + k ≤ 4611686018427387904) :
    ∃ w', iapp low w size bytes v k (some new) = some (.slice (some ⟨w.size, 0, none⟩) (n + k) big, w') ∧ Own h.size w' size (.slice (some ⟨w.size, 0, none⟩) (n + k) big) (n + k) (xs ++ new) ∧ w'.size = w.size + 1 ∧ Ext h w' := by
  obtain ⟨w', h1, h2, h3, h4⟩ := own_app (H.keep hlow fun b hb _ => ⟨rfl, hb⟩) (Nat.le_trans hlow x.1) hs hk hn hb hc
  refine ⟨w', h1, ?_, h3, ⟨by have := x.1; omega, fun b hb => ?_⟩⟩
  · rcases h2 with ⟨h5, _⟩ | ⟨b, h5, _, h6, h7, h8⟩
    · cases h5
    · cases h5
      exact .inr ⟨w.size, rfl, x.1, h6, h7, h8⟩
  · rw [h4 b (by have := x.1; omega), x.2 b hb]
    rcases H with ⟨rfl, _⟩ | ⟨b', rfl, h5, _⟩
    · simp [vblk]
    · simp only [vblk, ne_eq, Option.some.injEq]
      omega
theorem Own.ne {low : Nat} {h : Heap} {size n b e : Nat} {v : Value} {xs C : List Value} (H : Own low h size v n xs) (hg : h.get b = .cells C e) (he : e ≠ size) : vblk v ≠ some b := by
  rcases H with ⟨rfl, _, _⟩ | ⟨q, rfl, _, _, hq, _⟩
  · simp [vblk]
  · intro hh
    simp only [vblk, Option.some.injEq] at hh
    rw [hh, hg] at hq
    simp only [Blk.cells.injEq] at hq
    exact he hq.2
end Go.Im
