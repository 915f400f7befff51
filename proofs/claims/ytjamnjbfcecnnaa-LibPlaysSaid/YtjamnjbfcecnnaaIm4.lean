/- Proved here: numbers as lists of limbs, and such lists in the ideal machine's memory; no condition beyond those that each rule names. -/
import Derived.Test.YtjamnjbfcecnnaaIm3
set_option linter.unusedSimpArgs false
set_option linter.unusedVariables false
namespace Go.Im.Limbs
def B : Nat := 4294967296
theorem B_eq : B = 4294967296 := rfl
theorem B_pos : 0 < B := by decide
def val : List Nat → Nat
  | [] => 0
  | d :: l => d + B * val l
theorem val_nil : val [] = 0 := rfl
theorem val_cons (d : Nat) (l : List Nat) : val (d :: l) = d + B * val l := rfl
def Small (l : List Nat) : Prop := ∀ d ∈ l, d < B
theorem Small.nil : Small [] := by intro d h; cases h
theorem Small.cons {d : Nat} {l : List Nat} (h : d < B) (hl : Small l) : Small (d :: l) := by
  intro x hx
  rcases List.mem_cons.1 hx with rfl | hx
  · exact h
  · exact hl x hx
theorem Small.tail {d : Nat} {l : List Nat} (h : Small (d :: l)) : d < B ∧ Small l := ⟨h d (by simp), fun x hx => h x (by simp [hx])⟩
theorem Small.take {l : List Nat} (h : Small l) (k : Nat) : Small (l.take k) := fun d hd => h d (List.mem_of_mem_take hd)
theorem Small.drop {l : List Nat} (h : Small l) (k : Nat) : Small (l.drop k) := fun d hd => h d (List.mem_of_mem_drop hd)
theorem Small.append {l r : List Nat} (h : Small l) (k : Small r) : Small (l ++ r) := by
  intro d hd
  rcases List.mem_append.1 hd with hd | hd
  · exact h d hd
  · exact k d hd
theorem Small.set {l : List Nat} (h : Small l) {v : Nat} (hv : v < B) (k : Nat) : Small (l.set k v) := by
  intro d hd
  rcases List.mem_or_eq_of_mem_set hd with hd | rfl
  · exact h d hd
  · exact hv
theorem Small.replicate (n : Nat) : Small (List.replicate n 0) := by
  intro d hd
  rw [(List.mem_replicate.1 hd).2]
  exact B_pos
theorem Small.get {l : List Nat} (h : Small l) {i d : Nat} (hi : l[i]? = some d) : d < B := h d (List.mem_of_getElem? hi)
theorem val_append (l r : List Nat) : val (l ++ r) = val l + B ^ l.length * val r := by
  induction l with
  | nil => simp [val]
  | cons d l ih =>
    simp only [List.cons_append, val_cons, ih, List.length_cons, Nat.pow_succ]
    grind
theorem val_lt {l : List Nat} (h : Small l) : val l < B ^ l.length := by
  induction l with
  | nil => simp [val]
  | cons d l ih =>
    have h1 := h.tail
    have h2 := ih h1.2
    simp only [val_cons, List.length_cons, Nat.pow_succ]
    have h3 : B * (val l + 1) ≤ B * B ^ l.length := Nat.mul_le_mul_left _ h2
    have h4 := h1.1
    rw [Nat.mul_add] at h3
    rw [Nat.mul_comm (B ^ l.length)]
    omega
theorem val_replicate (n : Nat) : val (List.replicate n 0) = 0 := by
  induction n with
  | zero => rfl
  | succ n ih => simp [List.replicate_succ, val_cons, ih]
theorem val_set {l : List Nat} {k d : Nat} (h : l[k]? = some d) (v : Nat) : val (l.set k v) + d * B ^ k = val l + v * B ^ k := by
  induction l generalizing k with
  | nil => simp at h
  | cons x l ih =>
    cases k with
    | zero =>
      simp at h
      subst h
      simp [val_cons]
      omega
    | succ k =>
      simp at h
      have := ih h
      simp only [List.set_cons_succ, val_cons, Nat.pow_succ]
      grind
theorem val_take_succ {l : List Nat} {k d : Nat} (h : l[k]? = some d) : val (l.take (k + 1)) = val (l.take k) + d * B ^ k := by
  rw [List.take_add_one, h]
  have hk := (List.getElem?_eq_some_iff.1 h).1
  rw [val_append]
  simp [val_cons, val_nil, Nat.min_eq_left (Nat.le_of_lt hk)]
  rw [Nat.mul_comm]
theorem val_split (l : List Nat) (k : Nat) (h : k ≤ l.length) : val l = val (l.take k) + B ^ k * val (l.drop k) := by
  have := val_append (l.take k) (l.drop k)
  rw [List.take_append_drop] at this
  rw [this]
  simp [Nat.min_eq_left h]
def dig (m : Nat) : List Nat := if h : m = 0 then [] else m % B :: dig (m / B)
termination_by m
decreasing_by exact Nat.div_lt_self (by omega) (by decide)
theorem dig_zero : dig 0 = [] := by rw [dig]; simp
theorem dig_pos {m : Nat} (h : m ≠ 0) : dig m = m % B :: dig (m / B) := by
  rw [dig]
  simp [h]
theorem val_dig (m : Nat) : val (dig m) = m := by
  induction m using Nat.strongRecOn with
  | ind m ih =>
    by_cases h : m = 0
    · subst h; rw [dig_zero]; rfl
    · rw [dig_pos h, val_cons, ih (m / B) (Nat.div_lt_self (by omega) (by decide))]
      exact Nat.mod_add_div m B
theorem dig_small (m : Nat) : Small (dig m) := by
  induction m using Nat.strongRecOn with
  | ind m ih =>
    by_cases h : m = 0
    · subst h; rw [dig_zero]; exact Small.nil
    · rw [dig_pos h]
      exact Small.cons (Nat.mod_lt _ B_pos) (ih (m / B) (Nat.div_lt_self (by omega) (by decide)))
/-- The greatest limb is not 0. -/
def Top (l : List Nat) : Prop := l.getLast? ≠ some 0
theorem Top.nil : Top [] := by simp [Top]
theorem Top.tail {d e : Nat} {l : List Nat} (h : Top (d :: e :: l)) : Top (e :: l) := by simpa [Top] using h
theorem val_pos {l : List Nat} (h : Top l) (h0 : l ≠ []) : 0 < val l := by
  induction l with
  | nil => exact absurd rfl h0
  | cons d l ih =>
    cases l with
    | nil =>
      simp [Top] at h
      simp [val_cons, val_nil]
      omega
    | cons e l =>
      have := ih h.tail (by simp)
      rw [val_cons]
      have : 0 < B * val (e :: l) := Nat.mul_pos B_pos this
      omega
theorem dig_val {l : List Nat} (h : Small l) (ht : Top l) : dig (val l) = l := by
  induction l with
  | nil => rw [val_nil, dig_zero]
  | cons d l ih =>
    have h1 := h.tail
    have hp := val_pos ht (by simp)
    have htl : Top l := by
      cases l with
      | nil => exact Top.nil
      | cons e l => exact ht.tail
    rw [dig_pos (by omega), val_cons]
    have e1 : (d + B * val l) % B = d := by
      rw [Nat.add_mul_mod_self_left, Nat.mod_eq_of_lt h1.1]
    have e2 : (d + B * val l) / B = val l := by
      rw [Nat.add_mul_div_left _ _ B_pos, Nat.div_eq_of_lt h1.1, Nat.zero_add]
    rw [e1, e2, ih h1.2 htl]
theorem dig_top (m : Nat) : Top (dig m) := by
  induction m using Nat.strongRecOn with
  | ind m ih =>
    by_cases h : m = 0
    · subst h; rw [dig_zero]; exact Top.nil
    · rw [dig_pos h]
      by_cases h2 : m / B = 0
      · rw [h2, dig_zero]
        have := Nat.mod_add_div m B
        rw [h2] at this
        simp [Top]
        omega
      · have := ih (m / B) (Nat.div_lt_self (by omega) (by decide))
        rw [dig_pos h2] at this ⊢
        simpa [Top] using this
theorem dig_length {m k : Nat} : (dig m).length ≤ k ↔ m < B ^ k := by
  constructor
  · intro h
    have h1 := val_lt (dig_small m)
    rw [val_dig] at h1
    exact Nat.lt_of_lt_of_le h1 (Nat.pow_le_pow_right B_pos h)
  · intro h
    induction k generalizing m with
    | zero =>
      have : m = 0 := by simpa using h
      subst this
      rw [dig_zero]
      exact Nat.le_refl _
    | succ k ih =>
      by_cases h0 : m = 0
      · subst h0; rw [dig_zero]; exact Nat.zero_le _
      · rw [dig_pos h0, List.length_cons]
        have : m / B < B ^ k := by
          rw [Nat.div_lt_iff_lt_mul B_pos]
          rwa [Nat.pow_succ] at h
        have := ih this
        omega
theorem dig_nil {m : Nat} : dig m = [] ↔ m = 0 := by
  constructor
  · intro h
    have := val_dig m
    rw [h] at this
    exact this.symm
  · rintro rfl
    exact dig_zero
theorem dig_ge {m : Nat} (h : m ≠ 0) : B ^ ((dig m).length - 1) ≤ m := by
  have h1 : ¬ (dig m).length ≤ (dig m).length - 1 := by
    have : 0 < (dig m).length := List.length_pos_iff.2 (fun e => h (dig_nil.1 e))
    omega
  rw [dig_length] at h1
  omega
theorem dig_lt (m : Nat) : m < B ^ (dig m).length := dig_length.1 (Nat.le_refl _)
/-- Without noughts at the end. -/
theorem trim_step {l : List Nat} {k : Nat} (hk : k < l.length) (h : l[k]? = some 0) : val (l.take (k + 1)) = val (l.take k) := by
  rw [val_take_succ h]
  omega
theorem dig_one {m : Nat} (h0 : m ≠ 0) (h : m < B) : dig m = [m] := by
  rw [dig_pos h0, Nat.div_eq_of_lt h, dig_zero, Nat.mod_eq_of_lt h]
theorem dig_inj {m n : Nat} (h : dig m = dig n) : m = n := by rw [← val_dig m, ← val_dig n, h]
theorem val_at {l : List Nat} {i d : Nat} (h : l[i]? = some d) : val l = val (l.take i) + B ^ i * (d + B * val (l.drop (i + 1))) := by
  have hi := (List.getElem?_eq_some_iff.1 h).1
  rw [val_split l i (by omega), List.drop_eq_getElem_cons hi, val_cons]
  have := (List.getElem?_eq_some_iff.1 h).2
  rw [this]
theorem lt_at {l r : List Nat} {i d e : Nat} (hl : Small l) (hi : l[i]? = some d) (hr : r[i]? = some e) (hd : l.drop (i + 1) = r.drop (i + 1)) (hde : d < e) : val l < val r := by
  rw [val_at hi, val_at hr, hd]
  have hlen : i ≤ l.length := by have := (List.getElem?_eq_some_iff.1 hi).1; omega
  have h1 := val_lt (hl.take i)
  rw [List.length_take, Nat.min_eq_left hlen] at h1
  have h2 : B ^ i * (d + 1 + B * val (r.drop (i + 1))) ≤ B ^ i * (e + B * val (r.drop (i + 1))) := Nat.mul_le_mul_left _ (by omega)
  have h3 : B ^ i * (d + 1 + B * val (r.drop (i + 1))) = B ^ i * (d + B * val (r.drop (i + 1))) + B ^ i := by grind
  omega
theorem lt_of_length {m n : Nat} (h : (dig m).length < (dig n).length) : m < n := by
  have h1 := dig_lt m
  have h0 : n ≠ 0 := by
    rintro rfl
    rw [dig_zero] at h
    simp at h
  have h2 := dig_ge h0
  have h3 : B ^ (dig m).length ≤ B ^ ((dig n).length - 1) := Nat.pow_le_pow_right B_pos (by omega)
  omega
end Go.Im.Limbs

set_option linter.unusedSimpArgs false
set_option linter.unusedVariables false
namespace Go.Im
/-- A part of a slice of known elements. -/
def irsl (k : Option Elts) (hp : Heap) (a : Option Addr) (n cap : Nat) (lo hi mx : Option Value) : Option Value := match k with
  | some (.slice size) =>
      if cap < big then match iinds n cap lo hi mx with
        | some (l, h, m) => if cap = 0 then some (.slice a 0 0) else match a with
          | some ⟨b, o, none⟩ => match hp.look b with
            | .cells _ esz => if esz = size then some (.slice (some ⟨b, if m = l then o else o + l * size, none⟩) (h - l) (m - l)) else none
            | _ => none
          | _ => none
        | none => none
      else if cap = big then match a with
        | some ⟨b, o, none⟩ => match hp.look b with
          | .cells cs esz => if esz ≠ size then none else match iinds n ((cs.length - o) / size) lo hi mx with
            | some (l, h, m) => match mx with
              | none => some (.slice (some ⟨b, o + l * size, none⟩) (h - l) big)
              | some _ => if m < big then some (.slice (some ⟨b, if m = l then o else o + l * size, none⟩) (h - l) (m - l)) else none
            | none => none
          | _ => none
        | _ => none
      else none
  | _ => none
@[go_sem] theorem iresl_slice {P : Program} {h : Heap} {t : TypeId} {a : Option Addr} {n c : Nat} {lo hi mx : Option Value} : iresl P h t (.slice a n c) lo hi mx = irsl (elts P t) h a n c lo hi mx := by
  unfold iresl irsl elts
  cases P.underlying t with
  | none => rfl
  | some u =>
    cases u with
    | slice e => cases hs : tsize P e <;> simp only [hs, Option.map_some, Option.map_none] <;> rfl
    | array n e => cases hs : tsize P e <;> simp [hs]
    | _ => rfl
theorem Sl.cut {h w : Heap} (k : Ext h w) {a : Option Addr} {n c size : Nat} {xs : List Value} (hz : 0 < size) (s : Sl h size a n c xs) {lo hi : Option Value} {l u : Nat}
    (hl : boundOf 0 lo = some l) (hu : boundOf n hi = some u) (hlu : l ≤ u) (hun : u ≤ n) :
    ∃ a' c', irsl (some (.slice size)) w a n c lo hi none = some (.slice a' (u - l) c') ∧ Sl h size a' (u - l) c' ((xs.drop (l * size)).take ((u - l) * size)) := by
  rcases s with ⟨rfl, rfl, rfl, rfl⟩ | ⟨b, o, rfl, rfl, rfl, rfl⟩ | ⟨b, o, cs, rfl, h2, h3, h4, h5, rfl, h8⟩
  · have : u = 0 := by omega
    subst this
    have : l = 0 := by omega
    subst this
    refine ⟨none, 0, ?_, by simpa using Sl.nil h size⟩
    have : iinds 0 0 lo hi none = some (0, 0, 0) := iinds_of hl hu (by omega) (by omega)
    simp only [irsl, this]
    simp [big]
  · have : u = 0 := by omega
    subst this
    have : l = 0 := by omega
    subst this
    refine ⟨some ⟨b, o, none⟩, 0, ?_, .inr (.inl ⟨b, o, rfl, rfl, rfl, by simp⟩)⟩
    have : iinds 0 0 lo hi none = some (0, 0, 0) := iinds_of hl hu (by omega) (by omega)
    simp only [irsl, this]
    simp [big]
  · have hxs : (((cs.drop o).take (n * size)).drop (l * size)).take ((u - l) * size) = (cs.drop (o + l * size)).take ((u - l) * size) := by
      have e1 : u * size ≤ n * size := Nat.mul_le_mul_right _ hun
      have e2 : (u - l) * size + l * size = u * size := by rw [← Nat.add_mul]; congr 1; omega
      rw [List.drop_take, List.drop_drop, List.take_take, Nat.min_eq_left (by omega)]
    have e2 : (u - l) * size + l * size = u * size := by rw [← Nat.add_mul]; congr 1; omega
    have e1 : u * size ≤ n * size := Nat.mul_le_mul_right _ hun
    rw [hxs]
    rcases h8 with ⟨h7, h8⟩ | h8
    · have hin : iinds n c lo hi none = some (l, u, c) := iinds_of hl hu hlu (by omega)
      have hc0 : ¬ c = 0 := by omega
      refine ⟨some ⟨b, if c = l then o else o + l * size, none⟩, c - l, ?_, ?_⟩
      · simp only [irsl, hin, if_pos h8, if_neg hc0, Heap.look, k.2 b h3, h4, if_true]
      · by_cases hcl : c = l
        · have : u = l := by omega
          subst this
          rw [if_pos hcl]
          exact .inr (.inl ⟨b, o, rfl, by omega, by omega, by simp⟩)
        · rw [if_neg hcl]
          exact .inr (.inr ⟨b, o + l * size, cs, rfl, by omega, h3, h4, by omega, rfl, .inl ⟨by omega, by omega⟩⟩)
    · have hdiv : n ≤ (cs.length - o) / size := by
        rw [Nat.le_div_iff_mul_le hz]
        omega
      have hin : iinds n ((cs.length - o) / size) lo hi none = some (l, u, (cs.length - o) / size) := iinds_of hl hu hlu (by omega)
      refine ⟨some ⟨b, o + l * size, none⟩, big, ?_, ?_⟩
      · have hnb : ¬ c < big := by omega
        simp only [irsl, if_neg hnb, if_pos h8, Heap.look, k.2 b h3, h4, hin]
        simp
      · exact .inr (.inr ⟨b, o + l * size, cs, rfl, by simp [big], h3, h4, by omega, rfl, .inr rfl⟩)

/-- A copy of elements. -/
def icp (low : Nat) (h : Heap) (k : Option Elts) (b o n : Nat) (x : Value) : Option (Value × Heap) := match k with
  | some (.slice size) => match h.get b with
    | .cells cs esz => match islice h size x with
      | some new => if low ≤ b ∧ esz = size ∧ 0 < size ∧ o + n * size ≤ cs.length then some (.int .i64 ((min (new.length / size) n : Nat) : Int), h.set b (.cells (splice cs o (new.take (min (new.length / size) n * size))) esz)) else none
      | none => none
    | _ => none
  | _ => none
@[go_sem] theorem ibuiltin_copy {P : Program} {low : Nat} {h : Heap} {t1 t2 : TypeId} {b o n c : Nat} {a : Option Addr} {m c' : Nat} : ibuiltin P low h .copy #[t1, t2] [.slice (some ⟨b, o, none⟩) n c, .slice a m c'] = icp low h (elts P t1) b o n (.slice a m c') := by
  have e1 : ((#[t1, t2] : Array TypeId)[0]?).bind P.underlying = P.underlying t1 := rfl
  simp only [ibuiltin, e1, icp, elts]
  cases P.underlying t1 with
  | none => cases h.get b <;> rfl
  | some u =>
    cases u with
    | slice e =>
      cases hs : tsize P e with
      | none => cases hg : h.get b <;> simp [hs]
      | some size =>
        cases hg : h.get b with
        | cells cs esz =>
          simp only [hs, Option.map_some]
          cases islice h size (.slice a m c') <;> rfl
        | _ => simp [hs]
    | array q e => cases hs : tsize P e <;> cases hg : h.get b <;> simp [hs]
    | _ => cases hg : h.get b <;> rfl
theorem icp_ok {low : Nat} {h : Heap} {b n : Nat} {cs new : List Value} {x : Value} (hg : h.get b = .cells cs 1) (hi : islice h 1 x = some new) (hl : low ≤ b) (hn : n = cs.length) (hw : new.length ≤ n) :
    icp low h (some (.slice 1)) b 0 n x = some (.int .i64 (new.length : Nat), h.set b (.cells (new ++ cs.drop new.length) 1)) := by
  simp only [icp, hg, hi]
  rw [if_pos ⟨hl, trivial, by omega, by omega⟩, Nat.div_one, Nat.min_eq_left hw, Nat.mul_one, List.take_of_length_le (Nat.le_refl _)]
  simp [splice]
attribute [go_sem] dyOK pairOK rdsOf wrsOf mdsOf differO Go.Im.differ List.all_cons List.all_nil List.getElem?_toArray List.getElem?_cons_succ List.getElem?_cons_zero Bool.and_true Bool.true_or
/-! ### Words -/
theorem w32 (x : Nat) : IntKind.u32.wrap (x : Int) = ((x % 4294967296 : Nat) : Int) := by
  simp [IntKind.wrap, IntKind.bits, IntKind.signed]
theorem w64 {x : Nat} (h : x < 18446744073709551616) : IntKind.u64.wrap (x : Int) = (x : Int) := wrap_u64 (by omega) (by omega)
theorem w64m (x : Nat) : IntKind.u64.wrap (x : Int) = ((x % 18446744073709551616 : Nat) : Int) := by
  simp [IntKind.wrap, IntKind.bits, IntKind.signed]
theorem wmul {x y : Nat} (h : x * y < 18446744073709551616) : IntKind.u64.wrap ((x : Int) * (y : Int)) = ((x * y : Nat) : Int) := by
  rw [← Int.natCast_mul]
  exact w64 h
theorem wadd {x y : Nat} (h : x + y < 18446744073709551616) : IntKind.u64.wrap ((x : Int) + (y : Int)) = ((x + y : Nat) : Int) := by
  rw [← Int.natCast_add]
  exact w64 h
theorem wsub {x y : Nat} (h : y ≤ x) (hx : x < 18446744073709551616) : IntKind.u64.wrap ((x : Int) - (y : Int)) = ((x - y : Nat) : Int) := by
  rw [← Int.ofNat_sub h]
  exact w64 (by omega)
theorem iadd {x y : Nat} (h : x + y < 9223372036854775808) : IntKind.i64.wrap ((x : Int) + (y : Int)) = ((x + y : Nat) : Int) := by
  rw [← Int.natCast_add]
  exact wrap_i64 (by omega) (by omega)
theorem ishr {P : Program} {t : TypeId} {k : IntKind} {n s : Nat} (hs : s ≤ 64) : ibinop P .shr t (.int .u64 (n : Int)) (.int k (s : Int)) = some (.int .u64 ((n / 2 ^ s : Nat) : Int)) := by
  have h0 : ¬ ((s : Int) < 0) := by omega
  simp only [ibinop, ibin, h0, if_false, Int.toNat_natCast, IntKind.bits]
  rw [Nat.min_eq_left hs]
  congr 2
  rw [Int.fdiv_eq_ediv_of_nonneg _ (by exact Int.pow_nonneg (by omega))]
  rw [Int.natCast_ediv, Int.natCast_pow]
  rfl
theorem ishr32 {P : Program} {t : TypeId} {k : IntKind} {n : Nat} : ibinop P .shr t (.int .u64 (n : Int)) (.int k 32) = some (.int .u64 ((n / 4294967296 : Nat) : Int)) := by
  have := ishr (P := P) (t := t) (k := k) (n := n) (s := 32) (by omega)
  exact this
theorem ishl {P : Program} {t : TypeId} {k : IntKind} {n s : Nat} (hs : s ≤ 64) : ibinop P .shl t (.int .u64 (n : Int)) (.int k (s : Int)) = some (.int .u64 ((n * 2 ^ s % 18446744073709551616 : Nat) : Int)) := by
  have h0 : ¬ ((s : Int) < 0) := by omega
  simp only [ibinop, ibin, h0, if_false, Int.toNat_natCast, IntKind.bits]
  rw [Nat.min_eq_left hs, ← w64m]
  congr 2
theorem ishl32 {P : Program} {t : TypeId} {k : IntKind} {n : Nat} : ibinop P .shl t (.int .u64 (n : Int)) (.int k 32) = some (.int .u64 ((n * 4294967296 % 18446744073709551616 : Nat) : Int)) := by
  have := ishl (P := P) (t := t) (k := k) (n := n) (s := 32) (by omega)
  exact this
theorem ior64 {P : Program} {t : TypeId} {x y : Nat} (hx : x < 18446744073709551616) (hy : y < 18446744073709551616) : ibinop P .or t (.int .u64 (x : Int)) (.int .u64 (y : Int)) = some (.int .u64 ((x ||| y : Nat) : Int)) := by
  have e : (BitVec.ofInt 64 (x : Int) ||| BitVec.ofInt 64 (y : Int)).toNat = x ||| y := by
    rw [BitVec.toNat_or, BitVec.ofInt_natCast, BitVec.ofInt_natCast, BitVec.toNat_ofNat, BitVec.toNat_ofNat, Nat.mod_eq_of_lt hx, Nat.mod_eq_of_lt hy]
  have l : x ||| y < 2 ^ 64 := Nat.or_lt_two_pow hx hy
  have h : Op.intBits .or .u64 (x : Int) (y : Int) = .pure (.int .u64 (IntKind.u64.wrap (((BitVec.ofInt 64 (x : Int) ||| BitVec.ofInt 64 (y : Int)).toNat : Nat) : Int))) := rfl
  simp only [ibinop, ibin, if_true, h]
  rw [e, w64 l]
theorem ior32 {P : Program} {t : TypeId} {x y : Nat} (hx : x < 4294967296) (hy : y < 4294967296) : ibinop P .or t (.int .u32 (x : Int)) (.int .u32 (y : Int)) = some (.int .u32 ((x ||| y : Nat) : Int)) := by
  have e : (BitVec.ofInt 32 (x : Int) ||| BitVec.ofInt 32 (y : Int)).toNat = x ||| y := by
    rw [BitVec.toNat_or, BitVec.ofInt_natCast, BitVec.ofInt_natCast, BitVec.toNat_ofNat, BitVec.toNat_ofNat, Nat.mod_eq_of_lt hx, Nat.mod_eq_of_lt hy]
  have l : x ||| y < 2 ^ 32 := Nat.or_lt_two_pow hx hy
  have h : Op.intBits .or .u32 (x : Int) (y : Int) = .pure (.int .u32 (IntKind.u32.wrap (((BitVec.ofInt 32 (x : Int) ||| BitVec.ofInt 32 (y : Int)).toNat : Nat) : Int))) := rfl
  simp only [ibinop, ibin, if_true, h]
  rw [e, w32, Nat.mod_eq_of_lt l]
theorem or_add {x y : Nat} (h : y < 4294967296) : (x * 4294967296) ||| y = x * 4294967296 + y := by
  have := Nat.two_pow_add_eq_or_of_lt (i := 32) (b := y) h x
  rw [Nat.mul_comm x]
  exact this.symm

theorem wsub32 {x y : Nat} (h : y ≤ 4294967296) : IntKind.u32.wrap ((x : Int) - (y : Int)) = (((x + 4294967296 - y) % 4294967296 : Nat) : Int) := by
  have : ((x : Int) - (y : Int)) % 4294967296 = ((x + 4294967296 - y : Nat) : Int) % 4294967296 := by omega
  simp only [IntKind.wrap, IntKind.bits, IntKind.signed, Bool.false_and, Bool.false_eq_true, if_false]
  show ((x : Int) - (y : Int)) % 4294967296 = _
  rw [this]
  omega
theorem ixor1 {P : Program} {x : Nat} (hx : x < 4294967296) : iunop .xor P (.int .u32 (x : Int)) = some (.int .u32 ((4294967295 ^^^ x : Nat) : Int)) := by
  have e : (BitVec.ofInt 32 ((4294967295 : Nat) : Int) ^^^ BitVec.ofInt 32 (x : Int)).toNat = 4294967295 ^^^ x := by
    rw [BitVec.toNat_xor, BitVec.ofInt_natCast, BitVec.ofInt_natCast, BitVec.toNat_ofNat, BitVec.toNat_ofNat, Nat.mod_eq_of_lt hx]
  have l : 4294967295 ^^^ x < 2 ^ 32 := Nat.xor_lt_two_pow (by omega) hx
  have h : iunop .xor P (.int .u32 (x : Int)) = some (.int .u32 (IntKind.u32.wrap (((BitVec.ofInt 32 ((4294967295 : Nat) : Int) ^^^ BitVec.ofInt 32 (x : Int)).toNat : Nat) : Int))) := rfl
  rw [h, e, w32, Nat.mod_eq_of_lt l]
theorem ixor32 {P : Program} {t : TypeId} {x y : Nat} (hx : x < 4294967296) (hy : y < 4294967296) : ibinop P .xor t (.int .u32 (x : Int)) (.int .u32 (y : Int)) = some (.int .u32 ((x ^^^ y : Nat) : Int)) := by
  have e : (BitVec.ofInt 32 (x : Int) ^^^ BitVec.ofInt 32 (y : Int)).toNat = x ^^^ y := by
    rw [BitVec.toNat_xor, BitVec.ofInt_natCast, BitVec.ofInt_natCast, BitVec.toNat_ofNat, BitVec.toNat_ofNat, Nat.mod_eq_of_lt hx, Nat.mod_eq_of_lt hy]
  have l : x ^^^ y < 2 ^ 32 := Nat.xor_lt_two_pow hx hy
  have h : Op.intBits .xor .u32 (x : Int) (y : Int) = .pure (.int .u32 (IntKind.u32.wrap (((BitVec.ofInt 32 (x : Int) ^^^ BitVec.ofInt 32 (y : Int)).toNat : Nat) : Int))) := rfl
  simp only [ibinop, ibin, if_true, h]
  rw [e, w32, Nat.mod_eq_of_lt l]
theorem iand32 {P : Program} {t : TypeId} {x y : Nat} (hx : x < 4294967296) (hy : y < 4294967296) : ibinop P .and t (.int .u32 (x : Int)) (.int .u32 (y : Int)) = some (.int .u32 ((x &&& y : Nat) : Int)) := by
  have e : (BitVec.ofInt 32 (x : Int) &&& BitVec.ofInt 32 (y : Int)).toNat = x &&& y := by
    rw [BitVec.toNat_and, BitVec.ofInt_natCast, BitVec.ofInt_natCast, BitVec.toNat_ofNat, BitVec.toNat_ofNat, Nat.mod_eq_of_lt hx, Nat.mod_eq_of_lt hy]
  have l : x &&& y < 2 ^ 32 := Nat.lt_of_le_of_lt Nat.and_le_left hx
  have h : Op.intBits .and .u32 (x : Int) (y : Int) = .pure (.int .u32 (IntKind.u32.wrap (((BitVec.ofInt 32 (x : Int) &&& BitVec.ofInt 32 (y : Int)).toNat : Nat) : Int))) := rfl
  simp only [ibinop, ibin, if_true, h]
  rw [e, w32, Nat.mod_eq_of_lt l]
theorem ishr31 {P : Program} {t : TypeId} {k : IntKind} {n : Nat} : ibinop P .shr t (.int .u32 (n : Int)) (.int k 31) = some (.int .u32 ((n / 2147483648 : Nat) : Int)) := by
  have h0 : ¬ ((31 : Int) < 0) := by omega
  simp only [ibinop, ibin, h0, if_false, IntKind.bits]
  congr 2
  show ((n : Int)).fdiv 2147483648 = _
  rw [Int.fdiv_eq_ediv_of_nonneg _ (by omega)]
  omega
theorem ishru16 {P : Program} {t : TypeId} {k : IntKind} {n : Nat} : ibinop P .shr t (.int .u32 (n : Int)) (.int k 16) = some (.int .u32 ((n / 65536 : Nat) : Int)) := by
  have h0 : ¬ ((16 : Int) < 0) := by omega
  simp only [ibinop, ibin, h0, if_false, IntKind.bits]
  congr 2
  show ((n : Int)).fdiv 65536 = _
  rw [Int.fdiv_eq_ediv_of_nonneg _ (by omega)]
  omega
theorem ishru8 {P : Program} {t : TypeId} {k : IntKind} {n : Nat} : ibinop P .shr t (.int .u32 (n : Int)) (.int k 8) = some (.int .u32 ((n / 256 : Nat) : Int)) := by
  have h0 : ¬ ((8 : Int) < 0) := by omega
  simp only [ibinop, ibin, h0, if_false, IntKind.bits]
  congr 2
  show ((n : Int)).fdiv 256 = _
  rw [Int.fdiv_eq_ediv_of_nonneg _ (by omega)]
  omega
/-- The borrow of a difference of words. -/
theorem borrow32 {x y b : Nat} (hx : x < 4294967296) (hy : y < 4294967296) (hb : b ≤ 1) :
    (((4294967295 ^^^ x) &&& y) ||| ((4294967295 ^^^ (x ^^^ y)) &&& ((x + 8589934592 - y - b) % 4294967296))) / 2147483648 = if x < y + b then 1 else 0 := by
  have top : ∀ n, n < 4294967296 → n / 2147483648 = if n.testBit 31 then 1 else 0 := by
    intro n hn
    rw [Nat.testBit_eq_decide_div_mod_eq]
    have : (2 : Nat) ^ 31 = 2147483648 := rfl
    rw [this]
    by_cases h : n / 2147483648 % 2 = 1
    · simp [h]; omega
    · simp [h]; omega
  have bit : ∀ n, n < 4294967296 → (n.testBit 31 = true ↔ 2147483648 ≤ n) := by
    intro n hn
    rw [Nat.testBit_eq_decide_div_mod_eq]
    have : (2 : Nat) ^ 31 = 2147483648 := rfl
    rw [this, decide_eq_true_eq]
    omega
  have hd : (x + 8589934592 - y - b) % 4294967296 < 4294967296 := Nat.mod_lt _ (by omega)
  have hall : (((4294967295 ^^^ x) &&& y) ||| ((4294967295 ^^^ (x ^^^ y)) &&& ((x + 8589934592 - y - b) % 4294967296))) < 4294967296 := by
    have h1 : ((4294967295 ^^^ x) &&& y) < 2 ^ 32 := Nat.lt_of_le_of_lt Nat.and_le_right hy
    have h2 : ((4294967295 ^^^ (x ^^^ y)) &&& ((x + 8589934592 - y - b) % 4294967296)) < 2 ^ 32 := Nat.lt_of_le_of_lt Nat.and_le_right hd
    exact Nat.or_lt_two_pow h1 h2
  rw [top _ hall, Nat.testBit_or, Nat.testBit_and, Nat.testBit_and, Nat.testBit_xor, Nat.testBit_xor, Nat.testBit_xor]
  have hm : Nat.testBit 4294967295 31 = true := by decide
  rw [hm]
  have bx := bit x hx
  have by' := bit y hy
  have bd := bit _ hd
  cases h1 : x.testBit 31 <;> cases h2 : y.testBit 31 <;> cases h3 : ((x + 8589934592 - y - b) % 4294967296).testBit 31 <;> simp only [h1, h2, h3, Bool.false_eq_true, false_iff, true_iff] at bx by' bd <;> simp <;> omega

/-- A text as bytes, or as characters. -/
def icvt (k : Option IntKind) (s : List UInt8) (h : Heap) : Option (Value × Heap) := match k with
  | some .u8 => some (.slice (some ⟨h.size, 0, none⟩) s.length big, h.push (.cells (byteCells s) 1))
  | some .i32 => some (.slice (some ⟨h.size, 0, none⟩) (Conv.runesFrom (text s) (text s).size 0 #[]).toList.length big, h.push (.cells (Conv.runesFrom (text s) (text s).size 0 #[]).toList 1))
  | _ => none
@[go_sem] theorem icvt_u8 {s : List UInt8} {h : Heap} : icvt (some .u8) s h = some (.slice (some ⟨h.size, 0, none⟩) s.length big, h.push (.cells (byteCells s) 1)) := rfl
theorem iconvert_text {P : Program} {h : Heap} {t d : TypeId} {k : IntKind} {s : List UInt8} (ht : P.underlying t = some .string) (hd : sk P d = some k) : iconvert P h t d (.string (text s)) = icvt (some k) s h := by
  unfold sk at hd
  split at hd
  · rename_i e he
    split at hd
    · rename_i h1 h2
      cases hd
      simp only [iconvert, ht, he, h1, h2, icvt, text_size]
      rfl
    · rename_i h1 h2
      cases hd
      simp only [iconvert, ht, he, h1, h2, icvt]
    · cases hd
  · cases hd

/-! ### Numbers of limbs -/
open Limbs
def lv (l : List Nat) : List Value := l.map fun (d : Nat) => .int .u32 (d : Int)
theorem lv_length (l : List Nat) : (lv l).length = l.length := by simp [lv]
theorem lv_get {l : List Nat} {i d : Nat} (h : l[i]? = some d) : (lv l)[i]? = some (.int .u32 d) := by simp [lv, h]
theorem lv_take (l : List Nat) (k : Nat) : (lv l).take k = lv (l.take k) := by simp [lv, List.map_take]
theorem lv_drop (l : List Nat) (k : Nat) : (lv l).drop k = lv (l.drop k) := by simp [lv, List.map_drop]
theorem lv_append (l r : List Nat) : lv (l ++ r) = lv l ++ lv r := by simp [lv]
theorem lv_set (l : List Nat) (k d : Nat) : (lv l).set k (.int .u32 d) = lv (l.set k d) := by simp [lv, List.map_set]
theorem put_one {l : List Value} {k : Nat} (h : k < l.length) (x : Value) : l.take k ++ [x] ++ l.drop (k + 1) = l.set k x := by
  rw [List.set_eq_take_append_cons_drop, if_pos h]
  simp
theorem lv_put {l : List Nat} {k : Nat} (h : k < l.length) (d : Nat) : (lv l).take k ++ [.int .u32 (d : Int)] ++ (lv l).drop (k + 1) = lv (l.set k d) := by
  rw [put_one (by rw [lv_length]; exact h), lv_set]
theorem lv_atomic (l : List Nat) : (lv l).all Im.atomic = true := by simp [lv, Im.atomic]

/-- A natural number of the program's. -/
def NatV (h : Heap) (v : Value) (m : Nat) : Prop := ∃ a n c, v = .agg #[.slice a n c] ∧ Sl h 1 a n c (lv (dig m))
theorem NatV.ext {h h' : Heap} (k : Ext h h') {v : Value} {m : Nat} (H : NatV h v m) : NatV h' v m := by
  obtain ⟨a, n, c, h1, h2⟩ := H
  exact ⟨a, n, c, h1, h2.ext k⟩
/-- The limbs. -/
theorem NatV.open {h : Heap} {v : Value} {m : Nat} (H : NatV h v m) : ∃ a c, v = .agg #[.slice a (dig m).length c] ∧ Sl h 1 a (dig m).length c (lv (dig m)) := by
  obtain ⟨a, n, c, h1, h2⟩ := H
  have : n = (dig m).length := by have := h2.length; rw [lv_length] at this; omega
  subst this
  exact ⟨a, c, h1, h2⟩
theorem NatV.mk {h : Heap} {a : Option Addr} {n c : Nat} {l : List Nat} (s : Sl h 1 a n c (lv l)) (hl : Small l) (ht : Top l) : NatV h (.agg #[.slice a n c]) (val l) := ⟨a, n, c, rfl, by rw [dig_val hl ht]; exact s⟩
/-! ### Blocks that a call begins with -/
theorem push_lt {h : Heap} {b : Nat} (hb : b < h.size) (x : Blk) : (h.push x).get b = h.get b := by rw [Heap.get_push, if_neg (by omega)]
theorem push_self (h : Heap) (x : Blk) : (h.push x).get h.size = x := by rw [Heap.get_push, if_pos rfl]
theorem lay1 (h : Heap) (x : Blk) : ∃ w, h.push x = w ∧ Ext h w ∧ w.size = h.size + 1 ∧ w.get h.size = x := ⟨_, rfl, (Ext.refl h).push _, rfl, push_self _ _⟩
theorem lay2 (h : Heap) (x y : Blk) : ∃ w, (h.push x).push y = w ∧ Ext h w ∧ w.size = h.size + 2 ∧ w.get h.size = x ∧ w.get (h.size + 1) = y := by
  obtain ⟨w, e, k, hs, g⟩ := lay1 h x
  subst e
  exact ⟨_, rfl, k.push _, by simp, by rw [push_lt (by omega)]; exact g, push_self _ _⟩
theorem lay3 (h : Heap) (x y z : Blk) : ∃ w, ((h.push x).push y).push z = w ∧ Ext h w ∧ w.size = h.size + 3 ∧ w.get h.size = x ∧ w.get (h.size + 1) = y ∧ w.get (h.size + 2) = z := by
  obtain ⟨w, e, k, hs, g1, g2⟩ := lay2 h x y
  subst e
  exact ⟨_, rfl, k.push _, by simp, by rw [push_lt (by omega)]; exact g1, by rw [push_lt (by omega)]; exact g2, push_self _ _⟩
theorem lay4 (h : Heap) (x y z u : Blk) : ∃ w, (((h.push x).push y).push z).push u = w ∧ Ext h w ∧ w.size = h.size + 4 ∧ w.get h.size = x ∧ w.get (h.size + 1) = y ∧ w.get (h.size + 2) = z ∧ w.get (h.size + 3) = u := by
  obtain ⟨w, e, k, hs, g1, g2, g3⟩ := lay3 h x y z
  subst e
  exact ⟨_, rfl, k.push _, by simp, by rw [push_lt (by omega)]; exact g1, by rw [push_lt (by omega)]; exact g2, by rw [push_lt (by omega)]; exact g3, push_self _ _⟩
/-- A write to a block of one's own. -/
theorem put1 {h w : Heap} (k : Ext h w) {b : Nat} (hb : h.size ≤ b) (x : Blk) : ∃ w', w.set b x = w' ∧ Ext h w' ∧ w'.size = w.size ∧ w'.get b = x ∧ ∀ c, c ≠ b → w'.get c = w.get c :=
  ⟨_, rfl, k.set hb x, rfl, by rw [Heap.get_set, if_pos rfl], fun c hc => by rw [Heap.get_set, if_neg hc]⟩
def isInt : Value → Bool
  | .int _ _ => true
  | _ => false
/-- A slice of numbers doesn't lie where something else lies. -/
theorem Sl.over {w w2 : Heap} {q : Nat} {old new : List Value} {esz : Nat} {a : Option Addr} {n c : Nat} {l : List Nat} (s : Sl w 1 a n c (lv l)) (hq : w.get q = .cells old esz) (ho : old.all (fun x => !isInt x) = true)
    (hn : new.length = old.length) (hs : w2.size = w.size) (hz : w2.get q = .cells new esz) (hk : ∀ b, b ≠ q → w2.get b = w.get b) : Sl w2 1 a n c (lv l) := by
  rcases s with s | s | ⟨b, o, cs, s1, s2, s3, s4, s5, s6, s7⟩
  · exact .inl s
  · exact .inr (.inl s)
  · by_cases hb : b = q
    · subst hb
      rw [hq] at s4
      simp only [Blk.read, Blk.cells.injEq] at s4
      obtain ⟨rfl, rfl⟩ := s4
      have h0 : n = 0 := by
        cases l with
        | nil =>
          have := congrArg List.length s6
          simp [lv] at this
          omega
        | cons d l =>
          exfalso
          have h1 : (lv (d :: l))[0]? = some (.int .u32 (d : Int)) := rfl
          rw [s6] at h1
          have h2 := List.mem_of_mem_drop (List.mem_of_mem_take (List.mem_of_getElem? h1))
          have := List.all_eq_true.1 ho _ h2
          simp [isInt] at this
      subst h0
      refine .inr (.inr ⟨b, o, new, s1, s2, by omega, by rw [hz]; rfl, by omega, ?_, s7⟩)
      rw [s6]
      simp
    · exact .inr (.inr ⟨b, o, cs, s1, s2, by omega, by rw [hk b hb]; exact s4, s5, s6, s7⟩)
theorem NatV.over {w w2 : Heap} {q : Nat} {old new : List Value} {esz : Nat} {v : Value} {m : Nat} (H : NatV w v m) (hq : w.get q = .cells old esz) (ho : old.all (fun x => !isInt x) = true)
    (hn : new.length = old.length) (hs : w2.size = w.size) (hz : w2.get q = .cells new esz) (hk : ∀ b, b ≠ q → w2.get b = w.get b) : NatV w2 v m := by
  obtain ⟨a, n, c, h1, h2⟩ := H
  exact ⟨a, n, c, h1, h2.over hq ho hn hs hz hk⟩
theorem Sl.made {h : Heap} {b N size : Nat} {xs : List Value} (hb : b < h.size) (hg : h.get b = .cells xs size) (hl : xs.length = N * size) (hN : N < big) : Sl h size (some ⟨b, 0, none⟩) N N xs := by
  by_cases h0 : N = 0
  · subst h0
    exact .inr (.inl ⟨b, 0, rfl, rfl, rfl, List.eq_nil_of_length_eq_zero (by omega)⟩)
  · exact .inr (.inr ⟨b, 0, xs, rfl, by omega, hb, by rw [hg]; rfl, by omega, by rw [List.drop_zero, List.take_of_length_le (by omega)], .inl ⟨Nat.le_refl _, hN⟩⟩)
theorem mk_zero {sz N : Nat} (h : N ≤ 1099511627776) : imk sz 1 4 [.int .u32 0] (N : Int) (N : Int) = some (.slice (some ⟨sz, 0, none⟩) N N, some (.cells (lv (List.replicate N 0)) 1)) := by
  rw [imk_ok (by omega) (by omega) (by omega) (by omega)]
  simp [lv, List.flatten_replicate_singleton]
theorem irsl_own {w : Heap} {b N l u : Nat} {cs : List Value} (hg : w.get b = .cells cs 1) (hlu : l ≤ u) (hu : u ≤ N) (hl : l < N) (hN : N < big) :
    irsl (some (.slice 1)) w (some ⟨b, 0, none⟩) N N (some (.int .i64 (l : Int))) (some (.int .i64 (u : Int))) none = some (.slice (some ⟨b, l, none⟩) (u - l) (N - l)) := by
  have h1 : boundOf 0 (some (.int .i64 (l : Int))) = some l := by simp [boundOf]
  have h2 : boundOf N (some (.int .i64 (u : Int))) = some u := by simp [boundOf]
  have hin := iinds_of (n := N) (cap := N) h1 h2 hlu hu
  have hN0 : ¬ N = 0 := by omega
  have hNl : ¬ N = l := by omega
  simp only [irsl, if_pos hN, hin, if_neg hN0, Heap.look, hg, Blk.read, if_true, if_neg hNl, Nat.zero_add, Nat.mul_one]
end Go.Im

set_option linter.unusedSimpArgs false
set_option linter.unusedVariables false
namespace Go.Im

/-! ### A text that is ranged over -/
def inxt (low : Nat) (h : Heap) (r : Nat) (k : Blk) : Option (Out × Heap) := match k with
  | .siter s pos => if low ≤ r then
      if pos < s.size then some (.val (.tuple #[.bool true, .int .i64 pos, .int .i32 (Utf8.decode s pos).1]), h.set r (.siter s (pos + (Utf8.decode s pos).2)))
      else some (.val (.tuple #[.bool false]), h) else none
  | _ => none
def inxp (low : Nat) (h : Heap) (v : Value) : Option (Out × Heap) := match v with
  | .pointer (some ⟨r, 0, none⟩) => inxt low h r (h.get r)
  | _ => none
section
variable {P : Program} {low : Nat} {ρ : Operand → Value} {h : Heap} {d : Option Tmp} {t : TypeId} {s : String} {a : Array Edge} {g : Option (Nat × Bool)}
@[go_sem] theorem iop_next {x : Operand} : iop P low ⟨d, .next x true, t, s, a, g⟩ ρ h = inxp low h (ρ x) := rfl
@[go_sem] theorem inxp_at {r : Nat} : inxp low h (.pointer (some ⟨r, 0, none⟩)) = inxt low h r (h.get r) := rfl
theorem inxt_more {r pos : Nat} {s : ByteArray} (hl : low ≤ r) (hp : pos < s.size) : inxt low h r (.siter s pos) = some (.val (.tuple #[.bool true, .int .i64 pos, .int .i32 (Utf8.decode s pos).1]), h.set r (.siter s (pos + (Utf8.decode s pos).2))) := by
  simp only [inxt, if_pos hl, if_pos hp]
theorem inxt_end {r pos : Nat} {s : ByteArray} (hl : low ≤ r) (hp : s.size ≤ pos) : inxt low h r (.siter s pos) = some (.val (.tuple #[.bool false]), h) := by
  simp only [inxt, if_pos hl, if_neg (Nat.not_lt.2 hp)]
def irg (sz : Nat) (u : Option TypeDesc) (x : Value) : Option (Value × Option Blk) := match u, x with
  | some .string, .string s => some (.pointer (some ⟨sz, 0, none⟩), some (.siter s 0))
  | _, _ => none
@[go_sem] theorem iop0_range {sz : Nat} {t1 : TypeId} {x : Operand} : iop0 P sz (.range t1 x) ρ = irg sz (P.underlying t1) (ρ x) := rfl
@[go_sem] theorem irg_text {sz : Nat} {s : ByteArray} : irg sz (some .string) (.string s) = some (.pointer (some ⟨sz, 0, none⟩), some (.siter s 0)) := rfl
end
/-- The characters of a text, from a place on. -/
def decB (s : ByteArray) : Nat → List Int → Bool
  | pos, [] => decide (s.size ≤ pos)
  | pos, c :: l => decide (pos < s.size) && decide (((Utf8.decode s pos).1 : Int) = c) && decB s (pos + (Utf8.decode s pos).2) l

/-! ### A part of a stack by itself -/
section
variable {K : Cfg} {low : Nat} {f : FuncId} {fs : List Fr}
theorem W_ops_iff {p : Pu} {l : List Oper} {alls : Array Oper} {e : Env} {h : Heap} {Q : Env → Heap → Prop} : W K low f (.ops p alls l :: fs) e h Q ↔ W K low f [.ops p alls l] e h (fun e h => W K low f fs e h Q) := by
  induction l generalizing e h with
  | nil => rw [W_noops, W_noops, W_nil]
  | cons o l ih =>
    rw [W_op, W_op]
    unfold Wo
    split
    · exact ih
    · split
      · exact ih
      · exact ih
      · exact ⟨fun H => H.mono fun v h' hh => ih.1 hh, fun H => H.mono fun v h' hh => ih.2 hh⟩
      · exact Iff.rfl
    · exact Iff.rfl
/-- Code that leaves by its end alone. -/
def straight (K : Cfg) (f : FuncId) : Code → Bool
  | .region id _ _ => (K.dy f id).isEmpty
  | .seq a b => straight K f a && straight K f b
  | .cond _ a b => straight K f a && straight K f b
  | .skip => true
  | _ => false
theorem W_straight : ∀ {c : Code} {fs : List Fr} {e : Env} {h : Heap} {Q : Env → Heap → Prop}, straight K f c = true → (W K low f (.code c :: fs) e h Q ↔ W K low f [.code c] e h (fun e h => W K low f fs e h Q))
  | .region id ops d, fs, e, h, Q, hs => by
    simp only [straight, List.isEmpty_iff] at hs
    rw [W_region, W_region, hs, chks_nil, chks_nil]
    exact W_ops_iff
  | .seq a b, fs, e, h, Q, hs => by
    simp only [straight, Bool.and_eq_true] at hs
    rw [W_seq, W_seq, W_straight hs.1, W_straight (fs := [.code b]) hs.1]
    exact ⟨fun H => H.mono fun e h hh => (W_straight hs.2).1 hh, fun H => H.mono fun e h hh => (W_straight hs.2).2 hh⟩
  | .cond c a b, fs, e, h, Q, hs => by
    simp only [straight, Bool.and_eq_true] at hs
    rw [W_cond, W_cond]
    unfold Wc
    split
    · exact W_straight hs.1
    · exact W_straight hs.2
    · exact Iff.rfl
  | .skip, fs, e, h, Q, hs => by rw [W_skip, W_skip, W_nil]
/-- Straight code, and then the rest. -/
theorem W_cut {c : Code} {e : Env} {h : Heap} {Q J : Env → Heap → Prop} (hs : straight K f c = true) (H : W K low f [.code c] e h J) (H2 : ∀ e h, J e h → W K low f fs e h Q) : W K low f (.code c :: fs) e h Q :=
  (W_straight hs).2 (H.mono H2)
end

/-! ### Lines -/
abbrev rv (l : List Int) : List Value := intCells .i32 l
theorem rv_get {l : List Int} {i : Nat} {c : Int} (h : l[i]? = some c) : (rv l)[i]? = some (.int .i32 c) := by simp [rv, intCells, h]
theorem rv_length (l : List Int) : (rv l).length = l.length := by simp [rv, intCells]
theorem rv_take (l : List Int) (k : Nat) : (rv l).take k = rv (l.take k) := by simp [rv, intCells, List.map_take]
theorem rv_drop (l : List Int) (k : Nat) : (rv l).drop k = rv (l.drop k) := by simp [rv, intCells, List.map_drop]
theorem rv_append (l m : List Int) : rv (l ++ m) = rv l ++ rv m := by simp [rv, intCells]
theorem rv_atomic (l : List Int) : (rv l).all Im.atomic = true := by simp [rv, intCells, Im.atomic]
/-- A line in memory. -/
def Tx (h : Heap) (v : Value) (l : List Int) : Prop := (l = [] ∧ ∃ a c, v = .slice a 0 c) ∨ ∃ b o cs, v = .slice (some ⟨b, o, none⟩) l.length big ∧ b < h.size ∧ (h.get b).read = .cells cs 1 ∧ o + l.length ≤ cs.length ∧ rv l = (cs.drop o).take l.length
theorem Tx.ext {h h' : Heap} (k : Ext h h') {v : Value} {l : List Int} (t : Tx h v l) : Tx h' v l := by
  rcases t with t | ⟨b, o, cs, h1, h2, h3, h4⟩
  · exact .inl t
  · exact .inr ⟨b, o, cs, h1, by have := k.1; omega, by rw [k.2 b h2]; exact h3, h4⟩
theorem Tx.open {h : Heap} {v : Value} {l : List Int} (t : Tx h v l) : ∃ a c, v = .slice a l.length c := by
  rcases t with ⟨rfl, a, c, rfl⟩ | ⟨b, o, cs, rfl, _⟩
  · exact ⟨_, _, rfl⟩
  · exact ⟨_, _, rfl⟩
theorem Tx.one {h : Heap} {v : Value} {l : List Int} {i : Nat} {x : Int} (t : Tx h v l) (hx : l[i]? = some x) :
    ∃ b o cs, v = .slice (some ⟨b, o, none⟩) l.length big ∧ b < h.size ∧ (h.get b).read = .cells cs 1 ∧ cs[o + i]? = some (.int .i32 x) := by
  have hi := (List.getElem?_eq_some_iff.1 hx).1
  rcases t with ⟨rfl, _⟩ | ⟨b, o, cs, h1, h2, h3, h4, h5⟩
  · simp at hx
  · refine ⟨b, o, cs, h1, h2, h3, ?_⟩
    have h6 := rv_get hx
    rw [h5, List.getElem?_take, if_pos hi, List.getElem?_drop] at h6
    exact h6
/-- A part of a line. -/
theorem Tx.cut {h : Heap} {a : Option Addr} {n c : Nat} {l : List Int} (t : Tx h (.slice a n c) l) (hne : l ≠ []) {lo hi : Nat} (h1 : lo ≤ hi) (h2 : hi ≤ l.length) :
    ∃ a', irsl (some (.slice 1)) h a n c (some (.int .i64 (lo : Int))) (some (.int .i64 (hi : Int))) none = some (.slice a' (hi - lo) big) ∧ Tx h (.slice a' (hi - lo) big) ((l.drop lo).take (hi - lo)) ∧
      islice h 1 (.slice a' (hi - lo) big) = some (rv ((l.drop lo).take (hi - lo))) := by
  rcases t with ⟨rfl, _⟩ | ⟨b, o, cs, e1, e2, e3, e4, e5⟩
  · exact absurd rfl hne
  · cases e1
    have q1 : boundOf 0 (some (.int .i64 (lo : Int))) = some lo := by simp [boundOf]
    have q2 : boundOf l.length (some (.int .i64 (hi : Int))) = some hi := by simp [boundOf]
    have hin := iinds_of (n := l.length) (cap := cs.length - o) q1 q2 h1 (by omega)
    have hlen : ((l.drop lo).take (hi - lo)).length = hi - lo := by simp; omega
    have hcs : rv ((l.drop lo).take (hi - lo)) = (cs.drop (o + lo)).take (hi - lo) := by
      rw [← rv_take, ← rv_drop, e5, List.drop_take, List.take_take, List.drop_drop]
      congr 1
      omega
    refine ⟨some ⟨b, o + lo, none⟩, ?_, .inr ⟨b, o + lo, cs, by rw [hlen], e2, e3, by rw [hlen]; omega, by rw [hlen]; exact hcs⟩, ?_⟩
    · simp only [irsl, Nat.lt_irrefl, if_false, if_true, Heap.look, e3, Nat.div_one, hin, Nat.mul_one, ne_eq, not_true_eq_false]
    · simp only [islice, Heap.look, e3]
      rw [if_pos ⟨trivial, by omega⟩, hcs, Nat.mul_one]
theorem Tx.rest {h : Heap} {a : Option Addr} {n c : Nat} {l : List Int} (t : Tx h (.slice a n c) l) (hne : l ≠ []) {lo : Nat} (h1 : lo ≤ l.length) :
    ∃ a', irsl (some (.slice 1)) h a n c (some (.int .i64 (lo : Int))) none none = some (.slice a' (l.length - lo) big) ∧ Tx h (.slice a' (l.length - lo) big) (l.drop lo) := by
  rcases t with ⟨rfl, _⟩ | ⟨b, o, cs, e1, e2, e3, e4, e5⟩
  · exact absurd rfl hne
  · cases e1
    have q1 : boundOf 0 (some (.int .i64 (lo : Int))) = some lo := by simp [boundOf]
    have q2 : boundOf l.length none = some l.length := rfl
    have hin := iinds_of (n := l.length) (cap := cs.length - o) q1 q2 h1 (by omega)
    have hlen : (l.drop lo).length = l.length - lo := by simp
    have hcs : rv (l.drop lo) = (cs.drop (o + lo)).take (l.length - lo) := by
      rw [← rv_drop, e5, List.drop_take, List.drop_drop]
    refine ⟨some ⟨b, o + lo, none⟩, ?_, .inr ⟨b, o + lo, cs, by rw [hlen], e2, e3, by rw [hlen]; omega, by rw [hlen]; exact hcs⟩⟩
    simp only [irsl, Nat.lt_irrefl, if_false, if_true, Heap.look, e3, Nat.div_one, hin, Nat.mul_one, ne_eq, not_true_eq_false]
theorem Tx.all {h : Heap} {a : Option Addr} {n c : Nat} {l : List Int} (s : Sl h 1 a n c (rv l)) (hc : c = 0 ∨ c = big) : Tx h (.slice a n c) l := by
  have hn : l.length = n := by have := s.length; rw [rv_length] at this; omega
  subst hn
  rcases s with ⟨rfl, h0, rfl, h1⟩ | ⟨b, o, rfl, h0, rfl, h1⟩ | ⟨b, o, cs, rfl, h2, h3, h4, h5, h6, _⟩
  · exact .inl ⟨List.eq_nil_of_length_eq_zero h0, none, 0, by rw [h0]⟩
  · exact .inl ⟨List.eq_nil_of_length_eq_zero h0, _, 0, by rw [h0]⟩
  · exact .inr ⟨b, o, cs, by rw [hc.resolve_left (by omega)], h3, h4, by omega, by simpa using h6⟩
theorem icvs_rv {l : List Int} {h : Heap} : icvs (some .i32) (some (rv l)) h = some (.string (runesBytes l), h) := by
  simp only [icvs, intsOf_cells]

namespace Lexing
def isD (c : Int) : Bool := decide (48 ≤ c) && decide (c ≤ 57)
def isL (c : Int) : Bool := decide (97 ≤ c) && decide (c ≤ 122) || decide (65 ≤ c) && decide (c ≤ 90) || decide (c = 95) || decide (c = 8710)
def t4 : List Int := [43, 45, 215, 247, 8968, 8970, 124, 42, 33, 60, 8804, 61, 8805, 62, 8800, 8743, 8744, 9074, 9073, 126, 9055, 9675]
def t5 : List Int := [9076, 44, 9021, 8854, 9033, 8593, 8595, 9075, 8714, 9035, 9042, 8868, 8869, 63, 9017, 9038, 9045]
def t6 : List Int := [47, 9023, 92, 9024]
def t7 : List Int := [40, 41, 91, 93, 59, 39, 46, 58, 8592, 8594, 8728, 9109, 9054, 8711, 9053]
def t8 : List Int := [34, 35, 36, 37, 38, 64, 94, 96, 123, 125, 168, 8746, 8745, 8801, 8802, 8834, 8835, 8866, 8867, 9077, 9082, 9066, 9080, 9080, 9674]
def kindOf (c : Int) : Nat := if c = 32 then 1 else if isL c then 2 else if isD c || decide (c = 175) then 3 else if t4.elem c then 4 else if t5.elem c then 5 else if t6.elem c then 6 else if t7.elem c then 7 else if t8.elem c then 8 else 0
def isW (c : Int) : Bool := decide (kindOf c = 2) || isD c
def begins (s : List Int) : Bool := match s[0]? with
  | none => false
  | some c => isD c || decide (c = 175) || (decide (c = 46) && match s[1]? with
    | none => false
    | some d => isD d)
def digs (s : List Int) : List Int := s.takeWhile isD
def hi (s : List Int) : Nat := if s[0]? = some 175 then 1 else 0
def expoS (s : List Int) : Option Nat :=
  if s[0]? = some 69 then
    if (digs (s.drop (1 + hi (s.drop 1)))).length = 0 ∨ 3 < (digs (s.drop (1 + hi (s.drop 1)))).length then none else some (1 + hi (s.drop 1) + (digs (s.drop (1 + hi (s.drop 1)))).length)
  else some 0
/-- What stands behind the digits ahead of a point: the point's length, and the digits' behind it. -/
def pt (s : List Int) : Nat := if s[0]? = some 46 then 1 else 0
def readS (s : List Int) : Option Nat :=
  let a := hi s
  let d := (digs (s.drop a)).length
  let p := pt (s.drop (a + d))
  let t := if p = 1 then (digs (s.drop (a + d + 1))).length else 0
  if p = 1 ∧ t = 0 then none else
  match expoS (s.drop (a + d + p + t)) with
  | none => none
  | some k => if d + t = 0 ∨ 200 < d + t then none else some (a + d + p + t + k)
def blanks (s : List Int) : Nat := (s.takeWhile fun c => decide (c = 32)).length
/-- Numbers side by side: how many, and how long. -/
def numsF : Nat → List Int → Option (Nat × Nat)
  | 0, _ => none
  | f + 1, s => if begins s then match readS s with
      | none => none
      | some k => match numsF f (s.drop (k + blanks (s.drop k))) with
        | none => none
        | some (0, _) => some (1, k)
        | some (n + 1, m) => some (n + 2, k + blanks (s.drop k) + m)
    else some (0, 0)
/-- Behind a quote: up to the closing one. -/
def textF : List Int → Option Nat
  | [] => none
  | 39 :: 39 :: s => (textF s).map (· + 2)
  | 39 :: _ => some 1
  | _ :: s => (textF s).map (· + 1)
structure Tk where
  kind : Nat
  word : List Int
  sign : Int
def nameOK (w : List Int) : Bool := decide (1 ≤ w.length) && decide (w.length ≤ 24) && (match w[0]? with
  | some c => decide (kindOf c = 2)
  | none => false) && w.all isW
def wordS (k : Nat) (s : List Int) : Option (Tk × Nat) := if nameOK (s.takeWhile isW) then some (⟨k, s.takeWhile isW, 0⟩, (s.takeWhile isW).length) else none
/-- The token at a line's beginning (none: a blank), and how long it is. -/
def tokS (s : List Int) : Option (Option Tk × Nat) := match s[0]? with
  | none => none
  | some c =>
    if kindOf c = 1 then some (none, 1)
    else if begins s then (numsF 600 s).map fun x => (some ⟨1, [], 0⟩, x.2)
    else if kindOf c = 2 then (wordS 2 s).map fun x => (some x.1, x.2)
    else if c = 39 then (textF (s.drop 1)).map fun k => (some ⟨1, [], 0⟩, 1 + k)
    else if c = 9109 ∧ (match s[1]? with
      | some d => decide (kindOf d = 2)
      | none => false) = true then (wordS 3 (s.drop 1)).map fun x => (some x.1, 1 + x.2)
    else if kindOf c = 4 ∨ kindOf c = 5 then some (some ⟨4, [], c⟩, 1)
    else if kindOf c = 6 then some (some ⟨5, [], c⟩, 1)
    else if kindOf c = 7 then some (some ⟨6, [], c⟩, 1)
    else none
def lexF : Nat → Nat → List Int → Option (List (Nat × Tk))
  | 0, _, _ => none
  | f + 1, at', s => match s[0]? with
    | none => some []
    | some c => if c = 9053 then some [] else match tokS s with
      | none => none
      | some (none, k) => lexF f (at' + k) (s.drop k)
      | some (some t, k) => (lexF f (at' + k) (s.drop k)).map ((at', t) :: ·)
def lex (l : List Int) : Option (List (Nat × Tk)) := if 512 < l.length then none else lexF 600 0 l
end Lexing
end Go.Im
attribute [go_sem] Nat.reduceAdd Nat.reduceMul Nat.reduceEqDiff Int.reduceAdd Int.reduceSub Int.reduceMul Int.reduceNeg Int.reduceToNat
