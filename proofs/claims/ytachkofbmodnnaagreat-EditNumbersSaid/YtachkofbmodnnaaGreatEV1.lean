/- Proved here: signs as bytes, and bytes as signs: what was encoded is decoded; no condition beyond those that each rule names. -/
import Derived.Test.YtachkofbmodnnaaGreatIm4
set_option linter.unusedSimpArgs false
set_option linter.unusedVariables false
namespace Go.Im.Heads
open Go Go.Im Go.Im.Lexing
abbrev E : ByteArray := ByteArray.empty
theorem encode_pos (i : Int) : 0 < (Utf8.encode i).size := by
  unfold Utf8.encode
  simp only
  repeat' split
  all_goals simp [ByteArray.size]
theorem foldl_le (ns : List Int) : ∀ s : ByteArray, s.size ≤ (ns.foldl (fun r n => r ++ Utf8.encode n) s).size := by
  induction ns with
  | nil => intro s; simp
  | cons n ns ih =>
    intro s
    have h1 := ih (s ++ Utf8.encode n)
    simp only [List.foldl_cons]
    rw [ByteArray.size_append] at h1
    omega
theorem runes_pos {ns : List Int} (h : ns ≠ []) : 0 < (runesBytes ns).size := by
  cases ns with
  | nil => exact absurd rfl h
  | cons n ns =>
    have h1 := foldl_le ns (ByteArray.empty ++ Utf8.encode n)
    have h2 := encode_pos n
    simp only [runesBytes, List.foldl_cons]
    rw [ByteArray.size_append] at h1
    omega
theorem enc_fold (ns : List Int) : ∀ s : ByteArray, ns.foldl (fun r n => r ++ Utf8.encode n) s = s ++ runesBytes ns := by
  induction ns with
  | nil => intro s; simp [runesBytes]
  | cons n ns ih =>
    intro s
    have e : runesBytes (n :: ns) = ns.foldl (fun r n => r ++ Utf8.encode n) (ByteArray.empty ++ Utf8.encode n) := rfl
    rw [List.foldl_cons, ih, e, ih, ByteArray.append_assoc, ByteArray.empty_append]
theorem runes_cons (n : Int) (ns : List Int) : runesBytes (n :: ns) = Utf8.encode n ++ runesBytes ns := by
  have e : runesBytes (n :: ns) = ns.foldl (fun r n => r ++ Utf8.encode n) (ByteArray.empty ++ Utf8.encode n) := rfl
  rw [e, enc_fold]
  simp
theorem runes_nil : runesBytes [] = E := rfl
theorem runes_append (a b : List Int) : runesBytes (a ++ b) = runesBytes a ++ runesBytes b := by
  induction a with
  | nil => simp [runes_nil, E]
  | cons n a ih => rw [List.cons_append, runes_cons, runes_cons, ih, ByteArray.append_assoc]
theorem get_app {a b : ByteArray} {k : Nat} (h : k < b.size) : (a ++ b).get! (a.size + k) = b.get! k := by
  have h1 : a.size + k < (a ++ b).size := by rw [ByteArray.size_append]; omega
  have e1 : (a ++ b).get! (a.size + k) = (a ++ b)[a.size + k]'h1 := by
    show (a ++ b).data[a.size + k]! = _
    rw [getElem!_pos]
    rfl
  have e2 : b.get! k = b[k]'h := by
    show b.data[k]! = _
    rw [getElem!_pos]
    rfl
  rw [e1, e2, ByteArray.getElem_append_right (by omega)]
  congr 1
  omega
theorem get_app_l {a b : ByteArray} {k : Nat} (h : k < a.size) : (a ++ b).get! k = a.get! k := by
  have h1 : k < (a ++ b).size := by rw [ByteArray.size_append]; omega
  have e1 : (a ++ b).get! k = (a ++ b)[k]'h1 := by
    show (a ++ b).data[k]! = _
    rw [getElem!_pos]
    rfl
  have e2 : a.get! k = a[k]'h := by
    show a.data[k]! = _
    rw [getElem!_pos]
    rfl
  rw [e1, e2, ByteArray.getElem_append_left h]
theorem u8 {n : Nat} (h : n < 256) : (UInt8.ofNat n).toNat = n := by
  simp
  omega
/-- What was encoded is decoded. -/
theorem decode_encode (c : Int) (hv : Utf8.valid c = true) (b : ByteArray) : Utf8.decode (Utf8.encode c ++ b) 0 = (c.toNat, (Utf8.encode c).size) := by
  have hr : (0 ≤ c ∧ c < 55296) ∨ (57344 ≤ c ∧ c ≤ 1114111) := by
    simp only [Utf8.valid, Bool.or_eq_true, Bool.and_eq_true, decide_eq_true_eq] at hv
    omega
  obtain ⟨m, rfl⟩ : ∃ m : Nat, c = (m : Int) := ⟨c.toNat, by omega⟩
  have he : Utf8.encode (m : Int) = if m < 0x80 then ⟨#[UInt8.ofNat m]⟩ else if m < 0x800 then ⟨#[UInt8.ofNat (0xC0 + m / 64), UInt8.ofNat (0x80 + m % 64)]⟩
      else if m < 0x10000 then ⟨#[UInt8.ofNat (0xE0 + m / 4096), UInt8.ofNat (0x80 + m / 64 % 64), UInt8.ofNat (0x80 + m % 64)]⟩
      else ⟨#[UInt8.ofNat (0xF0 + m / 262144), UInt8.ofNat (0x80 + m / 4096 % 64), UInt8.ofNat (0x80 + m / 64 % 64), UInt8.ofNat (0x80 + m % 64)]⟩ := by
    simp only [Utf8.encode, hv, if_true, Int.toNat_natCast]
  rw [Int.toNat_natCast, he]
  unfold Utf8.decode
  by_cases h1 : m < 0x80
  · simp only [if_pos h1]
    have g0 : ((⟨#[UInt8.ofNat m]⟩ : ByteArray) ++ b).get! (0 + 0) = UInt8.ofNat m := get_app_l (a := ⟨#[UInt8.ofNat m]⟩) (k := 0) Nat.one_pos
    simp only [g0, u8 (show m < 256 by omega), if_pos h1]
    rfl
  · simp only [if_neg h1]
    by_cases h2 : m < 0x800
    · simp only [if_pos h2]
      generalize hA : (⟨#[UInt8.ofNat (0xC0 + m / 64), UInt8.ofNat (0x80 + m % 64)]⟩ : ByteArray) = A
      have sz : A.size = 2 := by rw [← hA]; rfl
      have g0 : (A ++ b).get! (0 + 0) = UInt8.ofNat (0xC0 + m / 64) := by rw [get_app_l (by omega), ← hA]; rfl
      have g1 : (A ++ b).get! (0 + 1) = UInt8.ofNat (0x80 + m % 64) := by rw [get_app_l (by omega), ← hA]; rfl
      have hs : 0 + 1 < (A ++ b).size := by rw [ByteArray.size_append]; omega
      simp only [g0, g1, u8 (show 0xC0 + m / 64 < 256 by omega), u8 (show 0x80 + m % 64 < 256 by omega), hs, decide_true, Bool.true_and]
      have q1 : ¬ 0xC0 + m / 64 < 0x80 := by omega
      have q2 : (0xC0 + m / 64) / 32 = 6 := by omega
      have q3 : (0x80 + m % 64) / 64 = 2 := by omega
      have q4 : (0xC0 + m / 64) % 32 * 64 + (0x80 + m % 64) % 64 = m := by omega
      have q5 : m ≥ 0x80 := by omega
      simp only [q1, if_false, q2, beq_self_eq_true, q3, Bool.and_self, if_true, q4, q5, sz]
    · simp only [if_neg h2]
      by_cases h3 : m < 0x10000
      · simp only [if_pos h3]
        generalize hA : (⟨#[UInt8.ofNat (0xE0 + m / 4096), UInt8.ofNat (0x80 + m / 64 % 64), UInt8.ofNat (0x80 + m % 64)]⟩ : ByteArray) = A
        have sz : A.size = 3 := by rw [← hA]; rfl
        have g0 : (A ++ b).get! (0 + 0) = UInt8.ofNat (0xE0 + m / 4096) := by rw [get_app_l (by omega), ← hA]; rfl
        have g1 : (A ++ b).get! (0 + 1) = UInt8.ofNat (0x80 + m / 64 % 64) := by rw [get_app_l (by omega), ← hA]; rfl
        have g2 : (A ++ b).get! (0 + 2) = UInt8.ofNat (0x80 + m % 64) := by rw [get_app_l (by omega), ← hA]; rfl
        have hs : 0 + 1 < (A ++ b).size := by rw [ByteArray.size_append]; omega
        have hs2 : 0 + 2 < (A ++ b).size := by rw [ByteArray.size_append]; omega
        simp only [g0, g1, g2, u8 (show 0xE0 + m / 4096 < 256 by omega), u8 (show 0x80 + m / 64 % 64 < 256 by omega), u8 (show 0x80 + m % 64 < 256 by omega), hs, hs2, decide_true, Bool.true_and]
        have q1 : ¬ 0xE0 + m / 4096 < 0x80 := by omega
        have q2 : ¬ (0xE0 + m / 4096) / 32 = 6 := by omega
        have q2' : (0xE0 + m / 4096) / 16 = 14 := by omega
        have q3 : (0x80 + m / 64 % 64) / 64 = 2 := by omega
        have q3' : (0x80 + m % 64) / 64 = 2 := by omega
        have q4 : (0xE0 + m / 4096) % 16 * 4096 + (0x80 + m / 64 % 64) % 64 * 64 + (0x80 + m % 64) % 64 = m := by omega
        have q5 : m ≥ 0x800 := by omega
        simp only [q1, if_false, beq_eq_false_iff_ne.2 q2, Bool.false_and, Bool.false_eq_true, q2', beq_self_eq_true, q3, q3', Bool.and_self, if_true, q4, q5, decide_true, hv, sz]
      · simp only [if_neg h3]
        generalize hA : (⟨#[UInt8.ofNat (0xF0 + m / 262144), UInt8.ofNat (0x80 + m / 4096 % 64), UInt8.ofNat (0x80 + m / 64 % 64), UInt8.ofNat (0x80 + m % 64)]⟩ : ByteArray) = A
        have sz : A.size = 4 := by rw [← hA]; rfl
        have g0 : (A ++ b).get! (0 + 0) = UInt8.ofNat (0xF0 + m / 262144) := by rw [get_app_l (by omega), ← hA]; rfl
        have g1 : (A ++ b).get! (0 + 1) = UInt8.ofNat (0x80 + m / 4096 % 64) := by rw [get_app_l (by omega), ← hA]; rfl
        have g2 : (A ++ b).get! (0 + 2) = UInt8.ofNat (0x80 + m / 64 % 64) := by rw [get_app_l (by omega), ← hA]; rfl
        have g3 : (A ++ b).get! (0 + 3) = UInt8.ofNat (0x80 + m % 64) := by rw [get_app_l (by omega), ← hA]; rfl
        have hs : 0 + 1 < (A ++ b).size := by rw [ByteArray.size_append]; omega
        have hs2 : 0 + 2 < (A ++ b).size := by rw [ByteArray.size_append]; omega
        have hs3 : 0 + 3 < (A ++ b).size := by rw [ByteArray.size_append]; omega
        simp only [g0, g1, g2, g3, u8 (show 0xF0 + m / 262144 < 256 by omega), u8 (show 0x80 + m / 4096 % 64 < 256 by omega), u8 (show 0x80 + m / 64 % 64 < 256 by omega), u8 (show 0x80 + m % 64 < 256 by omega), hs, hs2, hs3, decide_true, Bool.true_and]
        have q1 : ¬ 0xF0 + m / 262144 < 0x80 := by omega
        have q2 : ¬ (0xF0 + m / 262144) / 32 = 6 := by omega
        have q2' : ¬ (0xF0 + m / 262144) / 16 = 14 := by omega
        have q2'' : (0xF0 + m / 262144) / 8 = 30 := by omega
        have q3 : (0x80 + m / 4096 % 64) / 64 = 2 := by omega
        have q3' : (0x80 + m / 64 % 64) / 64 = 2 := by omega
        have q3'' : (0x80 + m % 64) / 64 = 2 := by omega
        have q4 : (0xF0 + m / 262144) % 8 * 262144 + (0x80 + m / 4096 % 64) % 64 * 4096 + (0x80 + m / 64 % 64) % 64 * 64 + (0x80 + m % 64) % 64 = m := by omega
        have q5 : m ≥ 0x10000 := by omega
        simp only [q1, if_false, beq_eq_false_iff_ne.2 q2, beq_eq_false_iff_ne.2 q2', Bool.false_and, Bool.false_eq_true, q2'', beq_self_eq_true, q3, q3', q3'', Bool.and_self, if_true, q4, q5, decide_true, hv, sz]
theorem decode_congr {s t : ByteArray} {i j : Nat} (h0 : s.get! (i + 0) = t.get! (j + 0)) (hk : ∀ k, i + k < s.size ↔ j + k < t.size) (hg : ∀ k, j + k < t.size → s.get! (i + k) = t.get! (j + k)) : Utf8.decode s i = Utf8.decode t j := by
  unfold Utf8.decode
  simp only [h0]
  by_cases c1 : j + 1 < t.size
  · have d1 := (hk 1).2 c1
    simp only [hg 1 c1, c1, d1, decide_true, Bool.true_and]
    by_cases c2 : j + 2 < t.size
    · have d2 := (hk 2).2 c2
      simp only [hg 2 c2, c2, d2, decide_true, Bool.true_and]
      by_cases c3 : j + 3 < t.size
      · have d3 := (hk 3).2 c3
        simp only [hg 3 c3, c3, d3, decide_true, Bool.true_and]
      · have d3 : ¬ i + 3 < s.size := fun h => c3 ((hk 3).1 h)
        simp only [c3, d3, decide_false, Bool.false_and, Bool.and_false, Bool.false_eq_true, if_false]
    · have d2 : ¬ i + 2 < s.size := fun h => c2 ((hk 2).1 h)
      simp only [c2, d2, decide_false, Bool.false_and, Bool.and_false, Bool.false_eq_true, if_false]
  · have d1 : ¬ i + 1 < s.size := fun h => c1 ((hk 1).1 h)
    simp only [c1, d1, decide_false, Bool.false_and, Bool.and_false, Bool.false_eq_true, if_false]
theorem decode_shift (a b : ByteArray) (hb : 0 < b.size) : Utf8.decode (a ++ b) a.size = Utf8.decode b 0 := by
  refine decode_congr (get_app (by omega)) (fun k => ?_) fun k hk => ?_
  · rw [ByteArray.size_append]
    omega
  · rw [get_app (by omega), Nat.zero_add]
theorem runesFrom_runes : ∀ (ns : List Int) (a : ByteArray) (f : Nat) (acc : Array Value), (∀ c ∈ ns, Utf8.valid c = true) → ns.length ≤ f → Conv.runesFrom (a ++ runesBytes ns) f a.size acc = acc ++ (rv ns).toArray
  | [], a, f, acc, _, _ => by
    have e : (a ++ runesBytes []).size = a.size := by rw [runes_nil, ByteArray.size_append]; rfl
    cases f with
    | zero => simp [Conv.runesFrom, rv, intCells]
    | succ f => simp [Conv.runesFrom, rv, intCells, e]
  | c :: ns, a, f, acc, hv, hf => by
    cases f with
    | zero => simp at hf
    | succ f =>
      have hc := hv c (by simp)
      have hp := encode_pos c
      have hd : Utf8.decode (a ++ runesBytes (c :: ns)) a.size = (c.toNat, (Utf8.encode c).size) := by rw [decode_shift _ _ (runes_pos (by simp)), runes_cons, decode_encode c hc]
      have h0 : a.size < (a ++ runesBytes (c :: ns)).size := by
        rw [runes_cons, ByteArray.size_append, ByteArray.size_append]
        omega
      have hz : 0 ≤ c := by
        simp only [Utf8.valid, Bool.or_eq_true, Bool.and_eq_true, decide_eq_true_eq] at hc
        omega
      rw [Conv.runesFrom, if_pos h0, hd]
      simp only
      have e : a ++ runesBytes (c :: ns) = (a ++ Utf8.encode c) ++ runesBytes ns := by rw [runes_cons, ByteArray.append_assoc]
      have es : a.size + (Utf8.encode c).size = (a ++ Utf8.encode c).size := by rw [ByteArray.size_append]
      rw [e, es, runesFrom_runes ns _ f _ (fun d hd => hv d (by simp [hd])) (by simpa using hf)]
      have ec : Int.ofNat c.toNat = c := by
        show ((c.toNat : Nat) : Int) = c
        omega
      rw [ec]
      simp [rv, intCells]
theorem runes_len (ns : List Int) : ns.length ≤ (runesBytes ns).size := by
  induction ns with
  | nil => simp
  | cons n ns ih =>
    have := encode_pos n
    rw [runes_cons, ByteArray.size_append, List.length_cons]
    omega
theorem runes_of {ns : List Int} (hv : ∀ c ∈ ns, Utf8.valid c = true) : (Conv.runesFrom (runesBytes ns) (runesBytes ns).size 0 #[]).toList = rv ns := by
  have := runesFrom_runes ns ByteArray.empty (runesBytes ns).size #[] hv (runes_len ns)
  have e : ByteArray.empty ++ runesBytes ns = runesBytes ns := by simp
  rw [e] at this
  have h0 : ByteArray.empty.size = 0 := rfl
  rw [h0] at this
  rw [this]
  simp
theorem icvt_runes {l : List UInt8} {ns : List Int} {h : Heap} (e : text l = runesBytes ns) (hv : ∀ c ∈ ns, Utf8.valid c = true) : icvt (some .i32) l h = some (.slice (some ⟨h.size, 0, none⟩) ns.length big, h.push (.cells (rv ns) 1)) := by
  simp only [icvt, e, runes_of hv, rv_length]
/-- Signs of one byte. -/
def I8 (l : List UInt8) : List Int := l.map fun c => (c.toNat : Int)
theorem I8_append (a b : List UInt8) : I8 (a ++ b) = I8 a ++ I8 b := by simp [I8]
theorem I8_len (a : List UInt8) : (I8 a).length = a.length := by simp [I8]
theorem asc_runes : ∀ {S : List UInt8}, (∀ c ∈ S, c.toNat < 128) → runesBytes (I8 S) = text S ∧ ∀ c ∈ I8 S, Utf8.valid c = true
  | [], _ => ⟨rfl, by simp [I8]⟩
  | c :: S, h => by
    obtain ⟨h1, h2⟩ := asc_runes (S := S) fun d hd => h d (by simp [hd])
    have hc := h c (by simp)
    have e : I8 (c :: S) = (c.toNat : Int) :: I8 S := rfl
    have hv : Utf8.valid (c.toNat : Int) = true := by
      simp only [Utf8.valid, Bool.or_eq_true, Bool.and_eq_true, decide_eq_true_eq]
      omega
    have he : Utf8.encode (c.toNat : Int) = text [c] := by
      simp only [Utf8.encode, hv, if_true, Int.toNat_natCast]
      rw [if_pos hc]
      simp [text]
    refine ⟨by rw [e, runes_cons, h1, he, text_append]; rfl, fun d hd => ?_⟩
    rw [e] at hd
    rcases List.mem_cons.1 hd with rfl | hd
    · exact hv
    · exact h2 d hd
end Go.Im.Heads
