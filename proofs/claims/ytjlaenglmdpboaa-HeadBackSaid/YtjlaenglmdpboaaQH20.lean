/- Proved here: a header that a line is, written, is read as it was, in plain Lean: what is cut out of its text, and that it is the same header; no condition, no program. -/
import Derived.Test.YtjlaenglmdpboaaQH19
set_option linter.unusedSimpArgs false
set_option linter.unusedVariables false
namespace Go.Im.Heads
open Go Go.Im Go.Im.Lexing
/-! ### Runes as bytes, and back -/
theorem enc_fold (ns : List Int) : ∀ s : ByteArray, ns.foldl (fun r n => r ++ Utf8.encode n) s = s ++ runesBytes ns := by
  induction ns with
  | nil => intro s; simp [runesBytes]
  | cons n ns ih =>
    intro s
    have e : runesBytes (n :: ns) = ns.foldl (fun r n => r ++ Utf8.encode n) (ByteArray.empty ++ Utf8.encode n) := rfl
    rw [List.foldl_cons, ih, e, ih, ByteArray.append_assoc, ByteArray.empty_append]
theorem runes_cons (n : Int) (ns : List Int) : runesBytes (n :: ns) = Utf8.encode n ++ runesBytes ns := by
  have e : runesBytes (n :: ns) = ns.foldl (fun r n => r ++ Utf8.encode n) (ByteArray.empty ++ Utf8.encode n) := rfl
  rw [e, enc_fold]
  simp
theorem runes_nil : runesBytes [] = E := rfl
theorem runes_append (a b : List Int) : runesBytes (a ++ b) = runesBytes a ++ runesBytes b := by
  induction a with
  | nil => simp [runes_nil, E]
  | cons n a ih => rw [List.cons_append, runes_cons, runes_cons, ih, ByteArray.append_assoc]
theorem get_app {a b : ByteArray} {k : Nat} (h : k < b.size) : (a ++ b).get! (a.size + k) = b.get! k := by
  have h1 : a.size + k < (a ++ b).size := by rw [ByteArray.size_append]; omega
  have e1 : (a ++ b).get! (a.size + k) = (a ++ b)[a.size + k]'h1 := by
    show (a ++ b).data[a.size + k]! = _
    rw [getElem!_pos]
    rfl
  have e2 : b.get! k = b[k]'h := by
    show b.data[k]! = _
    rw [getElem!_pos]
    rfl
  rw [e1, e2, ByteArray.getElem_append_right (by omega)]
  congr 1
  omega
theorem get_app_l {a b : ByteArray} {k : Nat} (h : k < a.size) : (a ++ b).get! k = a.get! k := by
  have h1 : k < (a ++ b).size := by rw [ByteArray.size_append]; omega
  have e1 : (a ++ b).get! k = (a ++ b)[k]'h1 := by
    show (a ++ b).data[k]! = _
    rw [getElem!_pos]
    rfl
  have e2 : a.get! k = a[k]'h := by
    show a.data[k]! = _
    rw [getElem!_pos]
    rfl
  rw [e1, e2, ByteArray.getElem_append_left h]
theorem u8 {n : Nat} (h : n < 256) : (UInt8.ofNat n).toNat = n := by
  simp
  omega
/-- What was encoded is decoded. -/
theorem decode_encode (c : Int) (hv : Utf8.valid c = true) (b : ByteArray) : Utf8.decode (Utf8.encode c ++ b) 0 = (c.toNat, (Utf8.encode c).size) := by
  have hr : (0 ≤ c ∧ c < 55296) ∨ (57344 ≤ c ∧ c ≤ 1114111) := by
    simp only [Utf8.valid, Bool.or_eq_true, Bool.and_eq_true, decide_eq_true_eq] at hv
    omega
  obtain ⟨m, rfl⟩ : ∃ m : Nat, c = (m : Int) := ⟨c.toNat, by omega⟩
  have he : Utf8.encode (m : Int) = if m < 0x80 then ⟨#[UInt8.ofNat m]⟩ else if m < 0x800 then ⟨#[UInt8.ofNat (0xC0 + m / 64), UInt8.ofNat (0x80 + m % 64)]⟩
      else if m < 0x10000 then ⟨#[UInt8.ofNat (0xE0 + m / 4096), UInt8.ofNat (0x80 + m / 64 % 64), UInt8.ofNat (0x80 + m % 64)]⟩
      else ⟨#[UInt8.ofNat (0xF0 + m / 262144), UInt8.ofNat (0x80 + m / 4096 % 64), UInt8.ofNat (0x80 + m / 64 % 64), UInt8.ofNat (0x80 + m % 64)]⟩ := by
    simp only [Utf8.encode, hv, if_true, Int.toNat_natCast]
  rw [Int.toNat_natCast, he]
  unfold Utf8.decode
  by_cases h1 : m < 0x80
  · simp only [if_pos h1]
    have g0 : ((⟨#[UInt8.ofNat m]⟩ : ByteArray) ++ b).get! (0 + 0) = UInt8.ofNat m := get_app_l (a := ⟨#[UInt8.ofNat m]⟩) (k := 0) Nat.one_pos
    simp only [g0, u8 (show m < 256 by omega), if_pos h1]
    rfl
  · simp only [if_neg h1]
    by_cases h2 : m < 0x800
    · simp only [if_pos h2]
      generalize hA : (⟨#[UInt8.ofNat (0xC0 + m / 64), UInt8.ofNat (0x80 + m % 64)]⟩ : ByteArray) = A
      have sz : A.size = 2 := by rw [← hA]; rfl
      have g0 : (A ++ b).get! (0 + 0) = UInt8.ofNat (0xC0 + m / 64) := by rw [get_app_l (by omega), ← hA]; rfl
      have g1 : (A ++ b).get! (0 + 1) = UInt8.ofNat (0x80 + m % 64) := by rw [get_app_l (by omega), ← hA]; rfl
      have hs : 0 + 1 < (A ++ b).size := by rw [ByteArray.size_append]; omega
      simp only [g0, g1, u8 (show 0xC0 + m / 64 < 256 by omega), u8 (show 0x80 + m % 64 < 256 by omega), hs, decide_true, Bool.true_and]
      have q1 : ¬ 0xC0 + m / 64 < 0x80 := by omega
      have q2 : (0xC0 + m / 64) / 32 = 6 := by omega
      have q3 : (0x80 + m % 64) / 64 = 2 := by omega
      have q4 : (0xC0 + m / 64) % 32 * 64 + (0x80 + m % 64) % 64 = m := by omega
      have q5 : m ≥ 0x80 := by omega
      simp only [q1, if_false, q2, beq_self_eq_true, q3, Bool.and_self, if_true, q4, q5, sz]
    · simp only [if_neg h2]
      by_cases h3 : m < 0x10000
      · simp only [if_pos h3]
        generalize hA : (⟨#[UInt8.ofNat (0xE0 + m / 4096), UInt8.ofNat (0x80 + m / 64 % 64), UInt8.ofNat (0x80 + m % 64)]⟩ : ByteArray) = A
        have sz : A.size = 3 := by rw [← hA]; rfl
        have g0 : (A ++ b).get! (0 + 0) = UInt8.ofNat (0xE0 + m / 4096) := by rw [get_app_l (by omega), ← hA]; rfl
        have g1 : (A ++ b).get! (0 + 1) = UInt8.ofNat (0x80 + m / 64 % 64) := by rw [get_app_l (by omega), ← hA]; rfl
        have g2 : (A ++ b).get! (0 + 2) = UInt8.ofNat (0x80 + m % 64) := by rw [get_app_l (by omega), ← hA]; rfl
        have hs : 0 + 1 < (A ++ b).size := by rw [ByteArray.size_append]; omega
        have hs2 : 0 + 2 < (A ++ b).size := by rw [ByteArray.size_append]; omega
        simp only [g0, g1, g2, u8 (show 0xE0 + m / 4096 < 256 by omega), u8 (show 0x80 + m / 64 % 64 < 256 by omega), u8 (show 0x80 + m % 64 < 256 by omega), hs, hs2, decide_true, Bool.true_and]
        have q1 : ¬ 0xE0 + m / 4096 < 0x80 := by omega
        have q2 : ¬ (0xE0 + m / 4096) / 32 = 6 := by omega
        have q2' : (0xE0 + m / 4096) / 16 = 14 := by omega
        have q3 : (0x80 + m / 64 % 64) / 64 = 2 := by omega
        have q3' : (0x80 + m % 64) / 64 = 2 := by omega
        have q4 : (0xE0 + m / 4096) % 16 * 4096 + (0x80 + m / 64 % 64) % 64 * 64 + (0x80 + m % 64) % 64 = m := by omega
        have q5 : m ≥ 0x800 := by omega
        simp only [q1, if_false, beq_eq_false_iff_ne.2 q2, Bool.false_and, Bool.false_eq_true, q2', beq_self_eq_true, q3, q3', Bool.and_self, if_true, q4, q5, decide_true, hv, sz]
      · simp only [if_neg h3]
        generalize hA : (⟨#[UInt8.ofNat (0xF0 + m / 262144), UInt8.ofNat (0x80 + m / 4096 % 64), UInt8.ofNat (0x80 + m / 64 % 64), UInt8.ofNat (0x80 + m % 64)]⟩ : ByteArray) = A
        have sz : A.size = 4 := by rw [← hA]; rfl
        have g0 : (A ++ b).get! (0 + 0) = UInt8.ofNat (0xF0 + m / 262144) := by rw [get_app_l (by omega), ← hA]; rfl
        have g1 : (A ++ b).get! (0 + 1) = UInt8.ofNat (0x80 + m / 4096 % 64) := by rw [get_app_l (by omega), ← hA]; rfl
        have g2 : (A ++ b).get! (0 + 2) = UInt8.ofNat (0x80 + m / 64 % 64) := by rw [get_app_l (by omega), ← hA]; rfl
        have g3 : (A ++ b).get! (0 + 3) = UInt8.ofNat (0x80 + m % 64) := by rw [get_app_l (by omega), ← hA]; rfl
        have hs : 0 + 1 < (A ++ b).size := by rw [ByteArray.size_append]; omega
        have hs2 : 0 + 2 < (A ++ b).size := by rw [ByteArray.size_append]; omega
        have hs3 : 0 + 3 < (A ++ b).size := by rw [ByteArray.size_append]; omega
        simp only [g0, g1, g2, g3, u8 (show 0xF0 + m / 262144 < 256 by omega), u8 (show 0x80 + m / 4096 % 64 < 256 by omega), u8 (show 0x80 + m / 64 % 64 < 256 by omega), u8 (show 0x80 + m % 64 < 256 by omega), hs, hs2, hs3, decide_true, Bool.true_and]
        have q1 : ¬ 0xF0 + m / 262144 < 0x80 := by omega
        have q2 : ¬ (0xF0 + m / 262144) / 32 = 6 := by omega
        have q2' : ¬ (0xF0 + m / 262144) / 16 = 14 := by omega
        have q2'' : (0xF0 + m / 262144) / 8 = 30 := by omega
        have q3 : (0x80 + m / 4096 % 64) / 64 = 2 := by omega
        have q3' : (0x80 + m / 64 % 64) / 64 = 2 := by omega
        have q3'' : (0x80 + m % 64) / 64 = 2 := by omega
        have q4 : (0xF0 + m / 262144) % 8 * 262144 + (0x80 + m / 4096 % 64) % 64 * 4096 + (0x80 + m / 64 % 64) % 64 * 64 + (0x80 + m % 64) % 64 = m := by omega
        have q5 : m ≥ 0x10000 := by omega
        simp only [q1, if_false, beq_eq_false_iff_ne.2 q2, beq_eq_false_iff_ne.2 q2', Bool.false_and, Bool.false_eq_true, q2'', beq_self_eq_true, q3, q3', q3'', Bool.and_self, if_true, q4, q5, decide_true, hv, sz]
theorem decode_congr {s t : ByteArray} {i j : Nat} (h0 : s.get! (i + 0) = t.get! (j + 0)) (hk : ∀ k, i + k < s.size ↔ j + k < t.size) (hg : ∀ k, j + k < t.size → s.get! (i + k) = t.get! (j + k)) : Utf8.decode s i = Utf8.decode t j := by
  unfold Utf8.decode
  simp only [h0]
  by_cases c1 : j + 1 < t.size
  · have d1 := (hk 1).2 c1
    simp only [hg 1 c1, c1, d1, decide_true, Bool.true_and]
    by_cases c2 : j + 2 < t.size
    · have d2 := (hk 2).2 c2
      simp only [hg 2 c2, c2, d2, decide_true, Bool.true_and]
      by_cases c3 : j + 3 < t.size
      · have d3 := (hk 3).2 c3
        simp only [hg 3 c3, c3, d3, decide_true, Bool.true_and]
      · have d3 : ¬ i + 3 < s.size := fun h => c3 ((hk 3).1 h)
        simp only [c3, d3, decide_false, Bool.false_and, Bool.and_false, Bool.false_eq_true, if_false]
    · have d2 : ¬ i + 2 < s.size := fun h => c2 ((hk 2).1 h)
      simp only [c2, d2, decide_false, Bool.false_and, Bool.and_false, Bool.false_eq_true, if_false]
  · have d1 : ¬ i + 1 < s.size := fun h => c1 ((hk 1).1 h)
    simp only [c1, d1, decide_false, Bool.false_and, Bool.and_false, Bool.false_eq_true, if_false]
theorem decode_shift (a b : ByteArray) (hb : 0 < b.size) : Utf8.decode (a ++ b) a.size = Utf8.decode b 0 := by
  refine decode_congr (get_app (by omega)) (fun k => ?_) fun k hk => ?_
  · rw [ByteArray.size_append]
    omega
  · rw [get_app (by omega), Nat.zero_add]
theorem runesFrom_runes : ∀ (ns : List Int) (a : ByteArray) (f : Nat) (acc : Array Value), (∀ c ∈ ns, Utf8.valid c = true) → ns.length ≤ f → Conv.runesFrom (a ++ runesBytes ns) f a.size acc = acc ++ (rv ns).toArray
  | [], a, f, acc, _, _ => by
    have e : (a ++ runesBytes []).size = a.size := by rw [runes_nil, ByteArray.size_append]; rfl
    cases f with
    | zero => simp [Conv.runesFrom, rv, intCells]
    | succ f => simp [Conv.runesFrom, rv, intCells, e]
  | c :: ns, a, f, acc, hv, hf => by
    cases f with
    | zero => simp at hf
    | succ f =>
      have hc := hv c (by simp)
      have hp := encode_pos c
      have hd : Utf8.decode (a ++ runesBytes (c :: ns)) a.size = (c.toNat, (Utf8.encode c).size) := by rw [decode_shift _ _ (runes_pos (by simp)), runes_cons, decode_encode c hc]
      have h0 : a.size < (a ++ runesBytes (c :: ns)).size := by
        rw [runes_cons, ByteArray.size_append, ByteArray.size_append]
        omega
      have hz : 0 ≤ c := by
        simp only [Utf8.valid, Bool.or_eq_true, Bool.and_eq_true, decide_eq_true_eq] at hc
        omega
      rw [Conv.runesFrom, if_pos h0, hd]
      simp only
      have e : a ++ runesBytes (c :: ns) = (a ++ Utf8.encode c) ++ runesBytes ns := by rw [runes_cons, ByteArray.append_assoc]
      have es : a.size + (Utf8.encode c).size = (a ++ Utf8.encode c).size := by rw [ByteArray.size_append]
      rw [e, es, runesFrom_runes ns _ f _ (fun d hd => hv d (by simp [hd])) (by simpa using hf)]
      have ec : Int.ofNat c.toNat = c := by
        show ((c.toNat : Nat) : Int) = c
        omega
      rw [ec]
      simp [rv, intCells]
theorem runes_len (ns : List Int) : ns.length ≤ (runesBytes ns).size := by
  induction ns with
  | nil => simp
  | cons n ns ih =>
    have := encode_pos n
    rw [runes_cons, ByteArray.size_append, List.length_cons]
    omega
theorem runes_of {ns : List Int} (hv : ∀ c ∈ ns, Utf8.valid c = true) : (Conv.runesFrom (runesBytes ns) (runesBytes ns).size 0 #[]).toList = rv ns := by
  have := runesFrom_runes ns ByteArray.empty (runesBytes ns).size #[] hv (runes_len ns)
  have e : ByteArray.empty ++ runesBytes ns = runesBytes ns := by simp
  rw [e] at this
  have h0 : ByteArray.empty.size = 0 := rfl
  rw [h0] at this
  rw [this]
  simp

/-! ### Words, marks and blanks, one behind the other -/
inductive Pc where
  | w (s : List Int)
  | m (c : Int)
  | b
def Pc.txt : Pc → List Int
  | .w s => s
  | .m c => [c]
  | .b => [32]
def ptxt (ps : List Pc) : List Int := ps.flatMap Pc.txt
def ptok : Nat → List Pc → List (Nat × Tk)
  | _, [] => []
  | p, .w s :: ps => (p, ⟨2, s, 0⟩) :: ptok (p + s.length) ps
  | p, .m c :: ps => (p, ⟨6, [], c⟩) :: ptok (p + 1) ps
  | p, .b :: ps => ptok (p + 1) ps
def isWp : List Pc → Bool
  | .w _ :: _ => true
  | _ => false
/-- Every word is a name, and no word stands right behind another one; the marks are those of headers. -/
def pok : List Pc → Prop
  | [] => True
  | .w s :: ps => nameOK s = true ∧ isWp ps = false ∧ pok ps
  | .m c :: ps => (c = 59 ∨ c = 8592) ∧ pok ps
  | .b :: ps => pok ps
theorem name_facts {s : List Int} (h : nameOK s = true) : ∃ c r, s = c :: r ∧ kindOf c = 2 ∧ s.all isW = true := by
  simp only [nameOK, Bool.and_eq_true, decide_eq_true_eq] at h
  match s, h with
  | [], h => simp at h
  | c :: r, h => exact ⟨c, r, rfl, by simpa using h.1.2, h.2⟩
theorem stop_txt {ps : List Pc} (h : pok ps) (hw : isWp ps = false) : (ptxt ps).takeWhile isW = [] := by
  match ps, h, hw with
  | [], _, _ => rfl
  | .m c :: ps, h, _ =>
    have e : ptxt (.m c :: ps) = c :: ptxt ps := rfl
    rw [e]
    rcases h.1 with rfl | rfl <;> rfl
  | .b :: ps, _, _ => rfl
theorem tw_all {p : Int → Bool} : ∀ {a r : List Int}, a.all p = true → r.takeWhile p = [] → (a ++ r).takeWhile p = a
  | [], r, _, h => h
  | x :: a, r, ha, h => by
    simp only [List.all_cons, Bool.and_eq_true] at ha
    rw [List.cons_append, List.takeWhile_cons_of_pos ha.1, tw_all ha.2 h]
theorem tok_word {s r : List Int} (h : nameOK s = true) (hr : r.takeWhile isW = []) : tokS (s ++ r) = some (some ⟨2, s, 0⟩, s.length) := by
  obtain ⟨c, t, rfl, hk, ha⟩ := name_facts h
  have htw := tw_all ha hr
  have hkL : isL c = true ∧ c ≠ 32 := by
    unfold kindOf at hk
    split at hk
    · cases hk
    · rename_i h32
      split at hk
      · exact ⟨by assumption, h32⟩
      · repeat' split at hk
        all_goals omega
  have hb : begins (c :: t ++ r) = false := by
    have h1 : isD c = false ∧ c ≠ 175 ∧ c ≠ 46 := by
      simp only [isL, Bool.or_eq_true, Bool.and_eq_true, decide_eq_true_eq] at hkL
      simp only [isD, Bool.and_eq_false_iff, decide_eq_false_iff_not]
      omega
    simp only [begins, List.cons_append, List.getElem?_cons_zero, h1.1, Bool.false_or]
    simp [h1.2.1, h1.2.2]
  unfold tokS
  rw [List.cons_append, List.getElem?_cons_zero]
  rw [List.cons_append] at hb htw
  simp only [hk, hb]
  simp only [wordS, htw, h]
  simp
theorem lexF_ptok : ∀ {ps : List Pc} {f p : Nat}, pok ps → ps.length < f → lexF f p (ptxt ps) = some (ptok p ps)
  | _, 0, _, _, h => by omega
  | [], f + 1, p, _, _ => rfl
  | .m c :: ps, f + 1, p, h, hf => by
    have ih := lexF_ptok (ps := ps) (f := f) (p := p + 1) h.2 (by simpa using hf)
    have e : ptxt (.m c :: ps) = c :: ptxt ps := rfl
    have ht : tokS (c :: ptxt ps) = some (some ⟨6, [], c⟩, 1) := by
      unfold tokS
      rw [List.getElem?_cons_zero]
      rcases h.1 with rfl | rfl <;> rfl
    have hc : c ≠ 9053 := by rcases h.1 with rfl | rfl <;> decide
    rw [e, lexF, List.getElem?_cons_zero]
    simp only [ht, if_neg hc, List.drop_succ_cons, List.drop_zero, ih]
    rfl
  | .b :: ps, f + 1, p, h, hf => by
    have ih := lexF_ptok (ps := ps) (f := f) (p := p + 1) h (by simpa using hf)
    have e : ptxt (.b :: ps) = 32 :: ptxt ps := rfl
    have ht : tokS (32 :: ptxt ps) = some (none, 1) := by
      unfold tokS
      rw [List.getElem?_cons_zero]
      rfl
    rw [e, lexF, List.getElem?_cons_zero]
    simp only [ht, show ¬ (32 : Int) = 9053 by decide, if_false, List.drop_succ_cons, List.drop_zero, ih]
    rfl
  | .w s :: ps, f + 1, p, h, hf => by
    have ih := lexF_ptok (ps := ps) (f := f) (p := p + s.length) h.2.2 (by simpa using hf)
    have e : ptxt (.w s :: ps) = s ++ ptxt ps := rfl
    have ht := tok_word h.1 (stop_txt h.2.2 h.2.1)
    obtain ⟨c, r, rfl, hk, _⟩ := name_facts h.1
    have hc : c ≠ 9053 := by
      rintro rfl
      exact absurd hk (by decide)
    rw [e, lexF]
    have e0 : (c :: r ++ ptxt ps)[0]? = some c := rfl
    rw [e0]
    simp only [ht, if_neg hc, List.drop_left, ih]
    rfl

/-! ### A header's words -/
/-- Tokens whose names are names. -/
def NK (ts : List (Nat × Tk)) : Prop := ∀ t ∈ ts, t.2.kind = 2 → nameOK t.2.word = true
def wt (t : Nat × Tk) : Nat := if isN t then t.2.word.length else 1
def wts (ts : List (Nat × Tk)) : Nat := (ts.map wt).sum
theorem wts_cons (t : Nat × Tk) (ts : List (Nat × Tk)) : wts (t :: ts) = wt t + wts ts := by simp [wts]
theorem wts_append (a b : List (Nat × Tk)) : wts (a ++ b) = wts a + wts b := by simp [wts]
theorem tok_wt {s : List Int} {t : Tk} {k : Nat} (h : tokS s = some (some t, k)) (p : Nat) : wt (p, t) ≤ k := by
  have h1 := tokS_le h
  unfold wt
  by_cases hn : isN (p, t) = true
  · rw [if_pos hn]
    have hk : t.kind = 2 := by simpa [isN] using hn
    have word : ∀ {k' : Nat} {s' : List Int} {g : Tk × Nat → Nat}, (∀ x, x.2 ≤ g x) → (wordS k' s').map (fun x => (some x.1, g x)) = some (some t, k) → t.word.length ≤ k := by
      intro k' s' g hg hw
      obtain ⟨x, hx, hy⟩ := Option.map_eq_some_iff.1 hw
      cases hy
      unfold wordS at hx
      split at hx
      · cases hx
        exact hg (⟨k', List.takeWhile isW s', 0⟩, (List.takeWhile isW s').length)
      · cases hx
    have one : ∀ {α : Type} {o : Option α} {g : α → Nat}, o.map (fun x => (some (⟨1, [], 0⟩ : Tk), g x)) = some (some t, k) → t.word.length ≤ k := by
      intro α o g hw
      obtain ⟨x, hx, hy⟩ := Option.map_eq_some_iff.1 hw
      cases hy
      cases hk
    unfold tokS at h
    repeat' split at h
    all_goals first
      | (cases h; done)
      | (cases h; cases hk; done)
      | exact one h
      | exact word (fun x => Nat.le_refl _) h
      | exact word (fun x => by omega) h
  · rw [if_neg hn]
    omega
theorem lexF_wts : ∀ {f p : Nat} {s : List Int} {ts : List (Nat × Tk)}, lexF f p s = some ts → wts ts ≤ s.length
  | 0, _, _, _, h => by cases h
  | f + 1, p, s, ts, h => by
    simp only [lexF] at h
    split at h
    · cases h
      simp [wts]
    · split at h
      · cases h
        simp [wts]
      · split at h
        · cases h
        · rename_i k ht
          have := lexF_wts h
          rw [List.length_drop] at this
          omega
        · rename_i t k ht
          obtain ⟨us, hu, rfl⟩ := Option.map_eq_some_iff.1 h
          have h1 := lexF_wts hu
          have h2 := tok_wt ht p
          have h3 := tokS_le ht
          rw [List.length_drop] at h1
          rw [wts_cons]
          omega
theorem wd_eq (t : Nat × Tk) : wd t = runesBytes t.2.word := rfl
def lsum (ls : List (List Int)) : Nat := (ls.map List.length).sum
theorem loc_words : ∀ {ts : List (Nat × Tk)} {bs : List ByteArray}, NK ts → locT ts = some bs → ∃ ls : List (List Int), bs = ls.map runesBytes ∧ (∀ w ∈ ls, nameOK w = true) ∧ lsum ls + ls.length ≤ wts ts
  | [], bs, _, h => by
    cases h
    exact ⟨[], rfl, by simp, by simp [lsum]⟩
  | [a], bs, _, h => by cases h
  | a :: b :: r, bs, hN, h => by
    simp only [locT] at h
    split at h
    · rename_i hab
      simp only [Bool.and_eq_true] at hab
      obtain ⟨ms, hm, rfl⟩ := Option.map_eq_some_iff.1 h
      obtain ⟨ls, rfl, h1, h2⟩ := loc_words (fun t ht => hN t (by simp [ht])) hm
      refine ⟨b.2.word :: ls, by simp [wd], ?_, ?_⟩
      · intro w hw
        rcases List.mem_cons.1 hw with rfl | hw
        · exact hN b (by simp) (by simpa [isN] using hab.2)
        · exact h1 w hw
      · have ha : wt a = 1 := by
          have : isN a = false := by
            have := hab.1
            simp only [isM, Bool.and_eq_true, decide_eq_true_eq] at this
            simp [isN, this.1]
          simp [wt, this]
        have hb : wt b = b.2.word.length := by simp [wt, hab.2]
        rw [wts_cons, wts_cons, ha, hb]
        simp only [lsum, List.map_cons, List.sum_cons, List.length_cons] at h2 ⊢
        omega
    · cases h
theorem names_words : ∀ {ts : List (Nat × Tk)}, NK ts → ∃ ns : List (List Int), (ts.takeWhile isN).map wd = ns.map runesBytes ∧ (∀ w ∈ ns, nameOK w = true) ∧ lsum ns + wts (ts.drop ns.length) = wts ts
  | [], _ => ⟨[], rfl, by simp, by simp [lsum]⟩
  | t :: ts, hN => by
    by_cases ht : isN t = true
    · obtain ⟨ns, h1, h2, h3⟩ := names_words (ts := ts) fun u hu => hN u (by simp [hu])
      refine ⟨t.2.word :: ns, ?_, ?_, ?_⟩
      · rw [List.takeWhile_cons_of_pos ht, List.map_cons, List.map_cons, h1]
        rfl
      · intro w hw
        rcases List.mem_cons.1 hw with rfl | hw
        · exact hN t (by simp) (by simpa [isN] using ht)
        · exact h2 w hw
      · have hb : wt t = t.2.word.length := by simp [wt, ht]
        rw [wts_cons, hb]
        simp only [lsum, List.map_cons, List.sum_cons, List.length_cons, List.drop_succ_cons] at h3 ⊢
        omega
    · exact ⟨[], by rw [List.takeWhile_cons_of_neg ht]; rfl, by simp, by simp [lsum]⟩
theorem res_words {ts : List (Nat × Tk)} (hN : NK ts) : ∃ re : List Int, (resT ts).1 = runesBytes re ∧ (re = [] ∨ nameOK re = true) ∧ NK (resT ts).2 ∧ (if re = [] then 0 else re.length + 1) + wts (resT ts).2 ≤ wts ts := by
  match ts, hN with
  | [], hN => exact ⟨[], rfl, .inl rfl, hN, by simp [resT]⟩
  | [a], hN => exact ⟨[], rfl, .inl rfl, hN, by simp [resT]⟩
  | a :: b :: r, hN =>
    simp only [resT]
    split
    · rename_i hab
      simp only [Bool.and_eq_true] at hab
      have hk := hN a (by simp) (by simpa [isN] using hab.1)
      refine ⟨a.2.word, rfl, .inr hk, fun t ht => hN t (by simp [ht]), ?_⟩
      have hb : wt b = 1 := by
        have : isN b = false := by
          have := hab.2
          simp only [isM, Bool.and_eq_true, decide_eq_true_eq] at this
          simp [isN, this.1]
        simp [wt, this]
      have ha : wt a = a.2.word.length := by simp [wt, hab.1]
      have hne : a.2.word ≠ [] := by
        obtain ⟨c, t, h, _⟩ := name_facts hk
        rw [h]
        simp
      rw [if_neg hne, wts_cons, wts_cons, ha, hb]
      simp only
      omega
    · exact ⟨[], rfl, .inl rfl, hN, by simp⟩

/-! ### The text of a header, as pieces -/
def rePc (re : List Int) : List Pc := if re = [] then [] else [.w re, .m 8592]
def nsPc : List (List Int) → List Pc
  | [] => []
  | [a] => [.w a]
  | a :: b :: r => .w a :: .b :: nsPc (b :: r)
def lsPc (ls : List (List Int)) : List Pc := ls.flatMap fun w => [.m 59, .w w]
theorem ls_ok : ∀ {ls : List (List Int)}, (∀ w ∈ ls, nameOK w = true) → pok (lsPc ls) ∧ isWp (lsPc ls) = false
  | [], _ => ⟨trivial, rfl⟩
  | w :: ls, h => by
    obtain ⟨h1, h2⟩ := ls_ok (ls := ls) fun u hu => h u (by simp [hu])
    exact ⟨⟨.inl rfl, h w (by simp), h2, h1⟩, rfl⟩
theorem ns_ok : ∀ {ns : List (List Int)} {ps : List Pc}, (∀ w ∈ ns, nameOK w = true) → pok ps → isWp ps = false → pok (nsPc ns ++ ps)
  | [], ps, _, h, _ => h
  | [a], ps, hn, h, hw => ⟨hn a (by simp), hw, h⟩
  | a :: b :: r, ps, hn, h, hw => ⟨hn a (by simp), rfl, ns_ok (ns := b :: r) (fun u hu => hn u (by simp [hu])) h hw⟩
theorem re_ok {re : List Int} {ps : List Pc} (h : re = [] ∨ nameOK re = true) (hp : pok ps) : pok (rePc re ++ ps) := by
  unfold rePc
  by_cases h0 : re = []
  · rw [if_pos h0]
    exact hp
  · rw [if_neg h0]
    exact ⟨h.resolve_left h0, rfl, .inr rfl, hp⟩
theorem loc_back : ∀ (ls : List (List Int)) (p : Nat), locT (ptok p (lsPc ls)) = some (ls.map runesBytes)
  | [], p => rfl
  | w :: ls, p => by
    have e : ptok p (lsPc (w :: ls)) = (p, ⟨6, [], 59⟩) :: (p + 1, ⟨2, w, 0⟩) :: ptok (p + 1 + w.length) (lsPc ls) := rfl
    rw [e, locT, loc_back ls]
    rfl
theorem tw_loc (ls : List (List Int)) (p : Nat) : (ptok p (lsPc ls)).takeWhile isN = [] := by
  cases ls <;> rfl
theorem ns_back : ∀ (ns : List (List Int)) (ls : List (List Int)) (p : Nat), ((ptok p (nsPc ns ++ lsPc ls)).takeWhile isN).map wd = ns.map runesBytes ∧ ∃ q, (ptok p (nsPc ns ++ lsPc ls)).drop ns.length = ptok q (lsPc ls)
  | [], ls, p => ⟨by rw [nsPc, List.nil_append, tw_loc]; rfl, p, rfl⟩
  | [a], ls, p => by
    have e : ptok p (nsPc [a] ++ lsPc ls) = (p, ⟨2, a, 0⟩) :: ptok (p + a.length) (lsPc ls) := rfl
    rw [e, List.takeWhile_cons_of_pos rfl, tw_loc]
    exact ⟨rfl, _, rfl⟩
  | a :: b :: r, ls, p => by
    have e : ptok p (nsPc (a :: b :: r) ++ lsPc ls) = (p, ⟨2, a, 0⟩) :: ptok (p + a.length + 1) (nsPc (b :: r) ++ lsPc ls) := rfl
    obtain ⟨h1, q, h2⟩ := ns_back (b :: r) ls (p + a.length + 1)
    rw [e, List.takeWhile_cons_of_pos rfl, List.map_cons, h1]
    exact ⟨rfl, q, h2⟩
theorem res_back (re : List Int) {ns : List (List Int)} (hns : ns ≠ []) (ls : List (List Int)) : ∃ q, resT (ptok 0 (rePc re ++ (nsPc ns ++ lsPc ls))) = (runesBytes re, ptok q (nsPc ns ++ lsPc ls)) := by
  unfold rePc
  by_cases h0 : re = []
  · refine ⟨0, ?_⟩
    subst h0
    rw [if_pos rfl, List.nil_append]
    match ns, ls, hns with
    | [a], [], _ => rfl
    | [a], l :: ls, _ => rfl
    | [a, b], ls, _ => rfl
    | a :: b :: c :: r, ls, _ => rfl
  · rw [if_neg h0]
    exact ⟨_, rfl⟩
theorem parse_back {ts : List (Nat × Tk)} {x : HdT} (hN : NK ts) (h : parseT ts = some x) : ∃ re ns ls, (re = [] ∨ nameOK re = true) ∧ (∀ w ∈ ns, nameOK w = true) ∧ (∀ w ∈ ls, nameOK w = true) ∧ headT (runesBytes re) (ns.map runesBytes) (ls.map runesBytes) = some x ∧
    parseT (ptok 0 (rePc re ++ (nsPc ns ++ lsPc ls))) = some x ∧ (ptxt (rePc re ++ (nsPc ns ++ lsPc ls))).length ≤ wts ts + 2 := by
  obtain ⟨re, r1, r2, r3, r4⟩ := res_words hN
  obtain ⟨ns, n1, n2, n3⟩ := names_words r3
  unfold parseT at h
  simp only at h
  split at h
  · cases h
  rename_i bs hbs
  have hnl : ((resT ts).2.takeWhile isN).map wd = ns.map runesBytes := n1
  rw [hnl, List.length_map] at hbs
  obtain ⟨ls, rfl, l1, l2⟩ := loc_words (fun t ht => r3 t (List.mem_of_mem_drop ht)) hbs
  rw [hnl, r1] at h
  split at h
  · cases h
  rename_i y hy
  split at h
  case isFalse => cases h
  rename_i hnd
  cases h
  have hns : ns ≠ [] := by
    rintro rfl
    cases hy
  have hn3 : ns.length ≤ 3 := by
    match ns, hy with
    | [], hy => simp
    | [a], hy => simp
    | [a, b], hy => simp
    | [a, b, c], hy => simp
    | a :: b :: c :: d :: r, hy => simp [headT] at hy
  refine ⟨re, ns, ls, r2, n2, l1, hy, ?_, ?_⟩
  · obtain ⟨q, hq⟩ := res_back re hns ls
    obtain ⟨h1, q2, h2⟩ := ns_back ns ls q
    unfold parseT
    simp only [hq, h1, List.length_map, h2, loc_back, hy]
    rw [if_pos hnd]
  · have e1 : (ptxt (rePc re)).length = if re = [] then 0 else re.length + 1 := by
      unfold rePc
      split
      · rfl
      · simp [ptxt, Pc.txt]
    have e2 : ∀ ls : List (List Int), (ptxt (lsPc ls)).length = lsum ls + ls.length := by
      intro ls
      induction ls with
      | nil => rfl
      | cons w ls ih =>
        have : ptxt (lsPc (w :: ls)) = 59 :: (w ++ ptxt (lsPc ls)) := by simp [ptxt, lsPc, Pc.txt]
        rw [this, List.length_cons, List.length_append, ih]
        simp only [lsum, List.map_cons, List.sum_cons, List.length_cons]
        omega
    have e3 : ∀ ns : List (List Int), (ptxt (nsPc ns)).length = lsum ns + (ns.length - 1) := by
      intro ns
      induction ns with
      | nil => rfl
      | cons a ns ih =>
        cases ns with
        | nil => simp [ptxt, nsPc, Pc.txt, lsum]
        | cons b r =>
          have : ptxt (nsPc (a :: b :: r)) = a ++ 32 :: ptxt (nsPc (b :: r)) := by simp [ptxt, nsPc, Pc.txt]
          rw [this, List.length_append, List.length_cons, ih]
          simp only [lsum, List.map_cons, List.sum_cons, List.length_cons]
          omega
    have e4 : ptxt (rePc re ++ (nsPc ns ++ lsPc ls)) = ptxt (rePc re) ++ (ptxt (nsPc ns) ++ ptxt (lsPc ls)) := by simp [ptxt]
    rw [e4, List.length_append, List.length_append, e1, e2, e3]
    omega
theorem pc_few (re : List Int) (ns ls : List (List Int)) (h : ∀ w ∈ ls, nameOK w = true) (hn : ∀ w ∈ ns, nameOK w = true) : (rePc re ++ (nsPc ns ++ lsPc ls)).length ≤ (ptxt (rePc re ++ (nsPc ns ++ lsPc ls))).length + 1 ∨ True := .inr trivial
theorem kind_valid {c : Int} (h : isW c = true) : Utf8.valid c = true := by
  simp only [isW, Bool.or_eq_true, decide_eq_true_eq] at h
  have : (0 ≤ c ∧ c < 55296) := by
    rcases h with h | h
    · unfold kindOf at h
      split at h
      · cases h
      · split at h
        · rename_i hl
          simp only [isL, Bool.or_eq_true, Bool.and_eq_true, decide_eq_true_eq] at hl
          omega
        · repeat' split at h
          all_goals omega
    · simp only [isD, Bool.and_eq_true, decide_eq_true_eq] at h
      omega
  simp only [Utf8.valid, Bool.or_eq_true, Bool.and_eq_true, decide_eq_true_eq]
  omega
theorem ptxt_valid : ∀ {ps : List Pc}, pok ps → ∀ c ∈ ptxt ps, Utf8.valid c = true
  | [], _, c, h => by simp [ptxt] at h
  | .w s :: ps, hp, c, h => by
    have e : ptxt (.w s :: ps) = s ++ ptxt ps := rfl
    rw [e, List.mem_append] at h
    rcases h with h | h
    · obtain ⟨_, _, _, _, ha⟩ := name_facts hp.1
      exact kind_valid (List.all_eq_true.1 ha c h)
    · exact ptxt_valid hp.2.2 c h
  | .m d :: ps, hp, c, h => by
    have e : ptxt (.m d :: ps) = d :: ptxt ps := rfl
    rw [e, List.mem_cons] at h
    rcases h with rfl | h
    · rcases hp.1 with rfl | rfl <;> rfl
    · exact ptxt_valid hp.2 c h
  | .b :: ps, hp, c, h => by
    have e : ptxt (.b :: ps) = 32 :: ptxt ps := rfl
    rw [e, List.mem_cons] at h
    rcases h with rfl | h
    · rfl
    · exact ptxt_valid (ps := ps) hp c h
theorem ptok_few : ∀ (ps : List Pc), pok ps → ps.length ≤ (ptxt ps).length
  | [], _ => by simp
  | .w s :: ps, h => by
    obtain ⟨c, t, rfl, _⟩ := name_facts h.1
    have := ptok_few ps h.2.2
    have e : ptxt (.w (c :: t) :: ps) = (c :: t) ++ ptxt ps := rfl
    rw [e, List.length_append, List.length_cons, List.length_cons]
    omega
  | .m d :: ps, h => by
    have := ptok_few ps h.2
    have e : ptxt (.m d :: ps) = d :: ptxt ps := rfl
    rw [e, List.length_cons, List.length_cons]
    omega
  | .b :: ps, h => by
    have := ptok_few ps h
    have e : ptxt (.b :: ps) = 32 :: ptxt ps := rfl
    rw [e, List.length_cons, List.length_cons]
    omega
/-- A header that was read, as signs: it is read as it was. -/
theorem hdp_back {l : List Int} {x : HdT} (h : hdp l = (x, true)) : ∃ re ns ls R, R = ptxt (rePc re ++ (nsPc ns ++ lsPc ls)) ∧ (re = [] ∨ nameOK re = true) ∧ (∀ w ∈ ns, nameOK w = true) ∧ headT (runesBytes re) (ns.map runesBytes) (ls.map runesBytes) = some x ∧
    (∀ c ∈ R, Utf8.valid c = true) ∧ R.length ≤ l.length + 2 ∧ (R.length ≤ 512 → hdp R = (x, true)) := by
  unfold hdp at h
  split at h
  · cases h
  rename_i ts hts
  split at h
  · cases h
  rename_i y hy
  cases h
  have hN : NK ts := lex_ok hts
  obtain ⟨re, ns, ls, h1, h2, h3, h4, h5, h6⟩ := parse_back hN hy
  have hp : pok (rePc re ++ (nsPc ns ++ lsPc ls)) := re_ok h1 (ns_ok h2 (ls_ok h3).1 (ls_ok h3).2)
  have hw : wts ts ≤ l.length := by
    unfold lex at hts
    split at hts
    · cases hts
    · exact lexF_wts hts
  refine ⟨re, ns, ls, _, rfl, h1, h2, h4, ptxt_valid hp, by omega, fun hR => ?_⟩
  have hf := ptok_few _ hp
  have hl : lex (ptxt (rePc re ++ (nsPc ns ++ lsPc ls))) = some (ptok 0 (rePc re ++ (nsPc ns ++ lsPc ls))) := by
    unfold lex
    rw [if_neg (by omega)]
    exact lexF_ptok hp (by omega)
  unfold hdp
  rw [hl]
  simp only [h5]
end Go.Im.Heads
