/- Proved here: arrays that are made of a number, of numbers, of a character, of a text; the lexer's tokens are put down; of every line of up to 512 signs. -/
import Derived.Test.YtjlaenglmdpboaaGreatQN17
set_option linter.unusedSimpArgs false
set_option linter.unusedVariables false
namespace Go.Im
theorem Does.ext {K : Cfg} (hK : CfgOK K) {h0 h : Heap} (x : Ext h0 h) {f : FuncId} {args : Array Value} {Q : Value → Heap → Prop} (H : Does K h0.size f args h Q) : Does K h0.size f args h fun v h' => Ext h0 h' ∧ Q v h' := by
  obtain ⟨n, v, h', hi, hq⟩ := H
  obtain ⟨k1, k2⟩ := (sound hK n).2.keeps x.1 hi
  exact ⟨n, v, h', hi, ⟨Nat.le_trans x.1 k1, fun b hb => (k2 b hb).trans (x.2 b hb)⟩, hq⟩
theorem Own.keep {low low' : Nat} (hl : low ≤ low') {h w : Heap} {size n : Nat} {v : Value} {xs : List Value} (H : Own low' h size v n xs) (hk : ∀ b, b < h.size → vblk v = some b → w.get b = h.get b ∧ b < w.size) : Own low w size v n xs := by
  rcases H with h1 | ⟨b, rfl, h2, h3, h4, h5⟩
  · exact .inl h1
  · have := hk b h3 rfl
    exact .inr ⟨b, rfl, by omega, this.2, by rw [this.1]; exact h4, h5⟩
theorem Own.shape {low : Nat} {h : Heap} {size n : Nat} {v : Value} {xs : List Value} (H : Own low h size v n xs) : ∃ a c, v = .slice a n c := by
  rcases H with ⟨rfl, rfl, _⟩ | ⟨b, rfl, _⟩
  · exact ⟨_, _, rfl⟩
  · exact ⟨_, _, rfl⟩
theorem Own.isl {low : Nat} {h : Heap} {size n : Nat} {v : Value} {xs : List Value} (H : Own low h size v n xs) : islice h size v = some xs := by
  rcases H with ⟨rfl, rfl, rfl⟩ | ⟨b, rfl, _, h3, h4, h5⟩
  · rfl
  · simp only [islice, Heap.look, h4, Blk.read]
    rw [if_pos ⟨trivial, by omega⟩, List.drop_zero, List.take_of_length_le (by omega)]
theorem Own.sl {low : Nat} {h : Heap} {size n : Nat} {a : Option Addr} {c : Nat} {xs : List Value} (H : Own low h size (.slice a n c) n xs) : Sl h size a n c xs := by
  rcases H with ⟨h1, h2, rfl⟩ | ⟨b, h1, h2, h3, h4, h5⟩
  · cases h1
    exact .inl ⟨rfl, rfl, rfl, rfl⟩
  · cases h1
    exact .inr (.inr ⟨b, 0, xs, rfl, by simp [big], h3, by rw [h4]; rfl, by omega, by rw [List.drop_zero, List.take_of_length_le (by omega)], .inr rfl⟩)
/-- A copy: an empty slice of one's own, and elements behind it. -/
theorem app0 {low : Nat} {h : Heap} {size bytes b k : Nat} {new : List Value} (hg : h.get b = .cells [] size) (hs : 0 < size) (hbb : b < h.size) (hn : new.length = k * size) (hb : 2 * k * bytes ≤ 140737488355328) (hc : k ≤ 4611686018427387904) :
    ∃ a c w, iapp low h size bytes (.slice (some ⟨b, 0, none⟩) 0 0) k (some new) = some (.slice a k c, w) ∧ Ext h w ∧ ((k = 0 ∧ a = some ⟨b, 0, none⟩ ∧ c = 0 ∧ w = h) ∨ (0 < k ∧ a = some ⟨h.size, 0, none⟩ ∧ c = big ∧ w = h.push (.cells new size))) ∧ Sl w size a k c new := by
  by_cases h0 : k = 0
  · subst h0
    refine ⟨_, _, h, ?_, Ext.refl h, .inl ⟨rfl, rfl, rfl, rfl⟩, .inr (.inl ⟨b, 0, rfl, rfl, rfl, List.eq_nil_of_length_eq_zero (by omega)⟩)⟩
    simp only [iapp, Nat.zero_add]
    rw [if_neg (by omega), if_pos trivial]
  · refine ⟨_, _, _, ?_, (Ext.refl h).push _, .inr ⟨by omega, rfl, rfl, rfl⟩, .inr (.inr ⟨h.size, 0, new, rfl, by simp [big], by simp, by rw [Heap.get_push, if_pos rfl]; rfl, by omega, by rw [List.drop_zero, List.take_of_length_le (by omega)], .inr rfl⟩)⟩
    simp only [iapp, Nat.zero_add]
    rw [if_neg (by omega), if_neg h0]
    simp only [iput, hg, Nat.zero_mul, List.length_nil, Nat.zero_add]
    rw [if_neg (by simp), if_pos (by simp [big]), if_neg (by omega)]
    simp
end Go.Im
namespace Go.Proofs.YtjlaenglmdpboaaGreat.N18
open Go Go.Im Go.Im.Limbs Go.Im.Lexing Go.Proofs Go.RowKit Go.Proofs.YtjlaenglmdpboaaGreat.Hd Go.Proofs.YtjlaenglmdpboaaGreat.N1 Go.Proofs.YtjlaenglmdpboaaGreat.N10 Go.Proofs.YtjlaenglmdpboaaGreat.N11 Go.Proofs.YtjlaenglmdpboaaGreat.N12 Go.Proofs.YtjlaenglmdpboaaGreat.N13 Go.Proofs.YtjlaenglmdpboaaGreat.N14 Go.Proofs.YtjlaenglmdpboaaGreat.N15 Go.Proofs.YtjlaenglmdpboaaGreat.N16 Go.Proofs.YtjlaenglmdpboaaGreat.N17
set_option maxRecDepth 100000
set_option linter.unusedSimpArgs false
set_option linter.unusedVariables false

/-- The cells of an array. -/
def Arr5 (l : List Value) : Prop := ∃ a n c b a2 n2 c2 a3 n3 c3 m, l = [.slice a n c, .bool b, .slice a2 n2 c2, .slice a3 n3 c3, .bool m]

theorem num_run (h : Heap) {v : Value} {m : Nat} {s : Bool} {d : Nat} (hv : RatV h v m s d) : Runs K f_array_Num #[v] h fun r _ => ∃ l, r = .agg l.toArray ∧ Arr5 l := by
  obtain ⟨p, q, rfl, hp, hq⟩ := hv
  obtain ⟨a, n, c, rfl⟩ := natv_slice hp
  obtain ⟨a', n', c', rfl⟩ := natv_slice hq
  refine Runs.of Kok (Does.intro rfl (by decide +kernel) F_array_Num rfl ?_)
  simp +decide only [go_sem, W_region, Wx_some, Nat.reduceAdd, Nat.reduceMul, Nat.reduceEqDiff, Int.reduceAdd, Int.reduceSub, Int.reduceMul, Int.reduceNeg, Int.reduceToNat]
  exact ⟨_, rfl, _, _, _, _, _, _, _, _, _, _, _, rfl⟩
theorem char_run (c : Int) (h : Heap) : Runs K f_array_Char #[.int .i32 c] h fun r _ => ∃ l, r = .agg l.toArray ∧ Arr5 l := by
  refine Runs.of Kok (Does.intro rfl (by decide +kernel) F_array_Char rfl ?_)
  simp +decide only [go_sem, W_region, Wx_some, Nat.reduceAdd, Nat.reduceMul, Nat.reduceEqDiff, Int.reduceAdd, Int.reduceSub, Int.reduceMul, Int.reduceNeg, Int.reduceToNat]
  exact ⟨_, rfl, _, _, _, _, _, _, _, _, _, _, _, rfl⟩
theorem clone_int (h : Heap) {a : Option Addr} {n c : Nat} {xs : List Value} (s : Sl h 1 a n c xs) (hn : n ≤ 1000000) : Runs K f_slices_Clone_int_int #[.slice a n c] h fun r _ => ∃ a' n' c', r = .slice a' n' c' := by
  refine Runs.of Kok (Does.intro rfl (by decide +kernel) F_slices_Clone_int_int rfl ?_)
  cases a with
  | none =>
    simp +decide only [go_sem, W_region, Wx_some, Nat.reduceAdd, Nat.reduceMul, Nat.reduceEqDiff, Int.reduceAdd, Int.reduceSub, Int.reduceMul, Int.reduceNeg, Int.reduceToNat]
    exact ⟨_, _, _, rfl⟩
  | some ad =>
    obtain ⟨w1, e1, x1, hs1, g1⟩ := lay1 h (.cells [] 1)
    obtain ⟨a2, c2, w2, e2, x2, _⟩ := app0 (low := h.size) (bytes := 8) (new := xs) (k := n) g1 (by omega) (by omega) (by have := s.length; omega) (by omega) (by omega)
    have hi := (s.ext x1).isl
    obtain ⟨b, o, rfl⟩ : ∃ b o, ad = ⟨b, o, none⟩ := by
      rcases s with ⟨h1, _⟩ | ⟨b, o, h1, _⟩ | ⟨b, o, _, h1, _⟩
      · cases h1
      · cases h1; exact ⟨b, o, rfl⟩
      · cases h1; exact ⟨b, o, rfl⟩
    rw [islice_at] at hi
    simp +decide only [go_sem, W_region, Wx_some, Nat.reduceAdd, Nat.reduceMul, Nat.reduceEqDiff, Int.reduceAdd, Int.reduceSub, Int.reduceMul, Int.reduceNeg, Int.reduceToNat, e1, hi, e2]
    exact ⟨_, _, _, rfl⟩
theorem clone_rat (h : Heap) {a : Option Addr} {n c : Nat} {xs : List Value} (s : Sl h 3 a n c xs) (hn : n ≤ 1000000) : Runs K f_slices_Clone_ratio_Rat_ratio_Rat #[.slice a n c] h fun r _ => ∃ a' n' c', r = .slice a' n' c' := by
  refine Runs.of Kok (Does.intro rfl (by decide +kernel) F_slices_Clone_ratio_Rat_ratio_Rat rfl ?_)
  cases a with
  | none =>
    simp +decide only [go_sem, W_region, Wx_some, Nat.reduceAdd, Nat.reduceMul, Nat.reduceEqDiff, Int.reduceAdd, Int.reduceSub, Int.reduceMul, Int.reduceNeg, Int.reduceToNat]
    exact ⟨_, _, _, rfl⟩
  | some ad =>
    obtain ⟨w1, e1, x1, hs1, g1⟩ := lay1 h (.cells [] 3)
    obtain ⟨a2, c2, w2, e2, x2, _⟩ := app0 (low := h.size) (bytes := 56) (new := xs) (k := n) g1 (by omega) (by omega) (by have := s.length; omega) (by omega) (by omega)
    have hi := (s.ext x1).isl
    obtain ⟨b, o, rfl⟩ : ∃ b o, ad = ⟨b, o, none⟩ := by
      rcases s with ⟨h1, _⟩ | ⟨b, o, h1, _⟩ | ⟨b, o, _, h1, _⟩
      · cases h1
      · cases h1; exact ⟨b, o, rfl⟩
      · cases h1; exact ⟨b, o, rfl⟩
    rw [islice_at] at hi
    simp +decide only [go_sem, W_region, Wx_some, Nat.reduceAdd, Nat.reduceMul, Nat.reduceEqDiff, Int.reduceAdd, Int.reduceSub, Int.reduceMul, Int.reduceNeg, Int.reduceToNat, e1, hi, e2]
    exact ⟨_, _, _, rfl⟩
theorem clone_rune (h : Heap) {a : Option Addr} {n c : Nat} {xs : List Value} (s : Sl h 1 a n c xs) (hn : n ≤ 1000000) : Runs K f_slices_Clone_rune_rune #[.slice a n c] h fun r _ => ∃ a' n' c', r = .slice a' n' c' := by
  refine Runs.of Kok (Does.intro rfl (by decide +kernel) F_slices_Clone_rune_rune rfl ?_)
  cases a with
  | none =>
    simp +decide only [go_sem, W_region, Wx_some, Nat.reduceAdd, Nat.reduceMul, Nat.reduceEqDiff, Int.reduceAdd, Int.reduceSub, Int.reduceMul, Int.reduceNeg, Int.reduceToNat]
    exact ⟨_, _, _, rfl⟩
  | some ad =>
    obtain ⟨w1, e1, x1, hs1, g1⟩ := lay1 h (.cells [] 1)
    obtain ⟨a2, c2, w2, e2, x2, _⟩ := app0 (low := h.size) (bytes := 4) (new := xs) (k := n) g1 (by omega) (by omega) (by have := s.length; omega) (by omega) (by omega)
    have hi := (s.ext x1).isl
    obtain ⟨b, o, rfl⟩ : ∃ b o, ad = ⟨b, o, none⟩ := by
      rcases s with ⟨h1, _⟩ | ⟨b, o, h1, _⟩ | ⟨b, o, _, h1, _⟩
      · cases h1
      · cases h1; exact ⟨b, o, rfl⟩
      · cases h1; exact ⟨b, o, rfl⟩
    rw [islice_at] at hi
    simp +decide only [go_sem, W_region, Wx_some, Nat.reduceAdd, Nat.reduceMul, Nat.reduceEqDiff, Int.reduceAdd, Int.reduceSub, Int.reduceMul, Int.reduceNeg, Int.reduceToNat, e1, hi, e2]
    exact ⟨_, _, _, rfl⟩

theorem text_arr (h : Heap) {a : Option Addr} {n c : Nat} {xs : List Value} (s : Sl h 1 a n c xs) (hn : n ≤ 1000000) : Runs K f_array_Text #[.slice a n c] h fun r _ => ∃ l, r = .agg l.toArray ∧ Arr5 l := by
  refine Runs.of Kok (Does.intro rfl (by decide +kernel) F_array_Text rfl ?_)
  obtain ⟨w1, e1, x1, hs1, g1⟩ := lay2 h (.cells [.slice none 0 0, .bool false, .slice none 0 0, .slice none 0 0, .bool false] 5) (.cells [.int .i64 (n : Int)] 1)
  simp +decide only [go_sem, W_region, Wx_some, Nat.reduceAdd, Nat.reduceMul, Nat.reduceEqDiff, Int.reduceAdd, Int.reduceSub, Int.reduceMul, Int.reduceNeg, Int.reduceToNat, e1]
  refine W_call Kok x1.1 (clone_rune w1 (s.ext x1) hn) fun r w2 x2 hr => ?_
  obtain ⟨a', n', c', rfl⟩ := hr
  have g2 : w2.get h.size = _ := (x2.2 _ (by omega)).trans g1.1
  simp +decide only [go_sem, W_region, Wx_some, Nat.reduceAdd, Nat.reduceMul, Nat.reduceEqDiff, Int.reduceAdd, Int.reduceSub, Int.reduceMul, Int.reduceNeg, Int.reduceToNat, g2]
  exact ⟨_, rfl, _, _, _, _, _, _, _, _, _, _, _, rfl⟩
theorem count_one (n : Nat) (h : Heap) {b : Nat} (hg : h.get b = .cells [.int .i64 (n : Int)] 1) (h0 : 0 < n) (hn : n ≤ 4096) : Runs K f_array_Count #[.slice (some ⟨b, 0, none⟩) 1 1] h fun r _ => r = .tuple #[.int .i64 (n : Int), .bool true] := by
  refine Runs.of Kok (Does.intro rfl (by decide +kernel) F_array_Count rfl ?_)
  have q1 : ¬ (n : Int) < 0 := by omega
  have q2 : IntKind.i64.wrap ((4096 : Int).tdiv 1) = 4096 := rfl
  have q3 : ¬ (4096 : Int) < (n : Int) := by omega
  have q4 : ¬ (n : Int) = 0 := by omega
  have q5 : max (1 : Int) (n : Int) = (n : Int) := by omega
  have q6 : IntKind.i64.wrap (1 * (n : Int)) = (n : Int) := by rw [wrap_i64 (by omega) (by omega)]; omega
  have q7 : IntKind.i64.wrap (0 + 1) = 1 := rfl
  simp +decide only [go_sem, W_region, Wx_some, Nat.reduceAdd, Nat.reduceMul, Nat.reduceEqDiff, Int.reduceAdd, Int.reduceSub, Int.reduceMul, Int.reduceNeg, Int.reduceToNat]
  rw [W_round]
  simp +decide only [go_sem, W_region, Wx_some, Nat.reduceAdd, Nat.reduceMul, Nat.reduceEqDiff, Int.reduceAdd, Int.reduceSub, Int.reduceMul, Int.reduceNeg, Int.reduceToNat, hg, q1, ibinop_quo (show (1 : Int) ≠ 0 by omega), q2, q3, q4, q5, q6, q7]
  rw [W_round]
  simp +decide only [go_sem, W_region, Wx_some, Nat.reduceAdd, Nat.reduceMul, Nat.reduceEqDiff, Int.reduceAdd, Int.reduceSub, Int.reduceMul, Int.reduceNeg, Int.reduceToNat, hg]
theorem nums_run (h : Heap) {b n : Nat} {v : Value} {xs : List Value} (hg : h.get b = .cells [.int .i64 (n : Int)] 1) (hb : b < h.size) (h0 : 0 < n) (hn : n ≤ 4096) {a : Option Addr} {c : Nat} (s : Sl h 3 a n c xs) :
    Runs K f_array_Nums #[.slice (some ⟨b, 0, none⟩) 1 1, .slice a n c] h fun r _ => ∃ l m, r = .tuple #[.agg l.toArray, .bool m] ∧ Arr5 l := by
  refine Runs.of Kok (Does.intro rfl (by decide +kernel) F_array_Nums rfl ?_)
  obtain ⟨w1, e1, x1, hs1, g1⟩ := lay1 h (.cells [.slice none 0 0, .bool false, .slice none 0 0, .slice none 0 0, .bool false] 5)
  have hg1 : w1.get b = _ := (x1.2 _ hb).trans hg
  simp +decide only [go_sem, W_region, Wx_some, Nat.reduceAdd, Nat.reduceMul, Nat.reduceEqDiff, Int.reduceAdd, Int.reduceSub, Int.reduceMul, Int.reduceNeg, Int.reduceToNat, e1]
  refine W_call Kok x1.1 (count_one n w1 hg1 h0 hn) fun r w2 x2 hr => ?_
  subst hr
  have hg2 : w2.get b = _ := (x2.2 _ (by omega)).trans hg1
  have x12 := x1.trans x2
  simp +decide only [go_sem, W_region, Wx_some, Nat.reduceAdd, Nat.reduceMul, Nat.reduceEqDiff, Int.reduceAdd, Int.reduceSub, Int.reduceMul, Int.reduceNeg, Int.reduceToNat]
  refine W_call Kok x12.1 (clone_int w2 (xs := [.int .i64 (n : Int)]) (.inr (.inr ⟨b, 0, _, rfl, by omega, by have := x12.1; omega, by rw [hg2]; rfl, by simp, rfl, .inl ⟨Nat.le_refl _, by simp [big]⟩⟩)) (by omega)) fun r w3 x3 hr => ?_
  obtain ⟨a1, n1, c1, rfl⟩ := hr
  have x13 := x12.trans x3
  simp +decide only [go_sem, W_region, Wx_some, Nat.reduceAdd, Nat.reduceMul, Nat.reduceEqDiff, Int.reduceAdd, Int.reduceSub, Int.reduceMul, Int.reduceNeg, Int.reduceToNat]
  refine W_call Kok x13.1 (clone_rat w3 (s.ext x13) (by omega)) fun r w4 x4 hr => ?_
  obtain ⟨a2, n2, c2, rfl⟩ := hr
  have g4 : w4.get h.size = _ := ((x2.trans (x3.trans x4)).2 _ (by omega)).trans g1
  simp +decide only [go_sem, W_region, Wx_some, Nat.reduceAdd, Nat.reduceMul, Nat.reduceEqDiff, Int.reduceAdd, Int.reduceSub, Int.reduceMul, Int.reduceNeg, Int.reduceToNat, g4]
  exact ⟨_, _, rfl, _, _, _, _, _, _, _, _, _, _, _, rfl⟩
end Go.Proofs.YtjlaenglmdpboaaGreat.N18
