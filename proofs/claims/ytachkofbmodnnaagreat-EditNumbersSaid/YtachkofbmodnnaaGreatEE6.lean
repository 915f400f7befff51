/- Proved here: how a line's number is written, in the program and in the document; EditNumbers answers true at every number and line. -/
import Derived.Test.YtachkofbmodnnaaGreatEE5
set_option linter.unusedSimpArgs false
set_option linter.unusedVariables false
namespace Go.Im
open Go.Im.Editing
/-- An append to a slice that is full, of blocks newer than h. -/
theorem app_view {low : Nat} {h w : Heap} (hlow : low ≤ h.size) (x : Ext h w) {b o n c k size bytes : Nat} {cs new : List Value} (hb : h.size ≤ b) (hbw : b < w.size) (hg : w.get b = .cells cs size) (ho : o + n * size = cs.length) (hcap : (c = n ∧ c < big) ∨ c = big)
    (hs : 0 < size) (hk : 0 < k) (hn : new.length = k * size) (hbt : 2 * (n + k) * bytes ≤ 140737488355328) (hc : n + k ≤ 4611686018427387904) :
    ∃ w', iapp low w size bytes (.slice (some ⟨b, o, none⟩) n c) k (some new) = some (.slice (some ⟨w.size, 0, none⟩) (n + k) big, w') ∧ Own h.size w' size (.slice (some ⟨w.size, 0, none⟩) (n + k) big) (n + k) (cs.drop o ++ new) ∧ w'.size = w.size + 1 ∧ Ext h w' := by
  have ht : (cs.drop o).take (n * size) = cs.drop o := List.take_of_length_le (by simp; omega)
  have hlen : (cs.drop o ++ new).length = (n + k) * size := by simp [hn, Nat.add_mul]; omega
  have hpos : 0 < k * size := Nat.mul_pos hk hs
  rcases hcap with ⟨rfl, hcb⟩ | rfl
  · refine ⟨w.push (.cells (cs.drop o ++ new) size), ?_, .inr ⟨w.size, rfl, x.1, by simp, by rw [Heap.get_push, if_pos rfl], hlen⟩, rfl, x.push _⟩
    simp only [iapp]
    rw [if_neg (by omega), if_neg (by omega)]
    simp only [iput, hg]
    rw [if_neg (by simp; omega), if_pos hcb, if_neg (by omega), ht]
  · obtain ⟨w1, e1, x1, hs1, g1, k1⟩ := put1 x hb Blk.dead
    refine ⟨w1.push (.cells (cs.drop o ++ new) size), ?_, .inr ⟨w.size, rfl, x.1, by simp; omega, by rw [Heap.get_push, if_pos hs1.symm], hlen⟩, by simp [hs1], x1.push _⟩
    simp only [iapp]
    rw [if_neg (by omega), if_neg (by omega)]
    simp only [iput, hg]
    rw [if_neg (by simp; omega), if_neg (Nat.lt_irrefl _), if_pos ⟨trivial, by omega⟩, if_neg (by rw [Nat.add_mul]; omega), ht, e1]
theorem isame_ok {P : Program} {low : Nat} {h : Heap} {t e : TypeId} (hu : P.underlying t = some (.slice e)) (he : P.underlying e = some (.int .u8)) {b o n c : Nat} {cs : List Value} {esz : Nat} (hg : h.get b = .cells cs esz) (hl : low ≤ b) (hn : 0 < n) :
    isame P low h t (some ⟨b, o, none⟩) n c = some (.slice (some ⟨b, o, none⟩) n c, h.set b (.cells cs esz)) := by
  simp only [isame, hu, he, hg]
  rw [if_pos ⟨hl, hn⟩]
theorem irsl_tail {w : Heap} {b m : Nat} {cs : List Value} (hg : w.get b = .cells cs 1) (hm : cs.length = m) (h1 : 1 ≤ m) : irsl (some (.slice 1)) w (some ⟨b, 0, none⟩) m big (some (.int .i64 1)) none none = some (.slice (some ⟨b, 1, none⟩) (m - 1) big) := by
  have hin : iinds m ((cs.length - 0) / 1) (some (.int .i64 1)) none none = some (1, m, (cs.length - 0) / 1) := iinds_of rfl rfl h1 (by simp; omega)
  simp only [irsl, Heap.look, hg, Blk.read, Nat.lt_irrefl, if_false, if_true, hin, ne_eq, not_true_eq_false, Nat.zero_add, Nat.one_mul]
theorem o48 {d : Nat} (h : d ≤ 9) : (UInt8.ofNat (48 + d)).toNat = 48 + d := by
  have e : 48 + d < 256 := by omega
  rw [UInt8.toNat_ofNat_of_lt' (by simpa using e)]
theorem bc1 {d : Nat} (h : d ≤ 9) : byteCells [UInt8.ofNat (48 + d)] = [.int .u8 ((48 + d : Nat) : Int)] := by simp only [byteCells, List.map_cons, List.map_nil, o48 h]
end Go.Im
namespace Go.Im.Editing
theorem rdF_len : ∀ {f n : Nat}, (rdF f n).length ≤ f
  | 0, n => by simp [rdF]
  | f + 1, n => by
    rw [rdF]
    split
    · simp
    · rw [List.length_cons]
      have := rdF_len (f := f) (n := n / 10)
      omega
theorem rdF_lt : ∀ {f n : Nat}, n < 10 ^ f → ∀ {k}, n < 10 ^ k → (rdF f n).length ≤ k
  | 0, n, h, k, _ => by simp [rdF]
  | f + 1, n, h, 0, hk => by
    have : n = 0 := by simpa using hk
    subst this
    simp [rdF]
  | f + 1, n, h, k + 1, hk => by
    rw [rdF]
    split
    · simp
    · rw [List.length_cons]
      have := rdF_lt (f := f) (n := n / 10) (by rw [Nat.pow_succ] at h; omega) (k := k) (by rw [Nat.pow_succ] at hk; omega)
      omega
theorem rdF_step {f n : Nat} (h : n ≠ 0) (hn : n < 10 ^ (f + 1)) : rdF (f + 1) n = UInt8.ofNat (48 + n % 10) :: rdF (f + 1) (n / 10) := by
  rw [rdF, if_neg h]
  congr 1
  exact (rdF_more (by rw [Nat.pow_succ] at hn; omega) (by omega)).symm
theorem rdF_zero {f : Nat} : rdF f 0 = [] := by cases f <;> simp [rdF]
theorem frF_zero {f p : Nat} : frF f 0 p = [] := by cases f <;> simp [frF]
theorem frF_step {f r p : Nat} (h : r ≠ 0) : frF (f + 1) r p = UInt8.ofNat (48 + r / p) :: frF f (r % p) (p / 10) := by rw [frF, if_neg h]
end Go.Im.Editing
namespace Go.Proofs.YtachkofbmodnnaaGreat.E6
open Go Go.Im Go.Im.Lexing Go.Im.Editing Go.Proofs Go.RowKit Go.Proofs.YtachkofbmodnnaaGreat.Hd Go.Proofs.YtachkofbmodnnaaGreat.E2 Go.Proofs.YtachkofbmodnnaaGreat.E5
set_option maxRecDepth 100000

theorem wq {n p : Nat} (hn : n ≤ 10000000) (hp : 0 < p) : IntKind.i64.wrap (((n : Nat) : Int).tdiv ((p : Nat) : Int)) = ((n / p : Nat) : Int) := by
  have : ((n : Nat) : Int).tdiv ((p : Nat) : Int) = ((n / p : Nat) : Int) := by rw [Int.tdiv_eq_ediv_of_nonneg (by omega)]; simp
  have h2 : n / p ≤ n := Nat.div_le_self _ _
  rw [this]
  generalize n / p = q at h2 ⊢
  rw [wrap_i64 (by omega) (by omega)]
theorem wr {n p : Nat} : ((n : Nat) : Int).tmod ((p : Nat) : Int) = ((n % p : Nat) : Int) := by rw [Int.tmod_eq_emod_of_nonneg (by omega)]; simp
theorem w48 {d : Nat} (h : d ≤ 9) : IntKind.i64.wrap (48 + ((d : Nat) : Int)) = ((48 + d : Nat) : Int) ∧ IntKind.u8.wrap ((48 + d : Nat) : Int) = ((48 + d : Nat) : Int) := by
  refine ⟨?_, ?_⟩
  · rw [wrap_i64 (by omega) (by omega)]; omega
  · rw [wrap_u8 (by omega) (by omega)]

/-- A few bytes turned round, in their own block. -/
theorem rev_does {low b : Nat} {h : Heap} {x0 : UInt8} {S : List UInt8} {c : Nat} (hl : low ≤ b) (hb : b < h.size) (hg : h.get b = .cells (byteCells (x0 :: S)) 1) (h1 : 1 ≤ S.length) (h3 : S.length ≤ 3) :
    Does K low f_slices_Reverse_byte_byte #[.slice (some ⟨b, 1, none⟩) S.length c] h fun r w => w.get b = .cells (byteCells (x0 :: S.reverse)) 1 ∧ w.size = h.size ∧ ∀ d, d ≠ b → w.get d = h.get d := by
  refine Does.intro rfl (by decide +kernel) F_slices_Reverse_byte_byte rfl ?_
  match S, h1, h3 with
  | [x], _, _ =>
    simp (decide := true) only [go_sem, W_region, Wx_some, Nat.reduceAdd, Nat.reduceMul, Nat.reduceEqDiff, Int.reduceAdd, Int.reduceSub, Int.reduceMul, Int.reduceNeg, Int.reduceToNat, List.length_cons, List.length_nil, show IntKind.i64.wrap (((1 : Nat) : Int) - 1) = 0 from rfl]
    rw [W_round]
    simp (decide := true) only [go_sem, W_region, Wx_some, Nat.reduceAdd, Nat.reduceMul, Nat.reduceEqDiff, Int.reduceAdd, Int.reduceSub, Int.reduceMul, Int.reduceNeg, Int.reduceToNat, List.length_cons, List.length_nil, show IntKind.i64.wrap (((1 : Nat) : Int) - 1) = 0 from rfl]
    simpa using hg
  | [x, y], _, _ =>
    simp only [byteCells, List.map_cons, List.map_nil] at hg
    obtain ⟨w1, e1, _, hs1, z1, k1⟩ := put1 (⟨Nat.zero_le _, fun _ hh => absurd hh (Nat.not_lt_zero _)⟩ : Ext ⟨0, .leaf⟩ h) (Nat.zero_le b) (.cells [.int .u8 x0.toNat, .int .u8 y.toNat, .int .u8 y.toNat] 1)
    obtain ⟨w2, e2, _, hs2, z2, k2⟩ := put1 (⟨Nat.zero_le _, fun _ hh => absurd hh (Nat.not_lt_zero _)⟩ : Ext ⟨0, .leaf⟩ w1) (Nat.zero_le b) (.cells [.int .u8 x0.toNat, .int .u8 y.toNat, .int .u8 x.toNat] 1)
    simp (decide := true) only [go_sem, W_region, Wx_some, Nat.reduceAdd, Nat.reduceMul, Nat.reduceEqDiff, Int.reduceAdd, Int.reduceSub, Int.reduceMul, Int.reduceNeg, Int.reduceToNat, List.length_cons, List.length_nil, show IntKind.i64.wrap (((2 : Nat) : Int) - 1) = 1 from rfl, show IntKind.i64.wrap ((0 : Int) + 1) = 1 from rfl, show IntKind.i64.wrap ((1 : Int) - 1) = 0 from rfl, show Int.toNat 0 = 0 from rfl, show Int.toNat 1 = 1 from rfl, show Int.toNat 2 = 2 from rfl]
    rw [W_round]
    simp (decide := true) only [go_sem, W_region, Wx_some, Nat.reduceAdd, Nat.reduceMul, Nat.reduceEqDiff, Int.reduceAdd, Int.reduceSub, Int.reduceMul, Int.reduceNeg, Int.reduceToNat, List.length_cons, List.length_nil, show IntKind.i64.wrap (((2 : Nat) : Int) - 1) = 1 from rfl, show IntKind.i64.wrap ((0 : Int) + 1) = 1 from rfl, show IntKind.i64.wrap ((1 : Int) - 1) = 0 from rfl, show Int.toNat 0 = 0 from rfl, show Int.toNat 1 = 1 from rfl, show Int.toNat 2 = 2 from rfl, hg, hl, e1, z1, e2]
    rw [W_round]
    simp (decide := true) only [go_sem, W_region, Wx_some, Nat.reduceAdd, Nat.reduceMul, Nat.reduceEqDiff, Int.reduceAdd, Int.reduceSub, Int.reduceMul, Int.reduceNeg, Int.reduceToNat]
    exact ⟨by rw [z2]; simp [byteCells], by omega, fun d hd => by rw [k2 d hd, k1 d hd]⟩
  | [x, y, z], _, _ =>
    simp only [byteCells, List.map_cons, List.map_nil] at hg
    obtain ⟨w1, e1, _, hs1, z1, k1⟩ := put1 (⟨Nat.zero_le _, fun _ hh => absurd hh (Nat.not_lt_zero _)⟩ : Ext ⟨0, .leaf⟩ h) (Nat.zero_le b) (.cells [.int .u8 x0.toNat, .int .u8 z.toNat, .int .u8 y.toNat, .int .u8 z.toNat] 1)
    obtain ⟨w2, e2, _, hs2, z2, k2⟩ := put1 (⟨Nat.zero_le _, fun _ hh => absurd hh (Nat.not_lt_zero _)⟩ : Ext ⟨0, .leaf⟩ w1) (Nat.zero_le b) (.cells [.int .u8 x0.toNat, .int .u8 z.toNat, .int .u8 y.toNat, .int .u8 x.toNat] 1)
    simp (decide := true) only [go_sem, W_region, Wx_some, Nat.reduceAdd, Nat.reduceMul, Nat.reduceEqDiff, Int.reduceAdd, Int.reduceSub, Int.reduceMul, Int.reduceNeg, Int.reduceToNat, List.length_cons, List.length_nil, show IntKind.i64.wrap (((3 : Nat) : Int) - 1) = 2 from rfl, show IntKind.i64.wrap ((0 : Int) + 1) = 1 from rfl, show IntKind.i64.wrap ((2 : Int) - 1) = 1 from rfl, show Int.toNat 0 = 0 from rfl, show Int.toNat 1 = 1 from rfl, show Int.toNat 2 = 2 from rfl]
    rw [W_round]
    simp (decide := true) only [go_sem, W_region, Wx_some, Nat.reduceAdd, Nat.reduceMul, Nat.reduceEqDiff, Int.reduceAdd, Int.reduceSub, Int.reduceMul, Int.reduceNeg, Int.reduceToNat, List.length_cons, List.length_nil, show IntKind.i64.wrap (((3 : Nat) : Int) - 1) = 2 from rfl, show IntKind.i64.wrap ((0 : Int) + 1) = 1 from rfl, show IntKind.i64.wrap ((2 : Int) - 1) = 1 from rfl, show Int.toNat 0 = 0 from rfl, show Int.toNat 1 = 1 from rfl, show Int.toNat 2 = 2 from rfl, hg, hl, e1, z1, e2]
    rw [W_round]
    simp (decide := true) only [go_sem, W_region, Wx_some, Nat.reduceAdd, Nat.reduceMul, Nat.reduceEqDiff, Int.reduceAdd, Int.reduceSub, Int.reduceMul, Int.reduceNeg, Int.reduceToNat]
    exact ⟨by rw [z2]; simp [byteCells], by omega, fun d hd => by rw [k2 d hd, k1 d hd]⟩
theorem rev_one {low b : Nat} {h : Heap} {c : Nat} : Does K low f_slices_Reverse_byte_byte #[.slice (some ⟨b, 0, none⟩) 1 c] h fun r w => h = w := by
  refine Does.intro rfl (by decide +kernel) F_slices_Reverse_byte_byte rfl ?_
  simp (decide := true) only [go_sem, W_region, Wx_some, Nat.reduceAdd, Nat.reduceMul, Nat.reduceEqDiff, Int.reduceAdd, Int.reduceSub, Int.reduceMul, Int.reduceNeg, Int.reduceToNat]
  rw [W_round]
  simp (decide := true) only [go_sem, W_region, Wx_some, Nat.reduceAdd, Nat.reduceMul, Nat.reduceEqDiff, Int.reduceAdd, Int.reduceSub, Int.reduceMul, Int.reduceNeg, Int.reduceToNat]

/-- Bytes in a block of the call's own, at a place, with nothing behind them. -/
def Vw (h W : Heap) (v : Value) (S : List UInt8) : Prop := ∃ b o c cs, v = .slice (some ⟨b, o, none⟩) S.length c ∧ h.size ≤ b ∧ b < W.size ∧ W.get b = .cells cs 1 ∧ cs.drop o = byteCells S ∧ o + S.length = cs.length ∧ ((c = S.length ∧ c < big) ∨ c = big)
theorem Vw.islice {h W : Heap} {v : Value} {S : List UInt8} (V : Vw h W v S) : islice W 1 v = some (byteCells S) := by
  obtain ⟨b, o, c, cs, rfl, _, _, hg, hd, hl, _⟩ := V
  simp only [Im.islice, Heap.look, hg, Blk.read, Nat.mul_one]
  rw [if_pos ⟨trivial, by omega⟩, hd, List.take_of_length_le (by rw [byteCells_length]; exact Nat.le_refl _)]
theorem Vw.app {h W : Heap} {v : Value} {S : List UInt8} (V : Vw h W v S) (x : Ext h W) (y : Heap) (hy : Ext W y) (d : UInt8) (hS : S.length ≤ 100) : ∃ w', iapp h.size y 1 1 v 1 (some (byteCells [d])) = some (.slice (some ⟨y.size, 0, none⟩) (S.length + 1) big, w') ∧
    Own h.size w' 1 (.slice (some ⟨y.size, 0, none⟩) (S.length + 1) big) (S.length + 1) (byteCells (S ++ [d])) ∧ w'.size = y.size + 1 ∧ Ext h w' := by
  obtain ⟨b, o, c, cs, rfl, h1, h2, hg, hd, hl, hc⟩ := V
  have := app_view (low := h.size) (size := 1) (bytes := 1) (o := o) (n := S.length) (c := c) (cs := cs) (k := 1) (new := byteCells [d]) (Nat.le_refl _) (x.trans hy) h1 (by have := hy.1; omega) ((hy.2 b h2).trans hg) (by omega) hc (by omega) (by omega) (by rfl) (by omega) (by omega)
  rw [hd, ← byteCells_append] at this
  exact this
theorem own_vw {h W : Heap} {v : Value} {S : List UInt8} (H : Own h.size W 1 v S.length (byteCells S)) (h0 : S ≠ []) : Vw h W v S := by
  rcases H with ⟨_, h1, _⟩ | ⟨b, rfl, h1, h2, h3, h4⟩
  · exact absurd (List.eq_nil_of_length_eq_zero h1) h0
  · exact ⟨b, 0, big, _, rfl, h1, h2, h3, rfl, by rw [byteCells_length]; omega, .inr rfl⟩

set_option maxHeartbeats 1000000 in
theorem number_run (n : Nat) (h : Heap) (hn : n ≤ 9999999) : Runs K f_edit_Number #[.int .i64 (n : Int)] h fun r w => r = .string (text (numT n)) := by
  refine Runs.of Kok (Does.intro rfl (by decide +kernel) F_edit_Number rfl ?_)
  obtain ⟨w1, e1, x1, hs1, z1⟩ := lay1 h (.cells [.int .u8 48] 1)
  obtain ⟨w2, e2, x2, hs2, z2, k2⟩ := put1 x1 (Nat.le_refl _) (.cells [.int .u8 48] 1)
  have f1 := isame_ok (P := Tryz.prog) (low := h.size) Tryz.underlying63 Tryz.underlying5 (o := 0) (n := 1) (c := 1) z1 (Nat.le_refl _) (by omega)
  rw [e2] at f1
  obtain ⟨w0, hw0⟩ : ∃ w0, w0 = n / 10000 := ⟨_, rfl⟩
  have hwl : w0 < 1000 := by omega
  have tenk : ((10000 : Nat) : Int) ≠ 0 := by decide
  have q0 : IntKind.i64.wrap (((n : Nat) : Int).tdiv 10000) = ((w0 : Nat) : Int) := by rw [hw0]; exact wq (p := 10000) (by omega) (by omega)
  have ten : (10 : Int) ≠ 0 := by decide
  apply W_join (α := Value) (fun v e W => e.size = 53 ∧ Ext h W ∧ e.get 0 = .int .i64 (n : Int) ∧ e.get 3 = v ∧ Vw h W v (wholeT w0))
  · intro cont
    simp (decide := true) only [go_sem, W_region, Wx_some, Nat.reduceAdd, Nat.reduceMul, Nat.reduceEqDiff, Int.reduceAdd, Int.reduceSub, Int.reduceMul, Int.reduceNeg, Int.reduceToNat, e1, f1, show (10000 : Int) ≠ 0 by decide, q0]
    by_cases h0 : (0 : Int) < ((w0 : Nat) : Int)
    case neg =>
      have : w0 = 0 := by omega
      rw [W_round]
      simp (decide := true) only [go_sem, W_region, Wx_some, Nat.reduceAdd, Nat.reduceMul, Nat.reduceEqDiff, Int.reduceAdd, Int.reduceSub, Int.reduceMul, Int.reduceNeg, Int.reduceToNat, h0]
      refine W_does rfl rev_one fun r W hr => ?_
      subst hr
      simp (decide := true) only [go_sem, Wx_some, Nat.reduceAdd, Nat.reduceMul, Nat.reduceEqDiff, Int.reduceAdd, Int.reduceSub, Int.reduceMul, Int.reduceNeg, Int.reduceToNat]
      refine cont (.slice (some ⟨h.size, 0, none⟩) 1 1) _ _ ⟨by simp (decide := true) only [go_sem], x2, by simp (decide := true) only [go_sem], by simp (decide := true) only [go_sem], ?_⟩
      rw [wholeT, if_pos this]
      exact ⟨h.size, 0, 1, _, rfl, Nat.le_refl _, by omega, z2, rfl, rfl, .inl ⟨rfl, by simp [big]⟩⟩
    have hw1 : w0 ≠ 0 := by omega
    have V2 : Vw h w2 (.slice (some ⟨h.size, 0, none⟩) 1 1) [48] := ⟨h.size, 0, 1, _, rfl, Nat.le_refl _, by omega, z2, rfl, rfl, .inl ⟨rfl, by simp [big]⟩⟩
    obtain ⟨w3, e3, x3, hs3, z3⟩ := lay1 w2 (.cells [.int .u8 ((48 + w0 % 10 : Nat) : Int)] 1)
    obtain ⟨w4, e4, own4, hs4, x4⟩ := V2.app x2 w3 x3 (UInt8.ofNat (48 + w0 % 10)) (by simp)
    have hd9 : w0 % 10 ≤ 9 := by omega
    rw [bc1 hd9] at e4
    obtain ⟨m1, m2⟩ := w48 hd9
    have m3 : ((w0 : Nat) : Int).tmod 10 = ((w0 % 10 : Nat) : Int) := wr (p := 10)
    have m4 : IntKind.i64.wrap (((w0 : Nat) : Int).tdiv 10) = ((w0 / 10 : Nat) : Int) := wq (p := 10) (by omega) (by omega)
    rw [W_round]
    simp (decide := true) only [go_sem, W_region, Wx_some, Nat.reduceAdd, Nat.reduceMul, Nat.reduceEqDiff, Int.reduceAdd, Int.reduceSub, Int.reduceMul, Int.reduceNeg, Int.reduceToNat, h0, ten, m3, m1, m2, m4, e3, z3, e4]
    refine W_loop (α := Nat × List UInt8 × Value) (fun k e W => e.size = 53 ∧ Ext h W ∧ e.get 0 = .int .i64 (n : Int) ∧ e.get 3 = k.2.2 ∧ e.get 4 = .int .i64 (k.1 : Int) ∧ Own h.size W 1 k.2.2 k.2.1.length (byteCells k.2.1) ∧ k.1 < 1000 ∧ 2 ≤ k.2.1.length ∧ k.2.1 ++ rdF 5 k.1 = 48 :: rdF 5 w0) (fun k => k.1) (w0 / 10, [48, UInt8.ofNat (48 + w0 % 10)], .slice (some ⟨w3.size, 0, none⟩) 2 big) ?_ ?_
    · refine ⟨by simp (decide := true) only [go_sem], x4, by simp (decide := true) only [go_sem], by simp (decide := true) only [go_sem], by simp (decide := true) only [go_sem], own4, by simp only; omega, by simp, ?_⟩
      rw [rdF_step hw1 (by omega)]
      rfl
    clear e4 own4 x4 e3 x3 z3 hs3 hs4
    rintro ⟨w', S, v⟩ e W ⟨hsz, xW, g0, g3, g4, own, hw', hS2, hSd⟩ next
    simp only at g3 g4 own hw' hS2 hSd
    have hlen : S.length + (rdF 5 w').length = 1 + (rdF 5 w0).length := by
      have := congrArg List.length hSd
      simp only [List.length_append, List.length_cons] at this
      omega
    have hl3 : (rdF 5 w0).length ≤ 3 := rdF_lt (by omega) (k := 3) (by omega)
    by_cases h1 : (0 : Int) < ((w' : Nat) : Int)
    · obtain ⟨w3, e3, x3, hs3, z3⟩ := lay1 W (.cells [.int .u8 ((48 + w' % 10 : Nat) : Int)] 1)
      obtain ⟨w4, e4, own4, hs4, x4⟩ := own_app2 (low := h.size) (bytes := 1) (k := 1) (new := byteCells [UInt8.ofNat (48 + w' % 10)]) (Nat.le_refl _) (xW.trans x3) (own.ext x3) (by omega) (by omega) rfl (by omega) (by omega)
      have hd9 : w' % 10 ≤ 9 := by omega
      rw [← byteCells_append] at own4
      rw [bc1 hd9] at e4
      obtain ⟨m1, m2⟩ := w48 hd9
      have m3 : ((w' : Nat) : Int).tmod 10 = ((w' % 10 : Nat) : Int) := wr (p := 10)
      have m4 : IntKind.i64.wrap (((w' : Nat) : Int).tdiv 10) = ((w' / 10 : Nat) : Int) := wq (p := 10) (by omega) (by omega)
      simp (decide := true) only [go_sem, W_region, Wx_some, Nat.reduceAdd, Nat.reduceMul, Nat.reduceEqDiff, Int.reduceAdd, Int.reduceSub, Int.reduceMul, Int.reduceNeg, Int.reduceToNat, hsz, g0, g3, g4, h1, ten, m3, m1, m2, m4, e3, z3, e4]
      refine next (w' / 10, S ++ [UInt8.ofNat (48 + w' % 10)], .slice (some ⟨w3.size, 0, none⟩) (S.length + 1) big) _ _ ⟨by simp (decide := true) only [go_sem, hsz], x4, by simp (decide := true) only [go_sem, hsz, g0], by simp (decide := true) only [go_sem, hsz], by simp (decide := true) only [go_sem, hsz], by rw [List.length_append]; exact own4, by simp only; omega, by simp; omega, ?_⟩ (by simp only; omega)
      rw [rdF_step (by omega) (by omega)] at hSd
      rw [List.append_assoc]
      exact hSd
    · have hw0' : w' = 0 := by omega
      subst hw0'
      rw [rdF_zero, List.append_nil] at hSd
      rcases own with ⟨_, hh, _⟩ | ⟨b, rfl, hb1, hb2, hb3, hb4⟩
      · omega
      have i1 := irsl_tail hb3 (m := S.length) (by rw [byteCells_length]) (by omega)
      have hm1 : (1 : Int) < ((S.length : Nat) : Int) := by omega
      simp (decide := true) only [go_sem, W_region, Wx_some, Nat.reduceAdd, Nat.reduceMul, Nat.reduceEqDiff, Int.reduceAdd, Int.reduceSub, Int.reduceMul, Int.reduceNeg, Int.reduceToNat, hsz, g0, g3, g4, h1, hm1, i1]
      rw [hSd] at hb3
      have hSl : S.length - 1 = (rdF 5 w0).length := by rw [hSd]; simp
      rw [hSl]
      refine W_does rfl (rev_does hb1 hb2 hb3 (by omega) hl3) fun r W' hr => ?_
      obtain ⟨r1, r2, r3⟩ := hr
      simp (decide := true) only [go_sem, Wx_some, Nat.reduceAdd, Nat.reduceMul, Nat.reduceEqDiff, Int.reduceAdd, Int.reduceSub, Int.reduceMul, Int.reduceNeg, Int.reduceToNat, hsz]
      refine cont (.slice (some ⟨b, 1, none⟩) (rdF 5 w0).length big) _ _ ⟨by simp (decide := true) only [go_sem, hsz], ⟨by have := xW.1; omega, fun d hd => (r3 d (by omega)).trans (xW.2 d hd)⟩, by simp (decide := true) only [go_sem, hsz, g0], by simp (decide := true) only [go_sem, hsz], ?_⟩
      rw [wholeT, if_neg hw1]
      exact ⟨b, 1, big, _, by rw [List.length_reverse], hb1, by omega, r1, rfl, by simp [byteCells]; omega, .inr rfl⟩
  rintro v e W ⟨hsz, xW, g0, g3, V⟩
  obtain ⟨r0, hr0⟩ : ∃ r0, r0 = n % 10000 := ⟨_, rfl⟩
  have hrl : r0 < 10000 := by omega
  have q1 : ((n : Nat) : Int).tmod 10000 = ((r0 : Nat) : Int) := by rw [hr0]; exact wr (p := 10000)
  have hnum : numT n = wholeT w0 ++ fracT r0 := by rw [numT, hw0, hr0]
  have hwl' := (okW_of hwl).2.2.1
  by_cases h0 : (0 : Int) < ((r0 : Nat) : Int)
  case neg =>
    have : r0 = 0 := by omega
    have hi := V.islice
    simp (decide := true) only [go_sem, W_region, Wx_some, Nat.reduceAdd, Nat.reduceMul, Nat.reduceEqDiff, Int.reduceAdd, Int.reduceSub, Int.reduceMul, Int.reduceNeg, Int.reduceToNat, hsz, g0, g3, show (10000 : Int) ≠ 0 by decide, q1, h0]
    rw [W_round]
    obtain ⟨b, o, c, cs, rfl, _⟩ := V
    rw [islice_at] at hi
    simp (decide := true) only [go_sem, W_region, Wx_some, Nat.reduceAdd, Nat.reduceMul, Nat.reduceEqDiff, Int.reduceAdd, Int.reduceSub, Int.reduceMul, Int.reduceNeg, Int.reduceToNat, hsz, g0, g3, h0, hi, icvs_bytes]
    rw [hnum, this]
    simp [fracT]
  have hr1 : r0 ≠ 0 := by omega
  obtain ⟨w3, e3, x3, hs3, z3⟩ := lay1 W (.cells [.int .u8 46] 1)
  obtain ⟨w4, e4, own4, hs4, x4⟩ := V.app xW w3 x3 46 (by omega)
  have b46 : byteCells [46] = [.int .u8 46] := rfl
  rw [b46] at e4
  simp (decide := true) only [go_sem, W_region, Wx_some, Nat.reduceAdd, Nat.reduceMul, Nat.reduceEqDiff, Int.reduceAdd, Int.reduceSub, Int.reduceMul, Int.reduceNeg, Int.reduceToNat, hsz, g0, g3, show (10000 : Int) ≠ 0 by decide, q1, h0, e3, z3, e4]
  refine W_loop (α := Nat × Nat × Nat × List UInt8 × Value) (fun k e W => e.size = 53 ∧ Ext h W ∧ e.get 3 = k.2.2.2.2 ∧ e.get 5 = .int .i64 (k.1 : Int) ∧ e.get 6 = .int .i64 (k.2.1 : Int) ∧ Own h.size W 1 k.2.2.2.2 k.2.2.2.1.length (byteCells k.2.2.2.1) ∧ k.2.2.2.1 ≠ [] ∧ k.2.2.2.1.length + k.2.2.1 ≤ 8 ∧
    (k.1 = 0 ∨ (1 ≤ k.2.2.1 ∧ k.2.1 = 10 ^ (k.2.2.1 - 1) ∧ k.1 < 10 * k.2.1)) ∧ k.2.1 ≤ 1000 ∧ k.1 ≤ 10000 ∧ k.2.2.2.1 ++ frF k.2.2.1 k.1 k.2.1 = wholeT w0 ++ fracT r0) (fun k => k.2.2.1) (r0, 1000, 4, wholeT w0 ++ [46], .slice (some ⟨w3.size, 0, none⟩) ((wholeT w0).length + 1) big) ?_ ?_
  · refine ⟨by simp (decide := true) only [go_sem, hsz], x4, by simp (decide := true) only [go_sem, hsz], by simp (decide := true) only [go_sem, hsz], by simp (decide := true) only [go_sem, hsz]; rfl, by rw [List.length_append]; exact own4, by simp, by simp; omega, .inr ⟨by simp only; omega, rfl, by simp only; omega⟩, Nat.le_refl _, by simp only; omega, ?_⟩
    simp [fracT, hr1]
  clear e4 own4 x4 e3 x3 z3 hs3 hs4 V g3 xW hsz g0
  rintro ⟨r, p, f, S, v⟩ e W ⟨hsz, xW, g3, g5, g6, own, hS0, hSf, hrp, hp, hr, hSd⟩ next
  simp only at g3 g5 g6 own hS0 hSf hrp hp hr hSd
  by_cases h1 : (0 : Int) < ((r : Nat) : Int)
  · obtain ⟨hf1, hpe, hrlt⟩ := hrp.resolve_left (by omega)
    obtain ⟨g, rfl⟩ : ∃ g, f = g + 1 := ⟨f - 1, by omega⟩
    have hp0 : 0 < p := by omega
    have hd9 : r / p ≤ 9 := by
      have : r / p < 10 := (Nat.div_lt_iff_lt_mul hp0).2 hrlt
      omega
    obtain ⟨w3, e3, x3, hs3, z3⟩ := lay1 W (.cells [.int .u8 ((48 + r / p : Nat) : Int)] 1)
    obtain ⟨w4, e4, own4, hs4, x4⟩ := own_app2 (low := h.size) (bytes := 1) (k := 1) (new := byteCells [UInt8.ofNat (48 + r / p)]) (Nat.le_refl _) (xW.trans x3) (own.ext x3) (by omega) (by omega) rfl (by omega) (by omega)
    rw [← byteCells_append] at own4
    rw [bc1 hd9] at e4
    obtain ⟨m1, m2⟩ := w48 hd9
    have pne : ((p : Nat) : Int) ≠ 0 := by omega
    have m3 := wq (n := r) (p := p) (by omega) hp0
    have m4 := wr (n := r) (p := p)
    have m5 : IntKind.i64.wrap (((p : Nat) : Int).tdiv 10) = ((p / 10 : Nat) : Int) := wq (p := 10) (by omega) (by omega)
    have hmod : r % p < p := Nat.mod_lt _ hp0
    have u1 : ibinop Tryz.prog .quo 3 (.int .i64 ((r : Nat) : Int)) (.int .i64 ((p : Nat) : Int)) = some (.int .i64 ((r / p : Nat) : Int)) := by rw [ibinop_quo pne, m3]
    have u2 : ibinop Tryz.prog .rem 3 (.int .i64 ((r : Nat) : Int)) (.int .i64 ((p : Nat) : Int)) = some (.int .i64 ((r % p : Nat) : Int)) := by rw [ibinop_rem pne, m4]
    simp (decide := true) only [go_sem, W_region, Wx_some, Nat.reduceAdd, Nat.reduceMul, Nat.reduceEqDiff, Int.reduceAdd, Int.reduceSub, Int.reduceMul, Int.reduceNeg, Int.reduceToNat, hsz, g3, g5, g6, h1, u1, u2, ten, m1, m2, m5, e3, z3, e4]
    refine next (r % p, p / 10, g, S ++ [UInt8.ofNat (48 + r / p)], .slice (some ⟨w3.size, 0, none⟩) (S.length + 1) big) _ _ ⟨by simp (decide := true) only [go_sem, hsz], x4, by simp (decide := true) only [go_sem, hsz], by simp (decide := true) only [go_sem, hsz], by simp (decide := true) only [go_sem, hsz], by rw [List.length_append]; exact own4, by simp, by simp; omega, ?_, by simp only; omega, by simp only; omega, ?_⟩ (by simp only; omega)
    · simp only
      rw [Nat.add_sub_cancel] at hpe
      cases g with
      | zero =>
        left
        have p1 : p = 1 := by simpa using hpe
        rw [p1]
        exact Nat.mod_one r
      | succ g =>
        right
        rw [Nat.pow_succ] at hpe
        refine ⟨by omega, ?_, by omega⟩
        rw [Nat.add_sub_cancel]
        omega
    · rw [frF_step (by omega)] at hSd
      rw [List.append_assoc]
      exact hSd
  · have hr00 : r = 0 := by omega
    subst hr00
    rw [frF_zero, List.append_nil] at hSd
    have V := own_vw own hS0
    have hi := V.islice
    obtain ⟨b, o, c, cs, rfl, _⟩ := V
    rw [islice_at] at hi
    simp (decide := true) only [go_sem, W_region, Wx_some, Nat.reduceAdd, Nat.reduceMul, Nat.reduceEqDiff, Int.reduceAdd, Int.reduceSub, Int.reduceMul, Int.reduceNeg, Int.reduceToNat, hsz, g3, g5, g6, h1, hi, icvs_bytes]
    rw [hnum, hSd]

/-- A number's digits: the document's. -/
theorem digits_run (n : Nat) (h : Heap) (hn : n ≤ 99999) : Runs K f_ref28_digits #[.int .i64 (n : Int)] h fun r w => r = .string (text (wholeT n)) := by
  refine Runs.of Kok (Does.intro rfl (by decide +kernel) F_ref28_digits rfl ?_)
  have ten : (10 : Int) ≠ 0 := by decide
  have emp : (⟨#[]⟩ : ByteArray) = text [] := rfl
  have ne : ∀ S : List UInt8, S ≠ [] → ¬ text S = text [] := fun S hS hh => hS (text_inj.1 hh)
  have lo : ∀ {f n : Nat}, (rdF f n).length ≤ f := fun {f n} => rdF_len
  simp (decide := true) only [go_sem, W_region, Wx_some, Nat.reduceAdd, Nat.reduceMul, Nat.reduceEqDiff, Int.reduceAdd, Int.reduceSub, Int.reduceMul, Int.reduceNeg, Int.reduceToNat]
  refine W_loop (α := Nat × List UInt8) (fun k e W => e.size = 21 ∧ Ext h W ∧ e.get 0 = .int .i64 (k.1 : Int) ∧ e.get 3 = .string (text k.2) ∧ k.1 ≤ 99999 ∧ (k.2 = [] → k.1 = n) ∧ (k.2 ≠ [] → (rdF 5 k.1).reverse ++ k.2 = wholeT n) ∧ k.2.length ≤ 5) (fun k => 2 * k.1 + if k.2 = [] then 1 else 0) (n, []) ?_ ?_
  · exact ⟨by simp (decide := true) only [go_sem], Ext.refl h, by simp (decide := true) only [go_sem], by simp (decide := true) only [go_sem]; rfl, hn, fun _ => rfl, fun hh => absurd rfl hh, by simp⟩
  rintro ⟨m, S⟩ e W ⟨hsz, xW, g0, g3, hm, hS0, hS1, hSl⟩ next
  simp only at g0 g3 hm hS0 hS1 hSl
  have done : ¬ (0 : Int) < ((m : Nat) : Int) → S ≠ [] → text S = text (wholeT n) := fun h1 hS => by
    have := hS1 hS
    have m0 : m = 0 := by omega
    rw [m0, rdF_zero] at this
    rw [← this]
    rfl
  have hd9 : m % 10 ≤ 9 := by omega
  obtain ⟨m1, m2⟩ := w48 hd9
  have m3 : ((m : Nat) : Int).tmod 10 = ((m % 10 : Nat) : Int) := wr (p := 10)
  have m4 : IntKind.i64.wrap (((m : Nat) : Int).tdiv 10) = ((m / 10 : Nat) : Int) := wq (p := 10) (by omega) (by omega)
  obtain ⟨w3, e3, x3, hs3, z3⟩ := lay1 W (.cells [.int .u8 ((48 + m % 10 : Nat) : Int)] 1)
  have cv := icvs_bytes (l := [UInt8.ofNat (48 + m % 10)]) (h := w3)
  rw [bc1 hd9] at cv
  have cat := cat_ok (P := Tryz.prog) (t := 9) (a := [UInt8.ofNat (48 + m % 10)]) (b := S) (by simp; omega)
  have step : (0 < m ∨ S = []) → (UInt8.ofNat (48 + m % 10) :: S ≠ [] → (rdF 5 (m / 10)).reverse ++ UInt8.ofNat (48 + m % 10) :: S = wholeT n) := fun hc _ => by
    by_cases hm0 : m = 0
    · have hS : S = [] := hc.resolve_left (by omega)
      have hn0 := hS0 hS
      subst hS
      rw [← hn0, hm0]
      rfl
    · have e5 : (rdF 5 m).reverse = (rdF 5 (m / 10)).reverse ++ [UInt8.ofNat (48 + m % 10)] := by rw [rdF_step hm0 (by omega), List.reverse_cons]
      by_cases hS : S = []
      · have hn0 := hS0 hS
        subst hS
        rw [← hn0, wholeT, if_neg hm0, e5]
      · rw [← hS1 hS, e5, List.append_assoc]
        rfl
  have few : (0 < m ∨ S = []) → S.length + 1 ≤ 5 := fun hc => by
    by_cases hS : S = []
    · rw [hS]
      simp
    · have hm0 : m ≠ 0 := by
        rcases hc with hc | hc
        · omega
        · exact absurd hc hS
      have := congrArg List.length (hS1 hS)
      simp only [List.length_append, List.length_reverse] at this
      have h1 : 1 ≤ (rdF 5 m).length := by rw [rdF_step hm0 (by omega)]; simp
      have h2 : (wholeT n).length ≤ 5 := by
        unfold wholeT
        split
        · simp
        · rw [List.length_reverse]
          exact rdF_len
      omega
  by_cases h1 : (0 : Int) < ((m : Nat) : Int)
  · simp (decide := true) only [go_sem, W_region, Wx_some, Nat.reduceAdd, Nat.reduceMul, Nat.reduceEqDiff, Int.reduceAdd, Int.reduceSub, Int.reduceMul, Int.reduceNeg, Int.reduceToNat, hsz, g0, g3, h1, ten, m3, m1, m2, m4, e3, z3, cv, cat]
    refine next (m / 10, UInt8.ofNat (48 + m % 10) :: S) _ _ ⟨by simp (decide := true) only [go_sem, hsz], xW.trans x3, by simp (decide := true) only [go_sem, hsz], by simp (decide := true) only [go_sem, hsz], by simp only; omega, by simp, step (.inl (by omega)), by simpa using few (.inl (by omega))⟩ ?_
    simp only
    rw [if_neg (by simp)]
    omega
  · by_cases hS : S = []
    · have hm0 : m = 0 := by omega
      subst hS
      simp (decide := true) only [go_sem, W_region, Wx_some, Nat.reduceAdd, Nat.reduceMul, Nat.reduceEqDiff, Int.reduceAdd, Int.reduceSub, Int.reduceMul, Int.reduceNeg, Int.reduceToNat, hsz, g0, g3, h1, emp, ten, m3, m1, m2, m4, e3, z3, cv, cat]
      refine next (m / 10, [UInt8.ofNat (48 + m % 10)]) _ _ ⟨by simp (decide := true) only [go_sem, hsz], xW.trans x3, by simp (decide := true) only [go_sem, hsz], by simp (decide := true) only [go_sem, hsz], by simp only; omega, by simp, step (.inr rfl), by simp⟩ ?_
      simp only
      rw [if_neg (by simp), if_pos trivial]
      omega
    · simp (decide := true) only [go_sem, W_region, Wx_some, Nat.reduceAdd, Nat.reduceMul, Nat.reduceEqDiff, Int.reduceAdd, Int.reduceSub, Int.reduceMul, Int.reduceNeg, Int.reduceToNat, hsz, g0, g3, h1, emp, ne S hS]
      rw [done h1 hS]

theorem rt0_nil : rt0 [] = [] := rfl
theorem rt0_snoc (T : List UInt8) (c : UInt8) : rt0 (T ++ [c]) = if c = 48 then rt0 T else T ++ [c] := by
  unfold rt0
  rw [List.reverse_append, List.reverse_singleton, List.singleton_append]
  by_cases h : c = 48
  · rw [if_pos h, List.dropWhile_cons_of_pos (by simp [h])]
  · rw [if_neg h, List.dropWhile_cons_of_neg (by simp [h]), List.reverse_cons, List.reverse_reverse]
theorem rnumber_run (n : Nat) (h : Heap) (hn : n ≤ 9999999) : Runs K f_ref28_Number #[.int .i64 (n : Int)] h fun r w => r = .string (text (numT n)) := by
  refine Runs.of Kok (Does.intro rfl (by decide +kernel) F_ref28_Number rfl ?_)
  obtain ⟨w0, hw0⟩ : ∃ w0, w0 = n / 10000 := ⟨_, rfl⟩
  obtain ⟨r0, hr0⟩ : ∃ r0, r0 = n % 10000 := ⟨_, rfl⟩
  have hwl : w0 < 1000 := by omega
  have hrl : r0 < 10000 := by omega
  have tenk : (10000 : Int) ≠ 0 := by decide
  have q0 : IntKind.i64.wrap (((n : Nat) : Int).tdiv 10000) = ((w0 : Nat) : Int) := by rw [hw0]; exact wq (p := 10000) (by omega) (by omega)
  have q1 : ((n : Nat) : Int).tmod 10000 = ((r0 : Nat) : Int) := by rw [hr0]; exact wr (p := 10000)
  have q2 : IntKind.i64.wrap (10000 + ((r0 : Nat) : Int)) = ((10000 + r0 : Nat) : Int) := by rw [wrap_i64 (by omega) (by omega)]; omega
  have hnum : numT n = wholeT w0 ++ fracT r0 := by rw [numT, hw0, hr0]
  have hwl' := (okW_of hwl).2.2.1
  have hT : wholeT (10000 + r0) = (rdF 5 (10000 + r0)).reverse := by rw [wholeT, if_neg (by omega)]
  have hTl : (wholeT (10000 + r0)).length ≤ 5 := by rw [hT, List.length_reverse]; exact rdF_len
  have hT1 : 1 ≤ (wholeT (10000 + r0)).length := by rw [hT, List.length_reverse, rdF_step (by omega) (by omega)]; simp
  obtain ⟨T0, hT0⟩ : ∃ T0, T0 = (wholeT (10000 + r0)).drop 1 := ⟨_, rfl⟩
  have hT0l : T0.length ≤ 4 := by rw [hT0, List.length_drop]; omega
  have hrt : rt0 T0 = if r0 = 0 then [] else frF 4 r0 1000 := by
    by_cases h0 : r0 = 0
    · rw [if_pos h0, hT0, hT, h0]
      exact zero_rt
    · rw [if_neg h0, hT0, hT]
      exact (okF_of hrl h0).2.2.2.2.symm
  have emp : (⟨#[]⟩ : ByteArray) = text [] := rfl
  have dot : (⟨#[46]⟩ : ByteArray) = text [46] := rfl
  simp (decide := true) only [go_sem, W_region, Wx_some, Nat.reduceAdd, Nat.reduceMul, Nat.reduceEqDiff, Int.reduceAdd, Int.reduceSub, Int.reduceMul, Int.reduceNeg, Int.reduceToNat, tenk, q0]
  refine W_call Kok (Nat.le_refl _) (digits_run w0 h (by omega)) fun r w x hr => ?_
  subst hr
  simp (decide := true) only [go_sem, W_region, Wx_some, Nat.reduceAdd, Nat.reduceMul, Nat.reduceEqDiff, Int.reduceAdd, Int.reduceSub, Int.reduceMul, Int.reduceNeg, Int.reduceToNat, tenk, q1, q2]
  refine W_call Kok x.1 (digits_run (10000 + r0) w (by omega)) fun r w' x' hr => ?_
  subst hr
  have s1 : (((wholeT (10000 + r0)).drop 1).take ((wholeT (10000 + r0)).length - 1)) = T0 := by rw [List.take_of_length_le (by simp), hT0]
  simp (decide := true) only [go_sem, W_region, Wx_some, Nat.reduceAdd, Nat.reduceMul, Nat.reduceEqDiff, Int.reduceAdd, Int.reduceSub, Int.reduceMul, Int.reduceNeg, Int.reduceToNat, show Int.toNat 1 = 1 from rfl, hT1, s1]
  have x2 := x.trans x'
  refine W_loop (α := List UInt8) (fun T e W => e.size = 36 ∧ Ext h W ∧ e.get 3 = .string (text (wholeT w0)) ∧ e.get 4 = .string (text T) ∧ rt0 T = rt0 T0 ∧ T.length ≤ 4) (fun T => T.length) T0 ?_ ?_
  · exact ⟨by simp (decide := true) only [go_sem], x2, by simp (decide := true) only [go_sem], by simp (decide := true) only [go_sem], rfl, hT0l⟩
  rintro T e W ⟨hsz, xW, g3, g4, hrtT, hTl'⟩ next
  rcases List.eq_nil_or_concat T with rfl | ⟨T', c, rfl⟩
  · rw [rt0_nil, hrt] at hrtT
    have h00 : r0 = 0 := by
      by_cases h0 : r0 = 0
      · exact h0
      · rw [if_neg h0] at hrtT
        have := (okF_of hrl h0).2.1
        rw [← hrtT] at this
        simp at this
    simp (decide := true) only [go_sem, W_region, Wx_some, Nat.reduceAdd, Nat.reduceMul, Nat.reduceEqDiff, Int.reduceAdd, Int.reduceSub, Int.reduceMul, Int.reduceNeg, Int.reduceToNat, hsz, g3, g4, emp, List.length_nil, Int.natCast_zero, Int.lt_irrefl]
    rw [hnum, h00]
    simp [fracT]
  rw [List.concat_eq_append] at *
  have hl1 : (T' ++ [c]).length = T'.length + 1 := by simp
  have d0 : (0 : Int) < ((T'.length + 1 : Nat) : Int) := by omega
  have i1 : IntKind.i64.wrap (((T'.length + 1 : Nat) : Int) - 1) = ((T'.length : Nat) : Int) := by rw [wrap_i64 (by rw [hl1] at hTl'; omega) (by rw [hl1] at hTl'; omega)]; omega
  have ic := ichar_text (l := T' ++ [c]) (i := T'.length) (a := c) (by simp)
  have c0 : (0 : Int) ≤ ((T'.length : Nat) : Int) := by omega
  have c1 : T'.length ≤ T'.length + 1 := by omega
  have tk : ((T' ++ [c]).drop 0).take (T'.length - 0) = T' := by simp
  by_cases h48 : c = 48
  · have hc : ((c.toNat : Nat) : Int) = 48 := by rw [h48]; rfl
    rw [rt0_snoc, if_pos h48] at hrtT
    simp (decide := true) only [go_sem, W_region, Wx_some, Nat.reduceAdd, Nat.reduceMul, Nat.reduceEqDiff, Int.reduceAdd, Int.reduceSub, Int.reduceMul, Int.reduceNeg, Int.reduceToNat, hsz, g3, g4, hl1, d0, i1, ic, hc, c0, Int.toNat_natCast, Nat.zero_le, c1, tk, Nat.sub_zero]
    refine next T' _ _ ⟨by simp (decide := true) only [go_sem, hsz], xW, by simp (decide := true) only [go_sem, hsz, g3], ?_, hrtT, by rw [hl1] at hTl'; omega⟩ (by rw [hl1]; omega)
    simp (decide := true) only [go_sem, W_region, Wx_some, Nat.reduceAdd, Nat.reduceMul, Nat.reduceEqDiff, Int.reduceAdd, Int.reduceSub, Int.reduceMul, Int.reduceNeg, Int.reduceToNat, hsz]
    simp
  · have hc : ¬ ((c.toNat : Nat) : Int) = 48 := by
      intro hh
      apply h48
      apply UInt8.toNat_inj.1
      have : (48 : UInt8).toNat = 48 := rfl
      omega
    have hne : ¬ text (T' ++ [c]) = text [] := fun hh => by
      have := text_inj.1 hh
      simp at this
    rw [rt0_snoc, if_neg h48, hrt] at hrtT
    have h0 : r0 ≠ 0 := by
      intro hh
      rw [if_pos hh] at hrtT
      simp at hrtT
    rw [if_neg h0] at hrtT
    have cat1 := cat_ok (P := Tryz.prog) (t := 9) (a := wholeT w0) (b := [46]) (by simp; omega)
    have cat2 := cat_ok (P := Tryz.prog) (t := 9) (a := wholeT w0 ++ [46]) (b := T' ++ [c]) (by simp at hTl' ⊢; omega)
    simp (decide := true) only [go_sem, W_region, Wx_some, Nat.reduceAdd, Nat.reduceMul, Nat.reduceEqDiff, Int.reduceAdd, Int.reduceSub, Int.reduceMul, Int.reduceNeg, Int.reduceToNat, hsz, g3, g4, hl1, d0, i1, ic, hc, emp, dot, hne, cat1, cat2]
    rw [hnum, fracT, if_neg h0, ← hrtT]
    simp

open Go.Im.Heads in
theorem num_asc {n : Nat} (h : n ≤ 9999999) : ∀ c ∈ numT n, c.toNat < 128 := by
  have dig : ∀ {S : List UInt8}, (I8 S).all isD = true → ∀ c ∈ S, c.toNat < 128 := fun {S} hS c hc => by
    have := List.all_eq_true.1 hS (c.toNat : Int) (List.mem_map.2 ⟨c, hc, rfl⟩)
    simp only [isD, Bool.and_eq_true, decide_eq_true_eq] at this
    omega
  intro c hc
  rw [numT, List.mem_append] at hc
  rcases hc with hc | hc
  · exact dig (okW_of (by omega)).1 c hc
  · unfold fracT at hc
    split at hc
    · simp at hc
    · rename_i h0
      rcases List.mem_cons.1 hc with rfl | hc
      · decide
      · exact dig (okF_of (by omega) h0).1 c hc
theorem num_len {n : Nat} (h : n ≤ 9999999) : (numT n).length ≤ 8 := by
  rw [numT, List.length_append]
  have := (okW_of (w := n / 10000) (by omega)).2.2.1
  have h2 : (fracT (n % 10000)).length ≤ 5 := by
    unfold fracT
    split
    · simp
    · rename_i h0
      have := (okF_of (r := n % 10000) (by omega) h0).2.2.1
      simp
      omega
  omega
open Go.Im.Heads in
theorem law_run (n : Int) (l : List Int) (h : Heap) {a : Option Addr} {c : Nat} (sl : Sl h 1 a l.length c (rv l)) (hc : c = 0 ∨ c = big) :
    Runs K f_law28_EditNumbers #[.int .i64 n, .slice a l.length c] h fun r _ => r = .bool true := by
  have t := Ln.of sl hc
  refine Runs.of Kok (Does.intro rfl (by decide +kernel) F_law28_EditNumbers rfl ?_)
  by_cases h3 : (300 : Int) < ((l.length : Nat) : Int)
  · simp (decide := true) only [go_sem, W_region, Wx_some, Nat.reduceAdd, Nat.reduceMul, Nat.reduceEqDiff, Int.reduceAdd, Int.reduceSub, Int.reduceMul, Int.reduceNeg, Int.reduceToNat, h3]
    refine W_call Kok (Nat.le_refl _) (law28_awake_runs h) fun r w x hr => ?_
    subst hr
    simp (decide := true) only [go_sem, W_region, Wx_some, Nat.reduceAdd, Nat.reduceMul, Nat.reduceEqDiff, Int.reduceAdd, Int.reduceSub, Int.reduceMul, Int.reduceNeg, Int.reduceToNat]
  simp (decide := true) only [go_sem, W_region, Wx_some, Nat.reduceAdd, Nat.reduceMul, Nat.reduceEqDiff, Int.reduceAdd, Int.reduceSub, Int.reduceMul, Int.reduceNeg, Int.reduceToNat, h3]
  refine W_call Kok (Nat.le_refl _) (read_run l h t (by omega)) fun r w x hr => ?_
  obtain ⟨hw, x1, rfl, hx1⟩ := hr
  have hw := hw.symm
  subst hw
  simp (decide := true) only [go_sem, W_region, Wx_some, Nat.reduceAdd, Nat.reduceMul, Nat.reduceEqDiff, Int.reduceAdd, Int.reduceSub, Int.reduceMul, Int.reduceNeg, Int.reduceToNat]
  refine W_call Kok (Nat.le_refl _) (rread_run l h t (by omega)) fun r w x hr => ?_
  obtain ⟨hw, x2, rfl, hx2⟩ := hr
  have hw := hw.symm
  subst hw
  apply W_join (α := Unit) (fun _ e w => e.size = 66 ∧ h = w ∧ e.get 0 = .int .i64 n)
  · intro cont
    cases hq : readE l with
    | none =>
      simp (decide := true) only [go_sem, Wx_some, Nat.reduceAdd, Nat.reduceMul, Nat.reduceEqDiff, Int.reduceAdd, Int.reduceSub, Int.reduceMul, Int.reduceNeg, Int.reduceToNat, Option.isSome_none]
      (rw [W_region]; simp (decide := true) only [go_sem, Wx_some, Nat.reduceAdd, Nat.reduceMul, Nat.reduceEqDiff, Int.reduceAdd, Int.reduceSub, Int.reduceMul, Int.reduceNeg, Int.reduceToNat, Option.isSome_none])
      exact cont () _ _ ⟨by simp (decide := true) only [go_sem], rfl, by simp (decide := true) only [go_sem]⟩
    | some m =>
      have e1 := hx1 m hq
      have e2 := hx2 m hq
      subst e1
      subst e2
      simp (decide := true) only [go_sem, Wx_some, Nat.reduceAdd, Nat.reduceMul, Nat.reduceEqDiff, Int.reduceAdd, Int.reduceSub, Int.reduceMul, Int.reduceNeg, Int.reduceToNat, Option.isSome_some]
      (rw [W_region]; simp (decide := true) only [go_sem, Wx_some, Nat.reduceAdd, Nat.reduceMul, Nat.reduceEqDiff, Int.reduceAdd, Int.reduceSub, Int.reduceMul, Int.reduceNeg, Int.reduceToNat, Option.isSome_some])
      exact cont () _ _ ⟨by simp (decide := true) only [go_sem], rfl, by simp (decide := true) only [go_sem]⟩
  rintro _ e w ⟨hsz, hw, g0⟩
  subst hw
  by_cases n0 : n < 0
  · simp (decide := true) only [go_sem, W_region, Wx_some, Nat.reduceAdd, Nat.reduceMul, Nat.reduceEqDiff, Int.reduceAdd, Int.reduceSub, Int.reduceMul, Int.reduceNeg, Int.reduceToNat, hsz, g0, n0]
    refine W_call Kok (Nat.le_refl _) (law28_awake_runs h) fun r w x hr => ?_
    subst hr
    simp (decide := true) only [go_sem, W_region, Wx_some, Nat.reduceAdd, Nat.reduceMul, Nat.reduceEqDiff, Int.reduceAdd, Int.reduceSub, Int.reduceMul, Int.reduceNeg, Int.reduceToNat, hsz]
  by_cases n1 : 9999999 < n
  · simp (decide := true) only [go_sem, W_region, Wx_some, Nat.reduceAdd, Nat.reduceMul, Nat.reduceEqDiff, Int.reduceAdd, Int.reduceSub, Int.reduceMul, Int.reduceNeg, Int.reduceToNat, hsz, g0, n0, n1]
    refine W_call Kok (Nat.le_refl _) (law28_awake_runs h) fun r w x hr => ?_
    subst hr
    simp (decide := true) only [go_sem, W_region, Wx_some, Nat.reduceAdd, Nat.reduceMul, Nat.reduceEqDiff, Int.reduceAdd, Int.reduceSub, Int.reduceMul, Int.reduceNeg, Int.reduceToNat, hsz]
  obtain ⟨m, rfl⟩ : ∃ m : Nat, n = (m : Int) := ⟨n.toNat, by omega⟩
  have hm : m ≤ 9999999 := by omega
  simp (decide := true) only [go_sem, W_region, Wx_some, Nat.reduceAdd, Nat.reduceMul, Nat.reduceEqDiff, Int.reduceAdd, Int.reduceSub, Int.reduceMul, Int.reduceNeg, Int.reduceToNat, hsz, g0, n0, n1]
  refine W_call Kok (Nat.le_refl _) (number_run m h hm) fun r w x hr => ?_
  subst hr
  obtain ⟨as1, as2⟩ := asc_runes (num_asc hm)
  obtain ⟨w2, e2, xw2, hs2, z2⟩ := lay1 w (.cells (rv (I8 (numT m))) 1)
  have x2 := x.trans xw2
  have t2 : Ln w2 (.slice (some ⟨w.size, 0, none⟩) (I8 (numT m)).length big) (I8 (numT m)) := Ln.new (by omega) z2
  simp (decide := true) only [go_sem, W_region, Wx_some, Nat.reduceAdd, Nat.reduceMul, Nat.reduceEqDiff, Int.reduceAdd, Int.reduceSub, Int.reduceMul, Int.reduceNeg, Int.reduceToNat, hsz, icvt_runes as1.symm as2, e2]
  refine W_call Kok x2.1 (read_run _ w2 t2 (by rw [I8_len]; have := num_len hm; omega)) fun r w3 x3 hr => ?_
  obtain ⟨hw, y, rfl, hy⟩ := hr
  have hw := hw.symm
  subst hw
  have hrd := read_num hm
  have := hy m hrd
  subst this
  rw [hrd]
  simp (decide := true) only [go_sem, W_region, Wx_some, Nat.reduceAdd, Nat.reduceMul, Nat.reduceEqDiff, Int.reduceAdd, Int.reduceSub, Int.reduceMul, Int.reduceNeg, Int.reduceToNat, hsz, g0, Option.isSome_some]
  refine W_call Kok x2.1 (number_run m w2 hm) fun r w4 x4 hr => ?_
  subst hr
  simp (decide := true) only [go_sem, W_region, Wx_some, Nat.reduceAdd, Nat.reduceMul, Nat.reduceEqDiff, Int.reduceAdd, Int.reduceSub, Int.reduceMul, Int.reduceNeg, Int.reduceToNat, hsz, g0]
  refine W_call Kok (x2.trans x4).1 (rnumber_run m w4 hm) fun r w5 x5 hr => ?_
  subst hr
  simp (decide := true) only [go_sem, W_region, Wx_some, Nat.reduceAdd, Nat.reduceMul, Nat.reduceEqDiff, Int.reduceAdd, Int.reduceSub, Int.reduceMul, Int.reduceNeg, Int.reduceToNat, hsz, g0]
  refine W_call Kok (x2.trans (x4.trans x5)).1 (law28_awake_runs w5) fun r w x hr => ?_
  subst hr
  simp (decide := true) only [go_sem, W_region, Wx_some, Nat.reduceAdd, Nat.reduceMul, Nat.reduceEqDiff, Int.reduceAdd, Int.reduceSub, Int.reduceMul, Int.reduceNeg, Int.reduceToNat, hsz]
end Go.Proofs.YtachkofbmodnnaaGreat.E6
