/- Proved here: parts of the way to DEditBegins (DE7 DD5); no condition beyond those that each theorem names. -/
import Derived.Test.YtachkofbmodnnaaGreatP20
import Derived.Test.YtachkofbmodnnaaGreatP21
set_option linter.unusedSimpArgs false
set_option linter.unusedVariables false
namespace Go.Im
open Go.Im.Editing
theorem app_view {low : Nat} {h w : Heap} (hlow : low ≤ h.size) (x : Ext h w) {b o n c k size bytes : Nat} {cs new : List Value} (hb : h.size ≤ b) (hbw : b < w.size) (hg : w.get b = .cells cs size) (ho : o + n * size = cs.length) (hcap : (c = n ∧ c < big) ∨ c = big)
  (hs : 0 < size) (hk : 0 < k) (hn : new.length = k * size) (hbt : 2 * (n + k) * bytes ≤ 140737488355328) (hc : n + k ≤ 4611686018427387904) :
  ∃ w', iapp low w size bytes (.slice (some ⟨b, o, none⟩) n c) k (some new) = some (.slice (some ⟨w.size, 0, none⟩) (n + k) big, w') ∧ Own h.size w' size (.slice (some ⟨w.size, 0, none⟩) (n + k) big) (n + k) (cs.drop o ++ new) ∧ w'.size = w.size + 1 ∧ Ext h w' := by
 have ht : (cs.drop o).take (n * size) = cs.drop o := List.take_of_length_le (by simp; omega)
 have hlen : (cs.drop o ++ new).length = (n + k) * size := by simp [hn, Nat.add_mul]; omega
 have hpos : 0 < k * size := Nat.mul_pos hk hs
 rcases hcap with ⟨rfl, hcb⟩ | rfl
 ·refine ⟨w.push (.cells (cs.drop o ++ new) size), ?_, .inr ⟨w.size, rfl, x.1, by simp, by rw [Heap.get_push, if_pos rfl], hlen⟩, rfl, x.push _⟩
  simp only [iapp]
  rw [if_neg (by omega), if_neg (by omega)]
  simp only [iput, hg]
  rw [if_neg (by simp; omega), if_pos hcb, if_neg (by omega), ht]
 ·obtain ⟨w1, e1, x1, hs1, g1, k1⟩ := put1 x hb Blk.dead
  refine ⟨w1.push (.cells (cs.drop o ++ new) size), ?_, .inr ⟨w.size, rfl, x.1, by simp; omega, by rw [Heap.get_push, if_pos hs1.symm], hlen⟩, by simp [hs1], x1.push _⟩
  simp only [iapp]
  rw [if_neg (by omega), if_neg (by omega)]
  simp only [iput, hg]
  rw [if_neg (by simp; omega), if_neg (Nat.lt_irrefl _), if_pos ⟨trivial, by omega⟩, if_neg (by rw [Nat.add_mul]; omega), ht, e1]
theorem isame_ok {P : Program} {low : Nat} {h : Heap} {t e : TypeId} (hu : P.underlying t = some (.slice e)) (he : P.underlying e = some (.int .u8)) {b o n c : Nat} {cs : List Value} {esz : Nat} (hg : h.get b = .cells cs esz) (hl : low ≤ b) (hn : 0 < n) :
  isame P low h t (some ⟨b, o, none⟩) n c = some (.slice (some ⟨b, o, none⟩) n c, h.set b (.cells cs esz)) := by
 simp only [isame, hu, he, hg]
 rw [if_pos ⟨hl, hn⟩]
theorem irsl_tail {w : Heap} {b m : Nat} {cs : List Value} (hg : w.get b = .cells cs 1) (hm : cs.length = m) (h1 : 1 ≤ m) : irsl (some (.slice 1)) w (some ⟨b, 0, none⟩) m big (some (.int .i64 1)) none none = some (.slice (some ⟨b, 1, none⟩) (m - 1) big) := by
 have hin : iinds m ((cs.length - 0) / 1) (some (.int .i64 1)) none none = some (1, m, (cs.length - 0) / 1) := iinds_of rfl rfl h1 (by simp; omega)
 simp only [irsl, Heap.look, hg, Blk.read, Nat.lt_irrefl, if_false, if_true, hin, ne_eq, not_true_eq_false, Nat.zero_add, Nat.one_mul]
theorem o48 {d : Nat} (h : d ≤ 9) : (UInt8.ofNat (48 + d)).toNat = 48 + d := by
 have e : 48 + d < 256 := by omega
 rw [UInt8.toNat_ofNat_of_lt' (by simpa using e)]
theorem bc1 {d : Nat} (h : d ≤ 9) : byteCells [UInt8.ofNat (48 + d)] = [.int .u8 ((48 + d : Nat) : Int)] := by simp only [byteCells, List.map_cons, List.map_nil, o48 h]
end Go.Im
namespace Go.Im.Editing
theorem rdF_len : ∀ {f n : Nat}, (rdF f n).length ≤ f
 | 0, n => by simp [rdF]
 | f + 1, n => by
   rw [rdF]
   split
   ·simp
   ·rw [List.length_cons]
    have := rdF_len (f := f) (n := n / 10)
    omega
theorem rdF_lt : ∀ {f n : Nat}, n < 10 ^ f → ∀ {k}, n < 10 ^ k → (rdF f n).length ≤ k
 | 0, n, h, k, _ => by simp [rdF]
 | f + 1, n, h, 0, hk => by
   have : n = 0 := by simpa using hk
   subst this
   simp [rdF]
 | f + 1, n, h, k + 1, hk => by
   rw [rdF]
   split
   ·simp
   ·rw [List.length_cons]
    have := rdF_lt (f := f) (n := n / 10) (by rw [Nat.pow_succ] at h; omega) (k := k) (by rw [Nat.pow_succ] at hk; omega)
    omega
theorem rdF_step {f n : Nat} (h : n ≠ 0) (hn : n < 10 ^ (f + 1)) : rdF (f + 1) n = UInt8.ofNat (48 + n % 10) :: rdF (f + 1) (n / 10) := by
 rw [rdF, if_neg h]
 congr 1
 exact (rdF_more (by rw [Nat.pow_succ] at hn; omega) (by omega)).symm
theorem rdF_zero {f : Nat} : rdF f 0 = [] := by cases f <;> simp [rdF]
theorem frF_zero {f p : Nat} : frF f 0 p = [] := by cases f <;> simp [frF]
theorem frF_step {f r p : Nat} (h : r ≠ 0) : frF (f + 1) r p = UInt8.ofNat (48 + r / p) :: frF f (r % p) (p / 10) := by rw [frF, if_neg h]
end Go.Im.Editing
namespace Go.Proofs.YtachkofbmodnnaaGreat.E7
open Go Go.Im Go.Im.Lexing Go.Im.Editing Go.Proofs Go.RowKit Hd E2
set_option maxRecDepth 100000
theorem wq {n p : Nat} (hn : n ≤ 10000000) (hp : 0 < p) : IntKind.i64.wrap (((n : Nat) : Int).tdiv ((p : Nat) : Int)) = ((n / p : Nat) : Int) := by
 have : ((n : Nat) : Int).tdiv ((p : Nat) : Int) = ((n / p : Nat) : Int) := by rw [Int.tdiv_eq_ediv_of_nonneg (by omega)]; simp
 have h2 : n / p ≤ n := Nat.div_le_self _ _
 rw [this]
 generalize n / p = q at h2 ⊢
 rw [wrap_i64 (by omega) (by omega)]
theorem wr {n p : Nat} : ((n : Nat) : Int).tmod ((p : Nat) : Int) = ((n % p : Nat) : Int) := by rw [Int.tmod_eq_emod_of_nonneg (by omega)]; simp
theorem w48 {d : Nat} (h : d ≤ 9) : IntKind.i64.wrap (48 + ((d : Nat) : Int)) = ((48 + d : Nat) : Int) ∧ IntKind.u8.wrap ((48 + d : Nat) : Int) = ((48 + d : Nat) : Int) := by
 refine ⟨?_, ?_⟩
 ·rw [wrap_i64 (by omega) (by omega)]; omega
 ·rw [wrap_u8 (by omega) (by omega)]
theorem rev_does {low b : Nat} {h : Heap} {x0 : UInt8} {S : List UInt8} {c : Nat} (hl : low ≤ b) (hb : b < h.size) (hg : h.get b = .cells (byteCells (x0 :: S)) 1) (h1 : 1 ≤ S.length) (h3 : S.length ≤ 3) :
  Does K low f_slices_Reverse_byte_byte #[.slice (some ⟨b, 1, none⟩) S.length c] h fun r w => w.get b = .cells (byteCells (x0 :: S.reverse)) 1 ∧ w.size = h.size ∧ ∀ d, d ≠ b → w.get d = h.get d := by
 refine Does.intro rfl (by decide +kernel) F_slices_Reverse_byte_byte rfl ?_
 match S, h1, h3 with
 | [x], _, _ =>
   simp +decide only [go_sem, W_region, Wx_some, List.length_cons, List.length_nil, show IntKind.i64.wrap (((1 : Nat) : Int) - 1) = 0 from rfl]
   rw [W_round]
   simp +decide only [go_sem, W_region, Wx_some, List.length_cons, List.length_nil, show IntKind.i64.wrap (((1 : Nat) : Int) - 1) = 0 from rfl]
   simpa using hg
 | [x, y], _, _ =>
   simp only [byteCells, List.map_cons, List.map_nil] at hg
   obtain ⟨w1, e1, _, hs1, z1, k1⟩ := put1 (⟨Nat.zero_le _, fun _ hh => absurd hh (Nat.not_lt_zero _)⟩ : Ext ⟨0, .leaf⟩ h) (Nat.zero_le b) (.cells [.int .u8 x0.toNat, .int .u8 y.toNat, .int .u8 y.toNat] 1)
   obtain ⟨w2, e2, _, hs2, z2, k2⟩ := put1 (⟨Nat.zero_le _, fun _ hh => absurd hh (Nat.not_lt_zero _)⟩ : Ext ⟨0, .leaf⟩ w1) (Nat.zero_le b) (.cells [.int .u8 x0.toNat, .int .u8 y.toNat, .int .u8 x.toNat] 1)
   simp +decide only [go_sem, W_region, Wx_some, List.length_cons, List.length_nil, show IntKind.i64.wrap (((2 : Nat) : Int) - 1) = 1 from rfl, show IntKind.i64.wrap ((0 : Int) + 1) = 1 from rfl, show IntKind.i64.wrap ((1 : Int) - 1) = 0 from rfl, show Int.toNat 0 = 0 from rfl, show Int.toNat 1 = 1 from rfl, show Int.toNat 2 = 2 from rfl]
   rw [W_round]
   simp +decide only [go_sem, W_region, Wx_some, List.length_cons, List.length_nil, show IntKind.i64.wrap (((2 : Nat) : Int) - 1) = 1 from rfl, show IntKind.i64.wrap ((0 : Int) + 1) = 1 from rfl, show IntKind.i64.wrap ((1 : Int) - 1) = 0 from rfl, show Int.toNat 0 = 0 from rfl, show Int.toNat 1 = 1 from rfl, show Int.toNat 2 = 2 from rfl, hg, hl, e1, z1, e2]
   rw [W_round]
   simp +decide only [go_sem, W_region, Wx_some]
   exact ⟨by rw [z2]; simp [byteCells], by omega, fun d hd => by rw [k2 d hd, k1 d hd]⟩
 | [x, y, z], _, _ =>
   simp only [byteCells, List.map_cons, List.map_nil] at hg
   obtain ⟨w1, e1, _, hs1, z1, k1⟩ := put1 (⟨Nat.zero_le _, fun _ hh => absurd hh (Nat.not_lt_zero _)⟩ : Ext ⟨0, .leaf⟩ h) (Nat.zero_le b) (.cells [.int .u8 x0.toNat, .int .u8 z.toNat, .int .u8 y.toNat, .int .u8 z.toNat] 1)
   obtain ⟨w2, e2, _, hs2, z2, k2⟩ := put1 (⟨Nat.zero_le _, fun _ hh => absurd hh (Nat.not_lt_zero _)⟩ : Ext ⟨0, .leaf⟩ w1) (Nat.zero_le b) (.cells [.int .u8 x0.toNat, .int .u8 z.toNat, .int .u8 y.toNat, .int .u8 x.toNat] 1)
   simp +decide only [go_sem, W_region, Wx_some, List.length_cons, List.length_nil, show IntKind.i64.wrap (((3 : Nat) : Int) - 1) = 2 from rfl, show IntKind.i64.wrap ((0 : Int) + 1) = 1 from rfl, show IntKind.i64.wrap ((2 : Int) - 1) = 1 from rfl, show Int.toNat 0 = 0 from rfl, show Int.toNat 1 = 1 from rfl, show Int.toNat 2 = 2 from rfl]
   rw [W_round]
   simp +decide only [go_sem, W_region, Wx_some, List.length_cons, List.length_nil, show IntKind.i64.wrap (((3 : Nat) : Int) - 1) = 2 from rfl, show IntKind.i64.wrap ((0 : Int) + 1) = 1 from rfl, show IntKind.i64.wrap ((2 : Int) - 1) = 1 from rfl, show Int.toNat 0 = 0 from rfl, show Int.toNat 1 = 1 from rfl, show Int.toNat 2 = 2 from rfl, hg, hl, e1, z1, e2]
   rw [W_round]
   simp +decide only [go_sem, W_region, Wx_some]
   exact ⟨by rw [z2]; simp [byteCells], by omega, fun d hd => by rw [k2 d hd, k1 d hd]⟩
theorem rev_one {low b : Nat} {h : Heap} {c : Nat} : Does K low f_slices_Reverse_byte_byte #[.slice (some ⟨b, 0, none⟩) 1 c] h fun r w => h = w := by
 refine Does.intro rfl (by decide +kernel) F_slices_Reverse_byte_byte rfl ?_
 simp +decide only [go_sem, W_region, Wx_some]
 rw [W_round]
 simp +decide only [go_sem, W_region, Wx_some]
def Vw (h W : Heap) (v : Value) (S : List UInt8) : Prop := ∃ b o c cs, v = .slice (some ⟨b, o, none⟩) S.length c ∧ h.size ≤ b ∧ b < W.size ∧ W.get b = .cells cs 1 ∧ cs.drop o = byteCells S ∧ o + S.length = cs.length ∧ ((c = S.length ∧ c < big) ∨ c = big)
theorem Vw.islice {h W : Heap} {v : Value} {S : List UInt8} (V : Vw h W v S) : islice W 1 v = some (byteCells S) := by
 obtain ⟨b, o, c, cs, rfl, _, _, hg, hd, hl, _⟩ := V
 simp only [Im.islice, Heap.look, hg, Blk.read, Nat.mul_one]
 rw [if_pos ⟨trivial, by omega⟩, hd, List.take_of_length_le (by rw [byteCells_length]; exact Nat.le_refl _)]
theorem Vw.app {h W : Heap} {v : Value} {S : List UInt8} (V : Vw h W v S) (x : Ext h W) (y : Heap) (hy : Ext W y) (d : UInt8) (hS : S.length ≤ 100) : ∃ w', iapp h.size y 1 1 v 1 (some (byteCells [d])) = some (.slice (some ⟨y.size, 0, none⟩) (S.length + 1) big, w') ∧
  Own h.size w' 1 (.slice (some ⟨y.size, 0, none⟩) (S.length + 1) big) (S.length + 1) (byteCells (S ++ [d])) ∧ w'.size = y.size + 1 ∧ Ext h w' := by
 obtain ⟨b, o, c, cs, rfl, h1, h2, hg, hd, hl, hc⟩ := V
 have := app_view (low := h.size) (size := 1) (bytes := 1) (o := o) (n := S.length) (c := c) (cs := cs) (k := 1) (new := byteCells [d]) (Nat.le_refl _) (x.trans hy) h1 (by have := hy.1; omega) ((hy.2 b h2).trans hg) (by omega) hc (by omega) (by omega) (by rfl) (by omega) (by omega)
 rw [hd, ← byteCells_append] at this
 exact this
theorem own_vw {h W : Heap} {v : Value} {S : List UInt8} (H : Own h.size W 1 v S.length (byteCells S)) (h0 : S ≠ []) : Vw h W v S := by
 rcases H with ⟨_, h1, _⟩ | ⟨b, rfl, h1, h2, h3, h4⟩
 ·exact absurd (List.eq_nil_of_length_eq_zero h1) h0
 ·exact ⟨b, 0, big, _, rfl, h1, h2, h3, rfl, by rw [byteCells_length]; omega, .inr rfl⟩
set_option maxHeartbeats 1000000 in
theorem number_run (n : Nat) (h : Heap) (hn : n ≤ 9999999) : Runs K f_edit_Number #[.int .i64 (n : Int)] h fun r w => r = .string (text (numT n)) := by
 refine Runs.of Kok (Does.intro rfl (by decide +kernel) F_edit_Number rfl ?_)
 obtain ⟨w1, e1, x1, hs1, z1⟩ := lay1 h (.cells [.int .u8 48] 1)
 obtain ⟨w2, e2, x2, hs2, z2, k2⟩ := put1 x1 (Nat.le_refl _) (.cells [.int .u8 48] 1)
 have f1 := isame_ok (P := Tryz.prog) (low := h.size) Tryz.underlying63 Tryz.underlying5 (o := 0) (n := 1) (c := 1) z1 (Nat.le_refl _) (by omega)
 rw [e2] at f1
 obtain ⟨w0, hw0⟩ : ∃ w0, w0 = n / 10000 := ⟨_, rfl⟩
 have hwl : w0 < 1000 := by omega
 have tenk : ((10000 : Nat) : Int) ≠ 0 := by decide
 have q0 : IntKind.i64.wrap (((n : Nat) : Int).tdiv 10000) = ((w0 : Nat) : Int) := by rw [hw0]; exact wq (p := 10000) (by omega) (by omega)
 have ten : (10 : Int) ≠ 0 := by decide
 apply W_join (α := Value) (fun v e W => e.size = 53 ∧ Ext h W ∧ e.get 0 = .int .i64 (n : Int) ∧ e.get 3 = v ∧ Vw h W v (wholeT w0))
 ·intro cont
  simp +decide only [go_sem, W_region, Wx_some, e1, f1, show (10000 : Int) ≠ 0 by decide, q0]
  by_cases h0 : (0 : Int) < ((w0 : Nat) : Int)
  case neg =>
   have : w0 = 0 := by omega
   rw [W_round]
   simp +decide only [go_sem, W_region, Wx_some, h0]
   refine W_does rfl rev_one fun r W hr => ?_
   subst hr
   simp +decide only [go_sem, Wx_some]
   refine cont (.slice (some ⟨h.size, 0, none⟩) 1 1) _ _ ⟨by simp +decide only [go_sem], x2, by simp +decide only [go_sem], by simp +decide only [go_sem], ?_⟩
   rw [wholeT, if_pos this]
   exact ⟨h.size, 0, 1, _, rfl, Nat.le_refl _, by omega, z2, rfl, rfl, .inl ⟨rfl, by simp [big]⟩⟩
  have hw1 : w0 ≠ 0 := by omega
  have V2 : Vw h w2 (.slice (some ⟨h.size, 0, none⟩) 1 1) [48] := ⟨h.size, 0, 1, _, rfl, Nat.le_refl _, by omega, z2, rfl, rfl, .inl ⟨rfl, by simp [big]⟩⟩
  obtain ⟨w3, e3, x3, hs3, z3⟩ := lay1 w2 (.cells [.int .u8 ((48 + w0 % 10 : Nat) : Int)] 1)
  obtain ⟨w4, e4, own4, hs4, x4⟩ := V2.app x2 w3 x3 (UInt8.ofNat (48 + w0 % 10)) (by simp)
  have hd9 : w0 % 10 ≤ 9 := by omega
  rw [bc1 hd9] at e4
  obtain ⟨m1, m2⟩ := w48 hd9
  have m3 : ((w0 : Nat) : Int).tmod 10 = ((w0 % 10 : Nat) : Int) := wr (p := 10)
  have m4 : IntKind.i64.wrap (((w0 : Nat) : Int).tdiv 10) = ((w0 / 10 : Nat) : Int) := wq (p := 10) (by omega) (by omega)
  rw [W_round]
  simp +decide only [go_sem, W_region, Wx_some, h0, ten, m3, m1, m2, m4, e3, z3, e4]
  refine W_loop (α := Nat × List UInt8 × Value) (fun k e W => e.size = 53 ∧ Ext h W ∧ e.get 0 = .int .i64 (n : Int) ∧ e.get 3 = k.2.2 ∧ e.get 4 = .int .i64 (k.1 : Int) ∧ Own h.size W 1 k.2.2 k.2.1.length (byteCells k.2.1) ∧ k.1 < 1000 ∧ 2 ≤ k.2.1.length ∧ k.2.1 ++ rdF 5 k.1 = 48 :: rdF 5 w0) (fun k => k.1) (w0 / 10, [48, UInt8.ofNat (48 + w0 % 10)], .slice (some ⟨w3.size, 0, none⟩) 2 big) ?_ ?_
  ·refine ⟨by simp +decide only [go_sem], x4, by simp +decide only [go_sem], by simp +decide only [go_sem], by simp +decide only [go_sem], own4, by simp only; omega, by simp, ?_⟩
   rw [rdF_step hw1 (by omega)]
   rfl
  clear e4 own4 x4 e3 x3 z3 hs3 hs4
  rintro ⟨w', S, v⟩ e W ⟨hsz, xW, g0, g3, g4, own, hw', hS2, hSd⟩ next
  simp only at g3 g4 own hw' hS2 hSd
  have hlen : S.length + (rdF 5 w').length = 1 + (rdF 5 w0).length := by
   have := congrArg List.length hSd
   simp only [List.length_append, List.length_cons] at this
   omega
  have hl3 : (rdF 5 w0).length ≤ 3 := rdF_lt (by omega) (k := 3) (by omega)
  by_cases h1 : (0 : Int) < ((w' : Nat) : Int)
  ·obtain ⟨w3, e3, x3, hs3, z3⟩ := lay1 W (.cells [.int .u8 ((48 + w' % 10 : Nat) : Int)] 1)
   obtain ⟨w4, e4, own4, hs4, x4⟩ := own_app2 (low := h.size) (bytes := 1) (k := 1) (new := byteCells [UInt8.ofNat (48 + w' % 10)]) (Nat.le_refl _) (xW.trans x3) (own.ext x3) (by omega) (by omega) rfl (by omega) (by omega)
   have hd9 : w' % 10 ≤ 9 := by omega
   rw [← byteCells_append] at own4
   rw [bc1 hd9] at e4
   obtain ⟨m1, m2⟩ := w48 hd9
   have m3 : ((w' : Nat) : Int).tmod 10 = ((w' % 10 : Nat) : Int) := wr (p := 10)
   have m4 : IntKind.i64.wrap (((w' : Nat) : Int).tdiv 10) = ((w' / 10 : Nat) : Int) := wq (p := 10) (by omega) (by omega)
   simp +decide only [go_sem, W_region, Wx_some, hsz, g0, g3, g4, h1, ten, m3, m1, m2, m4, e3, z3, e4]
   refine next (w' / 10, S ++ [UInt8.ofNat (48 + w' % 10)], .slice (some ⟨w3.size, 0, none⟩) (S.length + 1) big) _ _ ⟨by simp +decide only [go_sem, hsz], x4, by simp +decide only [go_sem, hsz, g0], by simp +decide only [go_sem, hsz], by simp +decide only [go_sem, hsz], by rw [List.length_append]; exact own4, by simp only; omega, by simp; omega, ?_⟩ (by simp only; omega)
   rw [rdF_step (by omega) (by omega)] at hSd
   rw [List.append_assoc]
   exact hSd
  ·have hw0' : w' = 0 := by omega
   subst hw0'
   rw [rdF_zero, List.append_nil] at hSd
   rcases own with ⟨_, hh, _⟩ | ⟨b, rfl, hb1, hb2, hb3, hb4⟩
   ·omega
   have i1 := irsl_tail hb3 (m := S.length) (by rw [byteCells_length]) (by omega)
   have hm1 : (1 : Int) < ((S.length : Nat) : Int) := by omega
   simp +decide only [go_sem, W_region, Wx_some, hsz, g0, g3, g4, h1, hm1, i1]
   rw [hSd] at hb3
   have hSl : S.length - 1 = (rdF 5 w0).length := by rw [hSd]; simp
   rw [hSl]
   refine W_does rfl (rev_does hb1 hb2 hb3 (by omega) hl3) fun r W' hr => ?_
   obtain ⟨r1, r2, r3⟩ := hr
   simp +decide only [go_sem, Wx_some, hsz]
   refine cont (.slice (some ⟨b, 1, none⟩) (rdF 5 w0).length big) _ _ ⟨by simp +decide only [go_sem, hsz], ⟨by have := xW.1; omega, fun d hd => (r3 d (by omega)).trans (xW.2 d hd)⟩, by simp +decide only [go_sem, hsz, g0], by simp +decide only [go_sem, hsz], ?_⟩
   rw [wholeT, if_neg hw1]
   exact ⟨b, 1, big, _, by rw [List.length_reverse], hb1, by omega, r1, rfl, by simp [byteCells]; omega, .inr rfl⟩
 rintro v e W ⟨hsz, xW, g0, g3, V⟩
 obtain ⟨r0, hr0⟩ : ∃ r0, r0 = n % 10000 := ⟨_, rfl⟩
 have hrl : r0 < 10000 := by omega
 have q1 : ((n : Nat) : Int).tmod 10000 = ((r0 : Nat) : Int) := by rw [hr0]; exact wr (p := 10000)
 have hnum : numT n = wholeT w0 ++ fracT r0 := by rw [numT, hw0, hr0]
 have hwl' := (okW_of hwl).2.2.1
 by_cases h0 : (0 : Int) < ((r0 : Nat) : Int)
 case neg =>
  have : r0 = 0 := by omega
  have hi := V.islice
  simp +decide only [go_sem, W_region, Wx_some, hsz, g0, g3, show (10000 : Int) ≠ 0 by decide, q1, h0]
  rw [W_round]
  obtain ⟨b, o, c, cs, rfl, _⟩ := V
  rw [islice_at] at hi
  simp +decide only [go_sem, W_region, Wx_some, hsz, g0, g3, h0, hi, icvs_bytes]
  rw [hnum, this]
  simp [fracT]
 have hr1 : r0 ≠ 0 := by omega
 obtain ⟨w3, e3, x3, hs3, z3⟩ := lay1 W (.cells [.int .u8 46] 1)
 obtain ⟨w4, e4, own4, hs4, x4⟩ := V.app xW w3 x3 46 (by omega)
 have b46 : byteCells [46] = [.int .u8 46] := rfl
 rw [b46] at e4
 simp +decide only [go_sem, W_region, Wx_some, hsz, g0, g3, show (10000 : Int) ≠ 0 by decide, q1, h0, e3, z3, e4]
 refine W_loop (α := Nat × Nat × Nat × List UInt8 × Value) (fun k e W => e.size = 53 ∧ Ext h W ∧ e.get 3 = k.2.2.2.2 ∧ e.get 5 = .int .i64 (k.1 : Int) ∧ e.get 6 = .int .i64 (k.2.1 : Int) ∧ Own h.size W 1 k.2.2.2.2 k.2.2.2.1.length (byteCells k.2.2.2.1) ∧ k.2.2.2.1 ≠ [] ∧ k.2.2.2.1.length + k.2.2.1 ≤ 8 ∧
  (k.1 = 0 ∨ (1 ≤ k.2.2.1 ∧ k.2.1 = 10 ^ (k.2.2.1 - 1) ∧ k.1 < 10 * k.2.1)) ∧ k.2.1 ≤ 1000 ∧ k.1 ≤ 10000 ∧ k.2.2.2.1 ++ frF k.2.2.1 k.1 k.2.1 = wholeT w0 ++ fracT r0) (fun k => k.2.2.1) (r0, 1000, 4, wholeT w0 ++ [46], .slice (some ⟨w3.size, 0, none⟩) ((wholeT w0).length + 1) big) ?_ ?_
 ·refine ⟨by simp +decide only [go_sem, hsz], x4, by simp +decide only [go_sem, hsz], by simp +decide only [go_sem, hsz], by simp +decide only [go_sem, hsz]; rfl, by rw [List.length_append]; exact own4, by simp, by simp; omega, .inr ⟨by simp only; omega, rfl, by simp only; omega⟩, Nat.le_refl _, by simp only; omega, ?_⟩
  simp [fracT, hr1]
 clear e4 own4 x4 e3 x3 z3 hs3 hs4 V g3 xW hsz g0
 rintro ⟨r, p, f, S, v⟩ e W ⟨hsz, xW, g3, g5, g6, own, hS0, hSf, hrp, hp, hr, hSd⟩ next
 simp only at g3 g5 g6 own hS0 hSf hrp hp hr hSd
 by_cases h1 : (0 : Int) < ((r : Nat) : Int)
 ·obtain ⟨hf1, hpe, hrlt⟩ := hrp.resolve_left (by omega)
  obtain ⟨g, rfl⟩ : ∃ g, f = g + 1 := ⟨f - 1, by omega⟩
  have hp0 : 0 < p := by omega
  have hd9 : r / p ≤ 9 := by
   have : r / p < 10 := (Nat.div_lt_iff_lt_mul hp0).2 hrlt
   omega
  obtain ⟨w3, e3, x3, hs3, z3⟩ := lay1 W (.cells [.int .u8 ((48 + r / p : Nat) : Int)] 1)
  obtain ⟨w4, e4, own4, hs4, x4⟩ := own_app2 (low := h.size) (bytes := 1) (k := 1) (new := byteCells [UInt8.ofNat (48 + r / p)]) (Nat.le_refl _) (xW.trans x3) (own.ext x3) (by omega) (by omega) rfl (by omega) (by omega)
  rw [← byteCells_append] at own4
  rw [bc1 hd9] at e4
  obtain ⟨m1, m2⟩ := w48 hd9
  have pne : ((p : Nat) : Int) ≠ 0 := by omega
  have m3 := wq (n := r) (p := p) (by omega) hp0
  have m4 := wr (n := r) (p := p)
  have m5 : IntKind.i64.wrap (((p : Nat) : Int).tdiv 10) = ((p / 10 : Nat) : Int) := wq (p := 10) (by omega) (by omega)
  have hmod : r % p < p := Nat.mod_lt _ hp0
  have u1 : ibinop Tryz.prog .quo 3 (.int .i64 ((r : Nat) : Int)) (.int .i64 ((p : Nat) : Int)) = some (.int .i64 ((r / p : Nat) : Int)) := by rw [ibinop_quo pne, m3]
  have u2 : ibinop Tryz.prog .rem 3 (.int .i64 ((r : Nat) : Int)) (.int .i64 ((p : Nat) : Int)) = some (.int .i64 ((r % p : Nat) : Int)) := by rw [ibinop_rem pne, m4]
  simp +decide only [go_sem, W_region, Wx_some, hsz, g3, g5, g6, h1, u1, u2, ten, m1, m2, m5, e3, z3, e4]
  refine next (r % p, p / 10, g, S ++ [UInt8.ofNat (48 + r / p)], .slice (some ⟨w3.size, 0, none⟩) (S.length + 1) big) _ _ ⟨by simp +decide only [go_sem, hsz], x4, by simp +decide only [go_sem, hsz], by simp +decide only [go_sem, hsz], by simp +decide only [go_sem, hsz], by rw [List.length_append]; exact own4, by simp, by simp; omega, ?_, by simp only; omega, by simp only; omega, ?_⟩ (by simp only; omega)
  ·simp only
   rw [Nat.add_sub_cancel] at hpe
   cases g with
   | zero =>
     left
     have p1 : p = 1 := by simpa using hpe
     rw [p1]
     exact Nat.mod_one r
   | succ g =>
     right
     rw [Nat.pow_succ] at hpe
     refine ⟨by omega, ?_, by omega⟩
     rw [Nat.add_sub_cancel]
     omega
  ·rw [frF_step (by omega)] at hSd
   rw [List.append_assoc]
   exact hSd
 ·have hr00 : r = 0 := by omega
  subst hr00
  rw [frF_zero, List.append_nil] at hSd
  have V := own_vw own hS0
  have hi := V.islice
  obtain ⟨b, o, c, cs, rfl, _⟩ := V
  rw [islice_at] at hi
  simp +decide only [go_sem, W_region, Wx_some, hsz, g3, g5, g6, h1, hi, icvs_bytes]
  rw [hnum, hSd]
theorem digits_run (n : Nat) (h : Heap) (hn : n ≤ 99999) : Runs K f_ref28_digits #[.int .i64 (n : Int)] h fun r w => r = .string (text (wholeT n)) := by
 refine Runs.of Kok (Does.intro rfl (by decide +kernel) F_ref28_digits rfl ?_)
 have ten : (10 : Int) ≠ 0 := by decide
 have emp : (⟨#[]⟩ : ByteArray) = text [] := rfl
 have ne : ∀ S : List UInt8, S ≠ [] → ¬ text S = text [] := fun S hS hh => hS (text_inj.1 hh)
 have lo : ∀ {f n : Nat}, (rdF f n).length ≤ f := fun {f n} => rdF_len
 simp +decide only [go_sem, W_region, Wx_some]
 refine W_loop (α := Nat × List UInt8) (fun k e W => e.size = 21 ∧ Ext h W ∧ e.get 0 = .int .i64 (k.1 : Int) ∧ e.get 3 = .string (text k.2) ∧ k.1 ≤ 99999 ∧ (k.2 = [] → k.1 = n) ∧ (k.2 ≠ [] → (rdF 5 k.1).reverse ++ k.2 = wholeT n) ∧ k.2.length ≤ 5) (fun k => 2 * k.1 + if k.2 = [] then 1 else 0) (n, []) ?_ ?_
 ·exact ⟨by simp +decide only [go_sem], Ext.refl h, by simp +decide only [go_sem], by simp +decide only [go_sem]; rfl, hn, fun _ => rfl, fun hh => absurd rfl hh, by simp⟩
 rintro ⟨m, S⟩ e W ⟨hsz, xW, g0, g3, hm, hS0, hS1, hSl⟩ next
 simp only at g0 g3 hm hS0 hS1 hSl
 have done : ¬ (0 : Int) < ((m : Nat) : Int) → S ≠ [] → text S = text (wholeT n) := fun h1 hS => by
  have := hS1 hS
  have m0 : m = 0 := by omega
  rw [m0, rdF_zero] at this
  rw [← this]
  rfl
 have hd9 : m % 10 ≤ 9 := by omega
 obtain ⟨m1, m2⟩ := w48 hd9
 have m3 : ((m : Nat) : Int).tmod 10 = ((m % 10 : Nat) : Int) := wr (p := 10)
 have m4 : IntKind.i64.wrap (((m : Nat) : Int).tdiv 10) = ((m / 10 : Nat) : Int) := wq (p := 10) (by omega) (by omega)
 obtain ⟨w3, e3, x3, hs3, z3⟩ := lay1 W (.cells [.int .u8 ((48 + m % 10 : Nat) : Int)] 1)
 have cv := icvs_bytes (l := [UInt8.ofNat (48 + m % 10)]) (h := w3)
 rw [bc1 hd9] at cv
 have cat := cat_ok (P := Tryz.prog) (t := 9) (a := [UInt8.ofNat (48 + m % 10)]) (b := S) (by simp; omega)
 have step : (0 < m ∨ S = []) → (UInt8.ofNat (48 + m % 10) :: S ≠ [] → (rdF 5 (m / 10)).reverse ++ UInt8.ofNat (48 + m % 10) :: S = wholeT n) := fun hc _ => by
  by_cases hm0 : m = 0
  ·have hS : S = [] := hc.resolve_left (by omega)
   have hn0 := hS0 hS
   subst hS
   rw [← hn0, hm0]
   rfl
  ·have e5 : (rdF 5 m).reverse = (rdF 5 (m / 10)).reverse ++ [UInt8.ofNat (48 + m % 10)] := by rw [rdF_step hm0 (by omega), List.reverse_cons]
   by_cases hS : S = []
   ·have hn0 := hS0 hS
    subst hS
    rw [← hn0, wholeT, if_neg hm0, e5]
   ·rw [← hS1 hS, e5, List.append_assoc]
    rfl
 have few : (0 < m ∨ S = []) → S.length + 1 ≤ 5 := fun hc => by
  by_cases hS : S = []
  ·rw [hS]
   simp
  ·have hm0 : m ≠ 0 := by
    rcases hc with hc | hc
    ·omega
    ·exact absurd hc hS
   have := congrArg List.length (hS1 hS)
   simp only [List.length_append, List.length_reverse] at this
   have h1 : 1 ≤ (rdF 5 m).length := by rw [rdF_step hm0 (by omega)]; simp
   have h2 : (wholeT n).length ≤ 5 := by
    unfold wholeT
    split
    ·simp
    ·rw [List.length_reverse]
     exact rdF_len
   omega
 by_cases h1 : (0 : Int) < ((m : Nat) : Int)
 ·simp +decide only [go_sem, W_region, Wx_some, hsz, g0, g3, h1, ten, m3, m1, m2, m4, e3, z3, cv, cat]
  refine next (m / 10, UInt8.ofNat (48 + m % 10) :: S) _ _ ⟨by simp +decide only [go_sem, hsz], xW.trans x3, by simp +decide only [go_sem, hsz], by simp +decide only [go_sem, hsz], by simp only; omega, by simp, step (.inl (by omega)), by simpa using few (.inl (by omega))⟩ ?_
  simp only
  rw [if_neg (by simp)]
  omega
 ·by_cases hS : S = []
  ·have hm0 : m = 0 := by omega
   subst hS
   simp +decide only [go_sem, W_region, Wx_some, hsz, g0, g3, h1, emp, ten, m3, m1, m2, m4, e3, z3, cv, cat]
   refine next (m / 10, [UInt8.ofNat (48 + m % 10)]) _ _ ⟨by simp +decide only [go_sem, hsz], xW.trans x3, by simp +decide only [go_sem, hsz], by simp +decide only [go_sem, hsz], by simp only; omega, by simp, step (.inr rfl), by simp⟩ ?_
   simp only
   rw [if_neg (by simp), if_pos trivial]
   omega
  ·simp +decide only [go_sem, W_region, Wx_some, hsz, g0, g3, h1, emp, ne S hS]
   rw [done h1 hS]
theorem rt0_nil : rt0 [] = [] := rfl
theorem rt0_snoc (T : List UInt8) (c : UInt8) : rt0 (T ++ [c]) = if c = 48 then rt0 T else T ++ [c] := by
 unfold rt0
 rw [List.reverse_append, List.reverse_singleton, List.singleton_append]
 by_cases h : c = 48
 ·rw [if_pos h, List.dropWhile_cons_of_pos (by simp [h])]
 ·rw [if_neg h, List.dropWhile_cons_of_neg (by simp [h]), List.reverse_cons, List.reverse_reverse]
theorem rnumber_run (n : Nat) (h : Heap) (hn : n ≤ 9999999) : Runs K f_ref28_Number #[.int .i64 (n : Int)] h fun r w => r = .string (text (numT n)) := by
 refine Runs.of Kok (Does.intro rfl (by decide +kernel) F_ref28_Number rfl ?_)
 obtain ⟨w0, hw0⟩ : ∃ w0, w0 = n / 10000 := ⟨_, rfl⟩
 obtain ⟨r0, hr0⟩ : ∃ r0, r0 = n % 10000 := ⟨_, rfl⟩
 have hwl : w0 < 1000 := by omega
 have hrl : r0 < 10000 := by omega
 have tenk : (10000 : Int) ≠ 0 := by decide
 have q0 : IntKind.i64.wrap (((n : Nat) : Int).tdiv 10000) = ((w0 : Nat) : Int) := by rw [hw0]; exact wq (p := 10000) (by omega) (by omega)
 have q1 : ((n : Nat) : Int).tmod 10000 = ((r0 : Nat) : Int) := by rw [hr0]; exact wr (p := 10000)
 have q2 : IntKind.i64.wrap (10000 + ((r0 : Nat) : Int)) = ((10000 + r0 : Nat) : Int) := by rw [wrap_i64 (by omega) (by omega)]; omega
 have hnum : numT n = wholeT w0 ++ fracT r0 := by rw [numT, hw0, hr0]
 have hwl' := (okW_of hwl).2.2.1
 have hT : wholeT (10000 + r0) = (rdF 5 (10000 + r0)).reverse := by rw [wholeT, if_neg (by omega)]
 have hTl : (wholeT (10000 + r0)).length ≤ 5 := by rw [hT, List.length_reverse]; exact rdF_len
 have hT1 : 1 ≤ (wholeT (10000 + r0)).length := by rw [hT, List.length_reverse, rdF_step (by omega) (by omega)]; simp
 obtain ⟨T0, hT0⟩ : ∃ T0, T0 = (wholeT (10000 + r0)).drop 1 := ⟨_, rfl⟩
 have hT0l : T0.length ≤ 4 := by rw [hT0, List.length_drop]; omega
 have hrt : rt0 T0 = if r0 = 0 then [] else frF 4 r0 1000 := by
  by_cases h0 : r0 = 0
  ·rw [if_pos h0, hT0, hT, h0]
   exact zero_rt
  ·rw [if_neg h0, hT0, hT]
   exact (okF_of hrl h0).2.2.2.2.symm
 have emp : (⟨#[]⟩ : ByteArray) = text [] := rfl
 have dot : (⟨#[46]⟩ : ByteArray) = text [46] := rfl
 simp +decide only [go_sem, W_region, Wx_some, tenk, q0]
 refine W_call Kok (Nat.le_refl _) (digits_run w0 h (by omega)) fun r w x hr => ?_
 subst hr
 simp +decide only [go_sem, W_region, Wx_some, tenk, q1, q2]
 refine W_call Kok x.1 (digits_run (10000 + r0) w (by omega)) fun r w' x' hr => ?_
 subst hr
 have s1 : (((wholeT (10000 + r0)).drop 1).take ((wholeT (10000 + r0)).length - 1)) = T0 := by rw [List.take_of_length_le (by simp), hT0]
 simp +decide only [go_sem, W_region, Wx_some, show Int.toNat 1 = 1 from rfl, hT1, s1]
 have x2 := x.trans x'
 refine W_loop (α := List UInt8) (fun T e W => e.size = 36 ∧ Ext h W ∧ e.get 3 = .string (text (wholeT w0)) ∧ e.get 4 = .string (text T) ∧ rt0 T = rt0 T0 ∧ T.length ≤ 4) (fun T => T.length) T0 ?_ ?_
 ·exact ⟨by simp +decide only [go_sem], x2, by simp +decide only [go_sem], by simp +decide only [go_sem], rfl, hT0l⟩
 rintro T e W ⟨hsz, xW, g3, g4, hrtT, hTl'⟩ next
 rcases List.eq_nil_or_concat T with rfl | ⟨T', c, rfl⟩
 ·rw [rt0_nil, hrt] at hrtT
  have h00 : r0 = 0 := by
   by_cases h0 : r0 = 0
   ·exact h0
   ·rw [if_neg h0] at hrtT
    have := (okF_of hrl h0).2.1
    rw [← hrtT] at this
    simp at this
  simp +decide only [go_sem, W_region, Wx_some, hsz, g3, g4, emp, List.length_nil, Int.natCast_zero, Int.lt_irrefl]
  rw [hnum, h00]
  simp [fracT]
 rw [List.concat_eq_append] at *
 have hl1 : (T' ++ [c]).length = T'.length + 1 := by simp
 have d0 : (0 : Int) < ((T'.length + 1 : Nat) : Int) := by omega
 have i1 : IntKind.i64.wrap (((T'.length + 1 : Nat) : Int) - 1) = ((T'.length : Nat) : Int) := by rw [wrap_i64 (by rw [hl1] at hTl'; omega) (by rw [hl1] at hTl'; omega)]; omega
 have ic := ichar_text (l := T' ++ [c]) (i := T'.length) (a := c) (by simp)
 have c0 : (0 : Int) ≤ ((T'.length : Nat) : Int) := by omega
 have c1 : T'.length ≤ T'.length + 1 := by omega
 have tk : ((T' ++ [c]).drop 0).take (T'.length - 0) = T' := by simp
 by_cases h48 : c = 48
 ·have hc : ((c.toNat : Nat) : Int) = 48 := by rw [h48]; rfl
  rw [rt0_snoc, if_pos h48] at hrtT
  simp +decide only [go_sem, W_region, Wx_some, hsz, g3, g4, hl1, d0, i1, ic, hc, c0, Int.toNat_natCast, Nat.zero_le, c1, tk, Nat.sub_zero]
  refine next T' _ _ ⟨by simp +decide only [go_sem, hsz], xW, by simp +decide only [go_sem, hsz, g3], ?_, hrtT, by rw [hl1] at hTl'; omega⟩ (by rw [hl1]; omega)
  simp +decide only [go_sem, W_region, Wx_some, hsz]
  simp
 ·have hc : ¬ ((c.toNat : Nat) : Int) = 48 := by
   intro hh
   apply h48
   apply UInt8.toNat_inj.1
   have : (48 : UInt8).toNat = 48 := rfl
   omega
  have hne : ¬ text (T' ++ [c]) = text [] := fun hh => by
   have := text_inj.1 hh
   simp at this
  rw [rt0_snoc, if_neg h48, hrt] at hrtT
  have h0 : r0 ≠ 0 := by
   intro hh
   rw [if_pos hh] at hrtT
   simp at hrtT
  rw [if_neg h0] at hrtT
  have cat1 := cat_ok (P := Tryz.prog) (t := 9) (a := wholeT w0) (b := [46]) (by simp; omega)
  have cat2 := cat_ok (P := Tryz.prog) (t := 9) (a := wholeT w0 ++ [46]) (b := T' ++ [c]) (by simp at hTl' ⊢; omega)
  simp +decide only [go_sem, W_region, Wx_some, hsz, g3, g4, hl1, d0, i1, ic, hc, emp, dot, hne, cat1, cat2]
  rw [hnum, fracT, if_neg h0, ← hrtT]
  simp
open Go.Im.Heads in
theorem num_asc {n : Nat} (h : n ≤ 9999999) : ∀ c ∈ numT n, c.toNat < 128 := by
 have dig : ∀ {S : List UInt8}, (I8 S).all isD = true → ∀ c ∈ S, c.toNat < 128 := fun {S} hS c hc => by
  have := List.all_eq_true.1 hS (c.toNat : Int) (List.mem_map.2 ⟨c, hc, rfl⟩)
  simp only [isD, Bool.and_eq_true, decide_eq_true_eq] at this
  omega
 intro c hc
 rw [numT, List.mem_append] at hc
 rcases hc with hc | hc
 ·exact dig (okW_of (by omega)).1 c hc
 ·unfold fracT at hc
  split at hc
  ·simp at hc
  ·rename_i h0
   rcases List.mem_cons.1 hc with rfl | hc
   ·decide
   ·exact dig (okF_of (by omega) h0).1 c hc
theorem num_len {n : Nat} (h : n ≤ 9999999) : (numT n).length ≤ 8 := by
 rw [numT, List.length_append]
 have := (okW_of (w := n / 10000) (by omega)).2.2.1
 have h2 : (fracT (n % 10000)).length ≤ 5 := by
  unfold fracT
  split
  ·simp
  ·rename_i h0
   have := (okF_of (r := n % 10000) (by omega) h0).2.2.1
   simp
   omega
 omega
end Go.Proofs.YtachkofbmodnnaaGreat.E7
namespace Go.Im.Editing
open Go Go.Im Go.Im.Lexing Go.Im.Heads Go.Im.Defn
structure EdT where
 rows : List (Nat × ByteArray)
 nx : Nat
def erv (rows : List (Nat × ByteArray)) : List Value := rows.flatMap fun p => [.int .i64 (p.1 : Int), .string p.2]
theorem erv_length (a : List (Nat × ByteArray)) : (erv a).length = a.length * 2 := by
 induction a with
 | nil => rfl
 | cons p a ih =>
   simp only [erv, List.flatMap_cons, List.length_append, List.length_cons, List.length_nil] at ih ⊢
   omega
theorem erv_append (a b : List (Nat × ByteArray)) : erv (a ++ b) = erv a ++ erv b := by simp [erv]
theorem erv_at : ∀ {rows : List (Nat × ByteArray)} {i : Nat} {p : Nat × ByteArray}, rows[i]? = some p → (erv rows)[i * 2]? = some (.int .i64 (p.1 : Int)) ∧ (erv rows)[i * 2 + 1]? = some (.string p.2)
 | [], i, p, h => by simp at h
 | q :: rows, 0, p, h => by
   cases h
   exact ⟨rfl, rfl⟩
 | q :: rows, i + 1, p, h => by
   have e : erv (q :: rows) = .int .i64 (q.1 : Int) :: .string q.2 :: erv rows := rfl
   obtain ⟨h1, h2⟩ := erv_at (rows := rows) (i := i) (by simpa using h)
   rw [e, show (i + 1) * 2 = i * 2 + 2 by omega]
   exact ⟨h1, by rw [show i * 2 + 2 + 1 = i * 2 + 1 + 2 by omega]; exact h2⟩
def EdT.texts (x : EdT) : List ByteArray := x.rows.map (·.2)
theorem EdT.texts_len (x : EdT) : x.texts.length = x.rows.length := by simp [EdT.texts]
def EV (w : Heap) (v : Value) (x : EdT) : Prop := ∃ q a c, v = .pointer (some ⟨q, 0, none⟩) ∧ q < w.size ∧ w.get q = .cells [.slice a x.rows.length c, .int .i64 (x.nx : Int)] 2 ∧ Sl w 2 a x.rows.length c (erv x.rows)
theorem EV.ext {w w' : Heap} (k : Ext w w') {v : Value} {x : EdT} (H : EV w v x) : EV w' v x := by
 obtain ⟨q, a, c, h1, h2, h3, h4⟩ := H
 exact ⟨q, a, c, h1, by have := k.1; omega, (k.2 q h2).trans h3, h4.ext k⟩
theorem sl_row {h : Heap} {a : Option Addr} {c i : Nat} {rows : List (Nat × ByteArray)} (s : Sl h 2 a rows.length c (erv rows)) {p : Nat × ByteArray} (hp : rows[i]? = some p) :
  ∃ b o cs, a = some ⟨b, o, none⟩ ∧ b < h.size ∧ (h.get b).read = .cells cs 2 ∧ cs[o + i * 2]? = some (.int .i64 (p.1 : Int)) ∧ cs[o + i * 2 + 1]? = some (.string p.2) ∧ (cs.drop (o + i * 2)).take 2 = [.int .i64 (p.1 : Int), .string p.2] ∧ o + i * 2 + 2 ≤ cs.length := by
 have hi : i < rows.length := (List.getElem?_eq_some_iff.1 hp).1
 obtain ⟨b, o, cs, h1, h2, h3, h4, h5⟩ := s.at hi
 obtain ⟨g1, g2⟩ := erv_at hp
 have get : ∀ j, j < rows.length * 2 → cs[o + j]? = (erv rows)[j]? := fun j hj => by rw [h5, List.getElem?_take, if_pos hj, List.getElem?_drop]
 have c1 := (get (i * 2) (by omega)).trans g1
 have c2 := (get (i * 2 + 1) (by omega)).trans g2
 have hle : o + i * 2 + 2 ≤ cs.length := by omega
 refine ⟨b, o, cs, h1, h2, h3, c1, c2, ?_, hle⟩
 obtain ⟨k1, e1⟩ := List.getElem?_eq_some_iff.1 c1
 obtain ⟨k2, e2⟩ := List.getElem?_eq_some_iff.1 c2
 rw [List.drop_eq_getElem_cons k1, e1]
 have k2' : o + i * 2 + 1 < cs.length := k2
 rw [List.drop_eq_getElem_cons k2']
 have e2' : cs[o + i * 2 + 1] = .string p.2 := e2
 rw [e2']
 rfl
end Go.Im.Editing
namespace Go.Proofs.YtachkofbmodnnaaGreat.D5
open Go Go.Im Go.Im.Limbs Go.Im.Lexing Go.Im.Heads Go.Im.Editing Go.Im.Defn Go.Proofs Go.RowKit Hd H2 H3 H4 H5 H7 H8 D2 D3 D4 E7
set_option maxRecDepth 100000
def tcells (xs : List ByteArray) (i : Nat) : List Value := sv (xs.take i) ++ List.replicate (xs.length - i) (.string ByteArray.empty)
theorem tcells_put {xs : List ByteArray} {i : Nat} {x : ByteArray} (h : xs[i]? = some x) : (tcells xs i).take i ++ [.string x] ++ (tcells xs i).drop (i + 1) = tcells xs (i + 1) := by
 have hi := (List.getElem?_eq_some_iff.1 h).1
 have hl : (sv (xs.take i)).length = i := by simp [sv]; omega
 unfold tcells
 rw [List.take_append_of_le_length (by omega), List.take_of_length_le (by omega), List.drop_append, List.drop_of_length_le (by omega), hl, List.take_add_one, h, show i + 1 - i = 1 by omega, show xs.length - i = (xs.length - (i + 1)) + 1 by omega]
 simp [sv, List.replicate_succ]
theorem tcells_len (xs : List ByteArray) {i : Nat} (h : i ≤ xs.length) : (tcells xs i).length = xs.length := by simp [tcells, sv]; omega
theorem erows_run (x : EdT) (h : Heap) {v : Value} (V : EV h v x) (hm : x.rows.length ≤ 100000) : Runs K f_edit_Editor_Rows #[v] h fun r w => ∃ a c, r = .slice a x.texts.length c ∧ Sl w 1 a x.texts.length c (sv x.texts) := by
 obtain ⟨q, a, c, rfl, hq, hg, s⟩ := V
 refine Runs.of Kok (Does.intro rfl (by decide +kernel) F_edit_Editor_Rows rfl ?_)
 obtain ⟨n, hn⟩ : ∃ n, n = x.rows.length := ⟨_, rfl⟩
 have hnt : x.texts.length = n := by rw [x.texts_len, hn]
 obtain ⟨w1, e1, x1, hs1, z1⟩ := lay1 h (.cells ((List.replicate n [Value.string ByteArray.empty]).flatten) 1)
 have hfl : (List.replicate n [Value.string ByteArray.empty]).flatten = tcells x.texts 0 := by
  rw [tcells, hnt]
  simp [sv]
 have mk : imk h.size 1 16 [.string ByteArray.empty] ((n : Nat) : Int) ((n : Nat) : Int) = some (.slice (some ⟨h.size, 0, none⟩) n n, some (.cells ((List.replicate n [Value.string ByteArray.empty]).flatten) 1)) := imk_ok (by omega) (by omega) (by omega) (by omega)
 rw [hfl] at z1
 have hg1 : w1.get q = _ := (x1.2 q hq).trans hg
 have s1 := s.ext x1
 rw [← hn] at hg hg1 s s1
 simp +decide only [go_sem, W_region, Wx_some, hg, mk, e1, hg1]
 refine W_loop (α := Nat) (fun i e W => i ≤ n ∧ e.size = 29 ∧ Ext h W ∧ h.size < W.size ∧ W.get h.size = .cells (tcells x.texts i) 1 ∧ e.get 3 = .slice (some ⟨h.size, 0, none⟩) n n ∧ e.get 15 = .slice a n c ∧ e.get 16 = .int .i64 ((n : Nat) : Int) ∧ e.get 17 = .int .i64 (i : Int)) (fun i => n - i) 0 ?_ ?_
 ·exact ⟨Nat.zero_le _, by simp +decide only [go_sem], x1, by omega, z1, by simp +decide only [go_sem], by simp +decide only [go_sem], by simp +decide only [go_sem], by simp +decide only [go_sem]; rfl⟩
 rintro i e W ⟨hi, hsz, xW, hW, gW, e3, e15, e16, e17⟩ next
 by_cases hil : (i : Int) < ((n : Nat) : Int)
 ·obtain ⟨p, hp⟩ : ∃ p, x.rows[i]? = some p := ⟨_, List.getElem?_eq_getElem (by omega)⟩
  have sW := s.ext xW
  rw [hn] at sW
  obtain ⟨b, o, cs, rfl, q2, q3, q4, q5, q6, q7⟩ := sl_row sW hp
  have c0 : (0 : Int) ≤ (i : Int) := by omega
  have i1 : IntKind.i64.wrap ((i : Int) + 1) = ((i + 1 : Nat) : Int) := by rw [wrap_i64 (by omega) (by omega)]; omega
  obtain ⟨w2, e2, x2, hs2, z2⟩ := lay1 W (.cells [.int .i64 0, .string ByteArray.empty] 2)
  obtain ⟨w3, f3, x3, hs3, z3, k3⟩ := put1 (x2) (Nat.le_refl _) (.cells [.int .i64 (p.1 : Int), .string p.2] 2)
  have g3 : w3.get h.size = .cells (tcells x.texts i) 1 := (k3 _ (by omega)).trans ((x2.2 _ hW).trans gW)
  have hxt : x.texts[i]? = some p.2 := by simp [EdT.texts, hp]
  have htl := tcells_len x.texts (i := i) (by omega)
  rw [hnt] at htl
  have hput := tcells_put hxt
  obtain ⟨w4, f4, x4, hs4, z4, k4⟩ := put1 (xW.trans x3) (Nat.le_refl h.size) (.cells (tcells x.texts (i + 1)) 1)
  have jW : h.size ≤ W.size := xW.1
  have jl : i + 1 ≤ n := by omega
  have hin : (i : Int) < ((n : Nat) : Int) := hil
  simp +decide only [go_sem, W_region, Wx_some, hsz, e3, e15, e16, e17, hil, c0, Int.toNat_natCast, q3, q6, q7, e2, z2, jW, f3, z3, Nat.mul_one, g3, htl, jl, hput, f4, i1]
  exact next (i + 1) _ _ ⟨by omega, by simp +decide only [go_sem, hsz], x4, by omega, z4, by simp +decide only [go_sem, hsz, e3], by simp +decide only [go_sem, hsz, e15], by simp +decide only [go_sem, hsz, e16], by simp +decide only [go_sem, hsz]⟩ (by omega)
 ·have hin : i = n := by omega
  subst hin
  simp +decide only [go_sem, W_region, Wx_some, hsz, e3, e15, e16, e17, hil]
  rw [hnt]
  refine ⟨_, _, rfl, ?_⟩
  have e : tcells x.texts i = sv x.texts := by
   rw [tcells, ← hnt]
   simp
  rw [e] at gW
  by_cases h0 : i = 0
  ·have : x.texts = [] := List.eq_nil_of_length_eq_zero (by omega)
   rw [this, h0]
   exact .inr (.inl ⟨_, _, rfl, rfl, rfl, rfl⟩)
  ·exact .inr (.inr ⟨h.size, 0, _, rfl, by omega, hW, by rw [gW]; rfl, by simp [sv, hnt], by rw [List.drop_zero, List.take_of_length_le (by simp [sv, hnt])], .inl ⟨Nat.le_refl _, by simp [big]; omega⟩⟩)
theorem rerows_run (x : EdT) (h : Heap) {v : Value} (V : EV h v x) (hm : x.rows.length ≤ 100000) : Runs K f_ref28_Editor_Rows #[v] h fun r w => ∃ a c, r = .slice a x.texts.length c ∧ Sl w 1 a x.texts.length c (sv x.texts) := by
 obtain ⟨q, a, c, rfl, hq, hg, s⟩ := V
 refine Runs.of Kok (Does.intro rfl (by decide +kernel) F_ref28_Editor_Rows rfl ?_)
 obtain ⟨n, hn⟩ : ∃ n, n = x.rows.length := ⟨_, rfl⟩
 have hnt : x.texts.length = n := by rw [x.texts_len, hn]
 rw [← hn] at hg s
 simp +decide only [go_sem, W_region, Wx_some]
 refine W_loop (α := Nat × Value) (fun i e W => i.1 ≤ n ∧ e.size = 26 ∧ Ext h W ∧ e.get 0 = .pointer (some ⟨q, 0, none⟩) ∧ e.get 3 = i.2 ∧ Own h.size W 1 i.2 i.1 (sv (x.texts.take i.1)) ∧ e.get 4 = .int .i64 (i.1 : Int)) (fun i => n - i.1) (0, .slice none 0 0) ?_ ?_
 ·exact ⟨Nat.zero_le _, by simp +decide only [go_sem], Ext.refl h, by simp +decide only [go_sem], by simp +decide only [go_sem], Own.nil _ _ _, by simp +decide only [go_sem]; rfl⟩
 rintro ⟨i, u⟩ e W ⟨hi, hsz, xW, e0, e3, own, e4⟩ next
 simp only at hi e3 own e4
 have hgW : W.get q = _ := (xW.2 q hq).trans hg
 by_cases hil : (i : Int) < ((n : Nat) : Int)
 ·obtain ⟨p, hp⟩ : ∃ p, x.rows[i]? = some p := ⟨_, List.getElem?_eq_getElem (by omega)⟩
  have sW := s.ext xW
  rw [hn] at sW
  obtain ⟨b, o, cs, rfl, q2, q3, q4, q5, q6, q7⟩ := sl_row sW hp
  have c0 : (0 : Int) ≤ (i : Int) := by omega
  have i1 : IntKind.i64.wrap ((i : Int) + 1) = ((i + 1 : Nat) : Int) := by rw [wrap_i64 (by omega) (by omega)]; omega
  have hxt : x.texts[i]? = some p.2 := by simp [EdT.texts, hp]
  obtain ⟨w2, e2, x2, hs2, z2⟩ := lay1 W (.cells [.string p.2] 1)
  obtain ⟨w3, f3, o3, hs3, x3⟩ := own_app2 (low := h.size) (bytes := 16) (k := 1) (new := [.string p.2]) (Nat.le_refl _) (xW.trans x2) (own.ext x2) (by omega) (by omega) rfl (by omega) (by omega)
  have et : sv (x.texts.take (i + 1)) = sv (x.texts.take i) ++ [.string p.2] := by rw [List.take_add_one, hxt, sv_append]; rfl
  rw [← et] at o3
  simp +decide only [go_sem, W_region, Wx_some, hsz, e0, e3, e4, hgW, hil, c0, Int.toNat_natCast, q3, q5, e2, z2, f3, i1]
  exact next (i + 1, .slice (some ⟨w2.size, 0, none⟩) (i + 1) big) _ _ ⟨by simp only; omega, by simp +decide only [go_sem, hsz], x3, by simp +decide only [go_sem, hsz, e0], by simp +decide only [go_sem, hsz], o3, by simp +decide only [go_sem, hsz]⟩ (by simp only; omega)
 ·have hin : i = n := by omega
  subst hin
  simp +decide only [go_sem, W_region, Wx_some, hsz, e0, e3, e4, hgW, hil]
  rw [List.take_of_length_le (by omega)] at own
  rw [hnt]
  obtain ⟨a', c', rfl⟩ := own.shape
  exact ⟨a', c', rfl, own.sl⟩
def prT (x : EdT) : List UInt8 := 91 :: (numT x.nx ++ [93])
theorem prompt_run (x : EdT) (h : Heap) {v : Value} (V : EV h v x) (hm : x.nx ≤ 9999999) : Runs K f_edit_Editor_Prompt #[v] h fun r w => r = .string (text (prT x)) := by
 obtain ⟨q, a, c, rfl, hq, hg, s⟩ := V
 refine Runs.of Kok (Does.intro rfl (by decide +kernel) F_edit_Editor_Prompt rfl ?_)
 have b1 : (⟨#[91]⟩ : ByteArray) = text [91] := rfl
 have b2 : (⟨#[93]⟩ : ByteArray) = text [93] := rfl
 have nl := num_len hm
 have cat1 := cat_ok (P := Tryz.prog) (t := 9) (a := [91]) (b := numT x.nx) (by simp; omega)
 have cat2 := cat_ok (P := Tryz.prog) (t := 9) (a := 91 :: numT x.nx) (b := [93]) (by simp; omega)
 rw [List.cons_append] at cat1 cat2
 rw [List.nil_append] at cat1
 simp +decide only [go_sem, W_region, Wx_some, hg]
 refine W_call Kok (Nat.le_refl _) (number_run x.nx h hm) fun r w x' hr => ?_
 subst hr
 simp +decide only [go_sem, W_region, Wx_some, b1, b2, cat1, cat2, prT]
end Go.Proofs.YtachkofbmodnnaaGreat.D5
