/- Proved here: where no library is, nothing is kept; LibNobody answers true at every call in memory. -/
import Derived.Test.YtjamnjbfcecnnaaLHd
set_option linter.unusedSimpArgs false
set_option linter.unusedVariables false
namespace Go.Proofs.Ytjamnjbfcecnnaa.L20
open Go Go.Im Go.Proofs Go.RowKit Go.Proofs.Ytjamnjbfcecnnaa.Hd
set_option maxRecDepth 100000
def sv (ls : List ByteArray) : List Value := ls.map Value.string
/-- Nobody's library: no one, or one without a map. -/
def NoLib (w : Heap) (x : Value) : Prop := x = .pointer none ∨ ∃ q, x = .pointer (some ⟨q, 0, none⟩) ∧ q < w.size ∧ w.get q = .cells [.map none] 1
theorem NoLib.ext {w w' : Heap} (k : Ext w w') {x : Value} (H : NoLib w x) : NoLib w' x := by
  rcases H with H | ⟨q, h1, h2, h3⟩
  · exact .inl H
  · exact .inr ⟨q, h1, by have := k.1; omega, (k.2 q h2).trans h3⟩
theorem mapL : mapOf Try.prog 60 = some (.string, 44) := by kernel_rfl
theorem zeroL : tzero Try.prog 44 = some (.agg #[.pointer none]) := by kernel_rfl
theorem look_nil {h : Heap} {s : ByteArray} : ilookup Try.prog h 60 (.map none) (.string s) true = some (.tuple #[.agg #[.pointer none], .bool false]) := by
  simp only [ilookup, mapL, zeroL, imap, Instr.findNow, ifound]
  rfl
theorem save_none (s : ByteArray) (h : Heap) {x : Value} (N : NoLib h x) : Runs K f_lib_Library_law29_List_Save #[x, .string s, .agg #[.pointer none]] h fun r w => True := by
  refine Runs.of Kok (Does.intro rfl (by decide +kernel) F_lib_Library_law29_List_Save rfl ?_)
  rcases N with rfl | ⟨q, rfl, hq, hg⟩
  · simp +decide only [go_sem, W_region, Wx_some]
  · have hg' : (h.push (.cells [.pointer none] 1)).get q = _ := (push_lt hq _).trans hg
    obtain ⟨w1, e1, x1, hs1, z1⟩ := lay1 h (.cells [.pointer none] 1)
    rw [e1] at hg'
    simp +decide only [go_sem, W_region, Wx_some, e1, hg']
theorem load_none (s : ByteArray) (h : Heap) {x : Value} (N : NoLib h x) : Runs K f_lib_Library_law29_List_Load #[x, .string s] h fun r w => r = .tuple #[.agg #[.pointer none], .bool false] := by
  refine Runs.of Kok (Does.intro rfl (by decide +kernel) F_lib_Library_law29_List_Load rfl ?_)
  rcases N with rfl | ⟨q, rfl, hq, hg⟩
  · obtain ⟨w1, e1, x1, hs1, z1, z2⟩ := lay2 h (.cells [.pointer none] 1) (.cells [.pointer none] 1)
    simp +decide only [go_sem, W_region, Wx_some]
  · have hne : ¬ q = h.size := by omega
    simp +decide only [go_sem, W_region, Wx_some, hne, hg, look_nil]
theorem drop_none (ls : List ByteArray) (h : Heap) {x : Value} (N : NoLib h x) {a : Option Addr} {c : Nat} (s : Sl h 1 a ls.length c (sv ls)) (hm : ls.length ≤ 1000) : Runs K f_lib_Library_law29_List_Drop #[x, .slice a ls.length c] h fun r w => r = .int .i64 0 := by
  refine Runs.of Kok (Does.intro rfl (by decide +kernel) F_lib_Library_law29_List_Drop rfl ?_)
  simp +decide only [go_sem, W_region, Wx_some]
  refine W_loop (α := Nat) (fun i e w => i ≤ ls.length ∧ e.size = 32 ∧ Ext h w ∧ e.get 0 = x ∧ e.get 5 = .int .i64 0 ∧ e.get 10 = .slice a ls.length c ∧ e.get 11 = .int .i64 (ls.length : Int) ∧ e.get 12 = .int .i64 (i : Int)) (fun i => ls.length - i) 0 ?_ ?_
  · exact ⟨Nat.zero_le _, by simp +decide only [go_sem], Ext.refl h, by simp +decide only [go_sem], by simp +decide only [go_sem], by simp +decide only [go_sem], by simp +decide only [go_sem], by simp +decide only [go_sem]; rfl⟩
  rintro i e w ⟨hi, hsz, xw, e0, e5, e10, e11, e12⟩ next
  by_cases hil : (i : Int) < ((ls.length : Nat) : Int)
  · obtain ⟨y, hy⟩ : ∃ y, ls[i]? = some y := ⟨_, List.getElem?_eq_getElem (by omega)⟩
    obtain ⟨b, o, cs, rfl, q2, q3, q4⟩ := (s.ext xw).one (i := i) (x := .string y) (by simp [sv, hy])
    have c0 : (0 : Int) ≤ (i : Int) := by omega
    have i1 : IntKind.i64.wrap ((i : Int) + 1) = ((i + 1 : Nat) : Int) := by rw [wrap_i64 (by omega) (by omega)]; omega
    simp +decide only [go_sem, W_region, Wx_some, hsz, e0, e5, e10, e11, e12, hil, c0, Int.toNat_natCast, q3, q4]
    refine W_call Kok xw.1 (load_none y w (N.ext xw)) fun r w1 x1 hr => ?_
    subst hr
    obtain ⟨w2, e2, x2, hs2, z2⟩ := lay1 w1 (.cells [.pointer none] 1)
    obtain ⟨w3, e3, x3, hs3, z3, k3⟩ := put1 x2 (Nat.le_refl _) (.cells [.pointer none] 1)
    have j1 : h.size ≤ w1.size := (xw.trans x1).1
    simp +decide only [go_sem, W_region, Wx_some, hsz, e0, e5, e10, e11, e12, e2, z2, e3, j1, i1]
    exact next (i + 1) _ _ ⟨by omega, by simp +decide only [go_sem, hsz], xw.trans (x1.trans x3), by simp +decide only [go_sem, hsz, e0], by simp +decide only [go_sem, hsz, e5], by simp +decide only [go_sem, hsz, e10], by simp +decide only [go_sem, hsz, e11], by simp +decide only [go_sem, hsz]⟩ (by omega)
  · simp +decide only [go_sem, W_region, Wx_some, hsz, e0, e5, e10, e11, e12, hil]
theorem names_none (h : Heap) {x : Value} (N : NoLib h x) : Runs K f_lib_Library_law29_List_Names #[x] h fun r w => r = .slice none 0 0 := by
  rcases N with rfl | ⟨q, rfl, hq, hg⟩
  · exact ⟨1, _, h, rfl, Ext.refl h, rfl⟩
  · have e : namesRun #[.pointer (some ⟨q, 0, none⟩)] h = some (.slice none 0 0, h) := by
      simp only [namesRun, Heap.look, hg, Blk.read]
      rfl
    exact ⟨1, _, h, e, Ext.refl h, rfl⟩
/-- The law. -/
theorem law_run (ls : List ByteArray) (kd lv : Value) (h : Heap) {a : Option Addr} {c : Nat} (s : Sl h 1 a ls.length c (sv ls)) (hk : cellOK kd = true) (hl : cellOK lv = true) (hk2 : kd.cells = #[kd]) :
    Runs K f_law29_LibNobody #[.agg #[kd, .slice a ls.length c, lv]] h fun r _ => r = .bool true := by
  refine Runs.of Kok (Does.intro rfl (by decide +kernel) F_law29_LibNobody rfl ?_)
  obtain ⟨w1, e1, x1, hs1, z1⟩ := lay1 h (.cells [kd, .slice a ls.length c, lv] 3)
  by_cases hn : ((20 : Int) < ((ls.length : Nat) : Int))
  · simp +decide only [go_sem, W_region, Wx_some, hk, hl, e1, z1, hn]
    refine W_call Kok x1.1 (law29_awake_runs w1) fun r w x hr => ?_
    subst hr
    simp +decide only [go_sem, W_region, Wx_some]
  · obtain ⟨w2, e2, x2, hs2, z2, z22⟩ := lay2 w1 (.cells [.map none] 1) (.cells [.pointer none, .pointer (some ⟨w1.size, 0, none⟩)] 1)
    have hL : ls.length ≤ 20 := by omega
    have N0 : NoLib w2 (.pointer none) := .inl rfl
    have N1 : NoLib w2 (.pointer (some ⟨w1.size, 0, none⟩)) := .inr ⟨w1.size, rfl, by omega, z2⟩
    simp +decide only [go_sem, W_region, Wx_some, hk, hl, e1, z1, hn, e2]
    refine W_loop (α := Nat) (fun i e w => i ≤ 2 ∧ e.size = 60 ∧ Ext w2 w ∧ e.get 1 = .pointer (some ⟨h.size, 0, none⟩) ∧ e.get 15 = .slice (some ⟨w1.size + 1, 0, none⟩) 2 2 ∧ e.get 16 = .int .i64 ((2 : Nat) : Int) ∧ e.get 17 = .int .i64 (i : Int)) (fun i => 2 - i) 0 ?_ ?_
    · exact ⟨Nat.zero_le _, by simp +decide only [go_sem], Ext.refl _, by simp +decide only [go_sem], by simp +decide only [go_sem], by simp +decide only [go_sem], by simp +decide only [go_sem]; rfl⟩
    rintro i e w ⟨hi, hsz, xw, f1, f15, f16, f17⟩ next
    by_cases hi2 : (i : Int) < ((2 : Nat) : Int)
    · have K2 := x1.trans (x2.trans xw)
      have zz : w.get (w1.size + 1) = _ := (xw.2 _ (by omega)).trans z22
      have zt : w.get h.size = _ := (xw.2 _ (by omega)).trans ((x2.2 _ (by omega)).trans z1)
      obtain ⟨x, hx, hgx, hxv⟩ : ∃ x, NoLib w x ∧ ([Value.pointer none, Value.pointer (some ⟨w1.size, 0, none⟩)])[i]? = some x ∧ ∃ q, x = .pointer q := by
        obtain rfl | rfl : i = 0 ∨ i = 1 := by omega
        · exact ⟨_, N0.ext xw, rfl, _, rfl⟩
        · exact ⟨_, N1.ext xw, rfl, _, rfl⟩
      have c0 : (0 : Int) ≤ (i : Int) := by omega
      have i1 : IntKind.i64.wrap ((i : Int) + 1) = ((i + 1 : Nat) : Int) := by rw [wrap_i64 (by omega) (by omega)]; omega
      simp +decide only [go_sem, W_region, Wx_some, hsz, f1, f15, f16, f17, hi2, c0, Int.toNat_natCast, zz, hgx, Nat.zero_add, Nat.mul_one]
      refine W_loop (α := Nat) (fun k e' W => k ≤ ls.length ∧ e'.size = 60 ∧ Ext w W ∧ e'.get 1 = .pointer (some ⟨h.size, 0, none⟩) ∧ e'.get 15 = .slice (some ⟨w1.size + 1, 0, none⟩) 2 2 ∧ e'.get 16 = .int .i64 ((2 : Nat) : Int) ∧ e'.get 17 = .int .i64 (i : Int) ∧ e'.get 4 = x ∧ e'.get 5 = .int .i64 (k : Int)) (fun k => ls.length - k) 0 ?_ ?_
      · exact ⟨Nat.zero_le _, by simp +decide only [go_sem, hsz], Ext.refl _, by simp +decide only [go_sem, hsz, f1], by simp +decide only [go_sem, hsz, f15], by simp +decide only [go_sem, hsz, f16], by simp +decide only [go_sem, hsz, f17], by simp +decide only [go_sem, hsz], by simp +decide only [go_sem, hsz]; rfl⟩
      rintro k e' W ⟨hkl, hsz', xW, g1, g15, g16, g17, g4, g5⟩ next2
      have zW : W.get h.size = _ := (xW.2 _ (by have := xw.1; omega)).trans zt
      have KW := K2.trans xW
      have NW := hx.ext xW
      have sW := s.ext KW
      by_cases hkl2 : (k : Int) < ((ls.length : Nat) : Int)
      · obtain ⟨y, hy⟩ : ∃ y, ls[k]? = some y := ⟨_, List.getElem?_eq_getElem (by omega)⟩
        obtain ⟨b, o, cs, rfl, q2, q3, q4⟩ := sW.one (i := k) (x := .string y) (by simp [sv, hy])
        have k0 : (0 : Int) ≤ (k : Int) := by omega
        have k1 : IntKind.i64.wrap ((k : Int) + 1) = ((k + 1 : Nat) : Int) := by rw [wrap_i64 (by omega) (by omega)]; omega
        simp +decide only [go_sem, W_region, Wx_some, hsz', g1, g15, g16, g17, g4, g5, zW, hkl2, k0, Int.toNat_natCast, q3, q4]
        refine W_call Kok KW.1 (save_none y W NW) fun r W1 y1 hr => ?_
        have zW1 : W1.get h.size = _ := (y1.2 _ (by have := KW.1; have := xW.1; have := xw.1; omega)).trans zW
        have q3' : (W1.get b).read = _ := (congrArg Blk.read (y1.2 b q2)).trans q3
        simp +decide only [go_sem, W_region, Wx_some, hsz', g1, g15, g16, g17, g4, g5, zW1, hkl2, k0, Int.toNat_natCast, q3', q4]
        refine W_call Kok (KW.trans y1).1 (load_none y W1 (NW.ext y1)) fun r W2 y2 hr => ?_
        subst hr
        obtain ⟨W3, h3, y3, hs3, z3⟩ := lay1 W2 (.cells [.pointer none] 1)
        obtain ⟨W4, h4, y4, hs4, z4, k4⟩ := put1 y3 (Nat.le_refl _) (.cells [.pointer none] 1)
        have j2 : h.size ≤ W2.size := (KW.trans (y1.trans y2)).1
        simp +decide only [go_sem, W_region, Wx_some, hsz', g1, g15, g16, g17, g4, g5, h3, z3, h4, j2, k1]
        exact next2 (k + 1) _ _ ⟨by omega, by simp +decide only [go_sem, hsz'], xW.trans (y1.trans (y2.trans y4)), by simp +decide only [go_sem, hsz', g1], by simp +decide only [go_sem, hsz', g15], by simp +decide only [go_sem, hsz', g16], by simp +decide only [go_sem, hsz', g17], by simp +decide only [go_sem, hsz', g4], by simp +decide only [go_sem, hsz']⟩ (by omega)
      · simp +decide only [go_sem, W_region, Wx_some, hsz', g1, g15, g16, g17, g4, g5, zW, hkl2]
        refine W_call Kok KW.1 (drop_none ls W NW sW (by omega)) fun r W1 y1 hr => ?_
        subst hr
        have zW1 : W1.get h.size = _ := (y1.2 _ (by have := xW.1; have := xw.1; omega)).trans zW
        simp +decide only [go_sem, W_region, Wx_some, hsz', g1, g15, g16, g17, g4, g5]
        refine W_call Kok (KW.trans y1).1 (names_none W1 (NW.ext y1)) fun r W2 y2 hr => ?_
        subst hr
        simp +decide only [go_sem, W_region, Wx_some, hsz', g1, g15, g16, g17, g4, g5, i1]
        exact next (i + 1) _ _ ⟨by omega, by simp +decide only [go_sem, hsz'], xw.trans (xW.trans (y1.trans y2)), by simp +decide only [go_sem, hsz', g1], by simp +decide only [go_sem, hsz', g15], by simp +decide only [go_sem, hsz', g16], by simp +decide only [go_sem, hsz']⟩ (by omega)
    · simp +decide only [go_sem, W_region, Wx_some, hsz, f1, f15, f16, f17, hi2]
      refine W_call Kok (x1.trans (x2.trans xw)).1 (law29_awake_runs w) fun r w' x hr => ?_
      subst hr
      simp +decide only [go_sem, W_region, Wx_some, hsz]
end Go.Proofs.Ytjamnjbfcecnnaa.L20
