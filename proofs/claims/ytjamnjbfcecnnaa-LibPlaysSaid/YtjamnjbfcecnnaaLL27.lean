/- Proved here: LibPlays answers true at every list of acts in memory. -/
import Derived.Test.YtjamnjbfcecnnaaLL26
set_option linter.unusedSimpArgs false
set_option linter.unusedVariables false
namespace Go.Im.Lib
open Go Go.Im Go.Sort Go.Proofs.Ytjamnjbfcecnnaa.L20
abbrev Act3 := Int × List ByteArray × List Int
/-- Acts' cells. -/
def AV (h : Heap) (vals : List Value) (acts : List Act3) : Prop := vals.length = acts.length * 3 ∧ ∀ (i : Nat) (kd : Int) (nms : List ByteArray) (xs : List Int), acts[i]? = some (kd, nms, xs) → ∃ na nc la lc, vals[i * 3]? = some (.int .i64 kd) ∧ vals[i * 3 + 1]? = some (.slice na nms.length nc) ∧ vals[i * 3 + 2]? = some (.slice la xs.length lc) ∧
  Sl h 1 na nms.length nc (sv nms) ∧ Sl h 1 la xs.length lc (iv xs) ∧ ∀ s ∈ nms, s.size ≤ maxLen
theorem act_at {hh w : Heap} (k : Ext hh w) {acts : List Act3} {a : Option Addr} {c : Nat} {vals : List Value} (s : Sl hh 3 a acts.length c vals) (A : AV hh vals acts) {i : Nat} {kd : Int} {nms : List ByteArray} {xs : List Int} (hi : acts[i]? = some (kd, nms, xs)) :
    ∃ b o cs na nc la lc, a = some ⟨b, o, none⟩ ∧ b < w.size ∧ (w.get b).read = .cells cs 3 ∧ cs[o + i * 3 + 1]? = some (.slice na nms.length nc) ∧ cs[o + i * 3 + 2]? = some (.slice la xs.length lc) ∧ (cs.drop (o + i * 3)).take 3 = [.int .i64 kd, .slice na nms.length nc, .slice la xs.length lc] ∧ o + i * 3 + 3 ≤ cs.length ∧
      Sl hh 1 na nms.length nc (sv nms) ∧ Sl hh 1 la xs.length lc (iv xs) ∧ ∀ s ∈ nms, s.size ≤ maxLen := by
  have hlt : i < acts.length := (List.getElem?_eq_some_iff.1 hi).1
  obtain ⟨b, o, cs, h1, h2, h3, h4, h5⟩ := (s.ext k).at hlt
  obtain ⟨na, nc, la, lc, g1, g2, g3, g4, g5, g6⟩ := A.2 i kd nms xs hi
  have get : ∀ j, j < acts.length * 3 → cs[o + j]? = vals[j]? := fun j hj => by rw [h5, List.getElem?_take, if_pos hj, List.getElem?_drop]
  have c1 := (get (i * 3) (by omega)).trans g1
  have c2 := (get (i * 3 + 1) (by omega)).trans g2
  have c3 := (get (i * 3 + 2) (by omega)).trans g3
  refine ⟨b, o, cs, na, nc, la, lc, h1, h2, h3, c2, c3, ?_, by omega, g4, g5, g6⟩
  obtain ⟨k1, e1⟩ := List.getElem?_eq_some_iff.1 c1
  obtain ⟨k2, e2⟩ := List.getElem?_eq_some_iff.1 c2
  obtain ⟨k3, e3⟩ := List.getElem?_eq_some_iff.1 c3
  rw [List.drop_eq_getElem_cons k1, e1]
  have k2' : o + i * 3 + 1 < cs.length := k2
  rw [List.drop_eq_getElem_cons k2']
  have e2' : cs[o + i * 3 + 1] = .slice na nms.length nc := e2
  rw [e2']
  have k3' : o + i * 3 + 1 + 1 < cs.length := k3
  rw [List.drop_eq_getElem_cons k3']
  have e3' : cs[o + i * 3 + 1 + 1] = .slice la xs.length lc := e3
  rw [e3']
  rfl
theorem srt_uniq {L : List Ent} (h : Srt L) {nm : ByteArray} {xs ys : List Int} (h1 : (nm, xs) ∈ L) (h2 : (nm, ys) ∈ L) : xs = ys := by
  obtain ⟨i, hi⟩ := List.mem_iff_getElem?.1 h1
  obtain ⟨j, hj⟩ := List.mem_iff_getElem?.1 h2
  have ei : (names L)[i]? = some nm := by simp [names, hi]
  have ej : (names L)[j]? = some nm := by simp [names, hj]
  have : i = j := (List.getElem?_inj (List.getElem?_eq_some_iff.1 ei).1 h.nodup).1 (ei.trans ej.symm)
  subst this
  rw [hi] at hj
  cases hj
  rfl
end Go.Im.Lib
namespace Go.Proofs.Ytjamnjbfcecnnaa.L27
open Go Go.Im Go.Im.Lib Go.Proofs Go.RowKit Go.Proofs.Ytjamnjbfcecnnaa.Hd Go.Proofs.Ytjamnjbfcecnnaa.L20 Go.Proofs.Ytjamnjbfcecnnaa.L23 Go.Proofs.Ytjamnjbfcecnnaa.L24 Go.Proofs.Ytjamnjbfcecnnaa.L25 Go.Proofs.Ytjamnjbfcecnnaa.L26
set_option maxRecDepth 100000
set_option maxHeartbeats 1000000 in
theorem law_run (acts : List Act3) (h : Heap) {a : Option Addr} {c : Nat} {vals : List Value} (s : Sl h 3 a acts.length c vals) (A : AV h vals acts) :
    Runs K f_law29_LibPlays #[.slice a acts.length c] h fun r _ => r = .bool true := by
  refine Runs.of Kok (Does.intro rfl (by decide +kernel) F_law29_LibPlays rfl ?_)
  simp +decide only [go_sem, W_region, Wx_some]
  refine W_call Kok (Nat.le_refl _) (new_run h) fun r w2 x2 hr => ?_
  obtain ⟨rfl, hs2, gm, gl⟩ := hr
  obtain ⟨w3, f3, x3, hs3, z3⟩ := lay1 w2 (.cells [.pointer (some ⟨h.size + 1, 0, none⟩), .slice none 0 0, .pointer none, .pointer none] 4)
  have K3 := x2.trans x3
  have S0 : St h.size w3 ⟨w2.size, h.size + 1, h.size, w2.size, w2.size, w2.size, w2.size⟩ 100 [] := by
    refine ⟨fun b hb => ?_, by simp only; omega, ?_, ?_, ⟨[], 0, ?_, MR.empty _⟩, ⟨_, _, _, z3, RefS.nil _ _, .inl rfl, .inl rfl⟩, by simp, by simp⟩
    · simp [Bl.F, Fs] at hb
      omega
    · simp [Bl.F, Fs]
      omega
    · exact (x3.2 (h.size + 1) (by omega)).trans gl
    · exact (x3.2 h.size (by omega)).trans gm
  simp +decide only [go_sem, W_region, Wx_some, f3]
  refine W_loop (α := Nat × Bl × List Ent) (fun i e w => i.1 ≤ acts.length ∧ i.1 ≤ 60 ∧ e.size = 101 ∧ Ext h w ∧ St h.size w i.2.1 (100 + i.1) i.2.2 ∧ e.get 0 = .slice a acts.length c ∧ e.get 3 = .pointer (some ⟨i.2.1.wq, 0, none⟩) ∧ e.get 4 = .int .i64 (i.1 : Int)) (fun i => acts.length - i.1) (0, ⟨w2.size, h.size + 1, h.size, w2.size, w2.size, w2.size, w2.size⟩, []) ?_ ?_
  · exact ⟨Nat.zero_le _, by simp, by simp +decide only [go_sem], K3, S0, by simp +decide only [go_sem], by simp +decide only [go_sem], by simp +decide only [go_sem]; rfl⟩
  rintro ⟨i, x, L⟩ e w ⟨hi, hi6, hsz, xw, S, e0, e3, e4⟩ next
  simp only at hi hi6 S e3 e4
  by_cases hil : (i : Int) < ((acts.length : Nat) : Int)
  · by_cases h60 : (i : Int) < 60
    · obtain ⟨⟨kd, nms, xs⟩, hy⟩ : ∃ y, acts[i]? = some y := ⟨_, List.getElem?_eq_getElem (by omega)⟩
      obtain ⟨b, o, cs, na, nc, la, lc, rfl, q2, q3, q4, q5, q6, q7, q8, q9, q10⟩ := act_at xw s A hy
      have c0 : (0 : Int) ≤ (i : Int) := by omega
      have i1 : IntKind.i64.wrap ((i : Int) + 1) = ((i + 1 : Nat) : Int) := by rw [wrap_i64 (by omega) (by omega)]; omega
      by_cases hn : ((20 : Int) < ((nms.length : Nat) : Int))
      · simp +decide only [go_sem, W_region, Wx_some, hsz, e0, e3, e4, hil, h60, c0, Int.toNat_natCast, q3, q4, hn]
        refine W_call Kok xw.1 (law29_awake_runs w) fun r w x hr => ?_
        subst hr
        simp +decide only [go_sem, W_region, Wx_some, hsz]
      by_cases hx : ((100 : Int) < ((xs.length : Nat) : Int))
      · simp +decide only [go_sem, W_region, Wx_some, hsz, e0, e3, e4, hil, h60, c0, Int.toNat_natCast, q3, q4, q5, hn, hx]
        refine W_call Kok xw.1 (law29_awake_runs w) fun r w x hr => ?_
        subst hr
        simp +decide only [go_sem, W_region, Wx_some, hsz]
      simp +decide only [go_sem, W_region, Wx_some, hsz, e0, e3, e4, hil, h60, c0, Int.toNat_natCast, q3, q4, q5, q6, q7, hn, hx]
      refine W_does rfl (Does.ext Kok xw (does_run kd nms xs h w xw S (by omega) (by omega) q8 q9 (by omega) (by omega) q10)) fun r w4 hr => ?_
      obtain ⟨x4, rfl, x', L', S4, hwq, hlq⟩ := hr
      obtain ⟨m1, m2, m3, m4, m5⟩ := S4.mem
      rw [hwq] at m1 m2
      obtain ⟨r, told, inn, hw4, r1, r2, r3⟩ := S4.world
      rw [hwq] at hw4
      have nr := names_run S4 (by omega)
      obtain ⟨ra, rc, rvs, rfl, -⟩ := id r1
      simp +decide only [go_sem, W_region, Wx_some, hsz, e3, hw4]
      refine W_call Kok x4.1 nr fun rr w5 x5 hr => ?_
      obtain ⟨a5, c5, rfl, s5⟩ := hr
      have x5' := x4.trans x5
      have hw5 : w5.get x.wq = _ := (x5.2 _ m2).trans hw4
      simp +decide only [go_sem, W_region, Wx_some, hsz, e3, hw5]
      refine W_call Kok x5'.1 (rnames_run L' w5 (r1.frm (Frm.ext x5)) (by have := S4.few; omega)) fun rr w6 x6 hr => ?_
      obtain ⟨a6, c6, rfl, s6⟩ := hr
      have x6' := x5'.trans x6
      simp +decide only [go_sem, W_region, Wx_some, hsz]
      refine W_call Kok x6'.1 (texts_run (names L') w6 (s5.ext x6) s6 (by have := S4.few; simp only [names, List.length_map]; omega)) fun rr w7 x7 hr => ?_
      obtain ⟨rfl, rfl⟩ := hr
      simp +decide only [go_sem, W_region, Wx_some, hsz]
      have S6 := S4.ext (x5.trans x6)
      refine W_loop (α := Nat) (fun k e' W => k ≤ L'.length ∧ e'.size = 101 ∧ Ext w6 W ∧ e'.get 0 = .slice (some ⟨b, o, none⟩) acts.length c ∧ e'.get 3 = .pointer (some ⟨x.wq, 0, none⟩) ∧ e'.get 4 = .int .i64 (i : Int) ∧ e'.get 5 = .int .i64 (k : Int)) (fun k => L'.length - k) 0 ?_ ?_
      · exact ⟨Nat.zero_le _, by simp +decide only [go_sem, hsz], Ext.refl _, by simp +decide only [go_sem, hsz, e0], by simp +decide only [go_sem, hsz, e3], by simp +decide only [go_sem, hsz, e4], by simp +decide only [go_sem, hsz]; rfl⟩
      rintro k e' W ⟨hk, hsz', xW, g0, g3, g4, g5⟩ next2
      have SW := S6.ext xW
      have KW := x6'.trans xW
      have k46 : w4.size ≤ W.size := by have := x5.1; have := x6.1; have := xW.1; omega
      have hwW : W.get x.wq = _ := ((x5.trans (x6.trans xW)).2 _ m2).trans hw4
      by_cases hkl : (k : Int) < ((L'.length : Nat) : Int)
      · obtain ⟨⟨nm, ys⟩, hz⟩ : ∃ z, L'[k]? = some z := ⟨_, List.getElem?_eq_getElem (by omega)⟩
        have hmem := List.mem_of_getElem? hz
        obtain ⟨ra', rc', rvs', hra, sR, ER⟩ := r1.frm (Frm.ext (x5.trans (x6.trans xW)))
        simp only [Value.slice.injEq, true_and] at hra
        obtain ⟨rfl, rfl⟩ := hra
        obtain ⟨b', o', cs', a2, c2, rfl, p2, p3, p4, p5, p6, p7, p8⟩ := ent_at sR ER hz
        have d0 : (0 : Int) ≤ (k : Int) := by omega
        have k1 : IntKind.i64.wrap ((k : Int) + 1) = ((k + 1 : Nat) : Int) := by rw [wrap_i64 (by omega) (by have := S4.few; omega)]; omega
        have hys := (S4.small _ hmem).2
        simp only at hys
        obtain ⟨es, cc, hm, R⟩ := SW.map
        have RK : MR (Kp W) es cc L' := R.mono fun nm xs v hmem hb => by
          obtain ⟨p, h1, h2⟩ := hb.copy
          exact ⟨p, h1, h2, by have := (S4.small _ hmem).2; simp only at this; omega⟩
        have m4' := SW.mem.2.2.2.1
        simp +decide only [go_sem, W_region, Wx_some, hsz', g0, g3, g4, g5, hwW, hkl, d0, Int.toNat_natCast, p3, p4]
        refine W_call Kok KW.1 (load_run nm W SW.lw SW.lib m4' hm RK) fun rr w8 x8 hr => ?_
        rcases hr with ⟨ys2, v, hmem2, rfl, LB⟩ | ⟨hno, _⟩
        · have := srt_uniq R.srt hmem hmem2
          subst this
          obtain ⟨p, rfl, CA⟩ := LB.copy
          have hp : cellOK p = true ∧ p.cells = #[p] := by
            rcases CA with ⟨rfl, _⟩ | ⟨q, a, c, rfl, _⟩ <;> exact ⟨rfl, rfl⟩
          obtain ⟨w9, f9, x9, hs9, z9⟩ := lay1 w8 (.cells [.pointer none] 1)
          obtain ⟨w10, f10, x10, hs10, z10, k10⟩ := put1 x9 (Nat.le_refl _) (.cells [p] 1)
          have K8 := KW.trans x8
          have j8 : h.size ≤ w8.size := K8.1
          have y10 := x8.trans x10
          have hw10 : w10.get x.wq = _ := (y10.2 _ (by omega)).trans hwW
          simp +decide only [go_sem, W_region, Wx_some, hsz', g0, g3, g4, g5, f9, z9, hp.1, hp.2, j8, f10, z10]
          refine W_call Kok (K8.trans x10).1 (numbers_run ys w10 (CA.ext x10)) fun rr w11 x11 hr => ?_
          obtain ⟨a11, c11, rfl, s11, -, -⟩ := hr
          have y11 := y10.trans x11
          have hw11 : w11.get x.wq = _ := (x11.2 _ (by have := y10.1; omega)).trans hw10
          have p3' : (w11.get b').read = _ := (congrArg Blk.read (y11.2 b' p2)).trans p3
          simp +decide only [go_sem, W_region, Wx_some, hsz', g0, g3, g4, g5, hw11, hkl, d0, Int.toNat_natCast, p3', p5]
          refine W_call Kok (KW.trans y11).1 (isame_run ys w11 s11 (p8.1.ext y11) (by omega)) fun rr w12 x12 hr => ?_
          obtain ⟨rfl, rfl⟩ := hr
          simp +decide only [go_sem, W_region, Wx_some, hsz', g0, g3, g4, g5, k1]
          exact next2 (k + 1) _ _ ⟨by omega, by simp +decide only [go_sem, hsz'], xW.trans y11, by simp +decide only [go_sem, hsz', g0], by simp +decide only [go_sem, hsz', g3], by simp +decide only [go_sem, hsz', g4], by simp +decide only [go_sem, hsz']⟩ (by omega)
        · exact absurd (mem_names.2 ⟨_, hmem⟩) hno
      · simp +decide only [go_sem, W_region, Wx_some, hsz', g0, g3, g4, g5, hwW, hkl, i1]
        exact next (i + 1, x', L') _ _ ⟨by simp only; omega, by simp only; omega, by simp +decide only [go_sem, hsz'], KW, SW.more (by simp only; omega), by simp +decide only [go_sem, hsz', g0], by simp +decide only [go_sem, hsz', g3, hwq], by simp +decide only [go_sem, hsz']⟩ (by simp only; omega)
    · simp +decide only [go_sem, W_region, Wx_some, hsz, e0, e3, e4, hil, h60]
      refine W_call Kok xw.1 (law29_awake_runs w) fun r w' x hr => ?_
      subst hr
      simp +decide only [go_sem, W_region, Wx_some, hsz]
  · simp +decide only [go_sem, W_region, Wx_some, hsz, e0, e3, e4, hil]
    refine W_call Kok xw.1 (law29_awake_runs w) fun r w' x hr => ?_
    subst hr
    simp +decide only [go_sem, W_region, Wx_some, hsz]
end Go.Proofs.Ytjamnjbfcecnnaa.L27
