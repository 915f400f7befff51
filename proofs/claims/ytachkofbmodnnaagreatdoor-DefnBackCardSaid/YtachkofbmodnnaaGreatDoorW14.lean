/- Proved here: parts of the way to BDefnBack (BH8 BH10 BL2 BE1 BE2); no condition beyond those that each theorem names. -/
import Derived.Test.YtachkofbmodnnaaGreatDoorW13
import Derived.Test.YtachkofbmodnnaaGreatDoorW4
import Derived.Test.YtachkofbmodnnaaGreatDoorW6
set_option linter.unusedSimpArgs false
set_option linter.unusedVariables false
namespace Go.Im.Heads
open Go.Im.Lexing
theorem headT_ls {re : ByteArray} {ns : List ByteArray} {x : HdT} (h : headT re ns [] = some x) (ls : List ByteArray) : headT re ns ls = some { x with ls := ls } ∧ x.ls = [] := by
 match ns, h with
 | [a], h => cases h; exact ⟨rfl, rfl⟩
 | [a, b], h => cases h; exact ⟨rfl, rfl⟩
 | [a, b, c], h => cases h; exact ⟨rfl, rfl⟩
theorem parseT_ns {ts us : List (Nat × Tk)} {re : ByteArray} {x : HdT} (hr : resT ts = (re, us)) (h : headT re ((us.takeWhile isN).map wd) [] = some x) : parseT ts = restT x (us.drop ((us.takeWhile isN).map wd).length) := by
 unfold parseT restT
 simp only [hr]
 cases locT (us.drop ((us.takeWhile isN).map wd).length) with
 | none => rfl
 | some ls =>
   have h2 := (headT_ls h ls).1
   simp only [h2, (headT_ls h []).2, List.nil_append]
   rfl
theorem parseT_no {ts us : List (Nat × Tk)} {re : ByteArray} (hr : resT ts = (re, us)) (h : ((us.takeWhile isN).map wd).length < 1 ∨ 3 < ((us.takeWhile isN).map wd).length) : parseT ts = none := by
 have hk : us.takeWhile isN = us.take (us.takeWhile isN).length := (List.prefix_iff_eq_take.1 (List.takeWhile_prefix isN))
 exact parseT_few hr hk (List.takeWhile_prefix isN).length_le (by simpa using h)
theorem four (ns : List ByteArray) : ns = [] ∨ (∃ f, ns = [f]) ∨ (∃ f b, ns = [f, b]) ∨ (∃ a f b, ns = [a, f, b]) ∨ 3 < ns.length := by
 match ns with
 | [] => exact .inl rfl
 | [f] => exact .inr (.inl ⟨f, rfl⟩)
 | [f, b] => exact .inr (.inr (.inl ⟨f, b, rfl⟩))
 | [a, f, b] => exact .inr (.inr (.inr (.inl ⟨a, f, b, rfl⟩)))
 | _ :: _ :: _ :: _ :: r => exact .inr (.inr (.inr (.inr (by simp))))
end Go.Im.Heads
namespace Go.Proofs.YtachkofbmodnnaaGreatDoor.H8
open Go Go.Im Go.Im.Limbs Go.Im.Lexing Go.Im.Heads Go.Proofs Go.RowKit Go.Sort Hd N18 N19 N23 N26 R8 R9 T0 H2 H3 H4 H5 H6 H7
set_option maxRecDepth 100000
theorem xcs_drop : ∀ {zs : List XT} {k : Nat}, (∀ z ∈ zs, Arr5 z.2) → (xcs zs).drop (k * 9) = xcs (zs.drop k)
 | [], k, _ => by simp [xcs]
 | z :: zs, 0, _ => by simp
 | z :: zs, k + 1, hA => by
   have h1 := tok_len (hA z (by simp))
   have h2 := xcs_drop (zs := zs) (k := k) (fun y hy => hA y (by simp [hy]))
   have : (k + 1) * 9 = 9 + k * 9 := by omega
   rw [this, ← List.drop_drop]
   simp only [xcs, List.flatMap_cons, List.drop_succ_cons] at h2 ⊢
   rw [← h2, ← h1, List.drop_left']
   rfl
theorem xcs_len : ∀ {zs : List XT}, (∀ z ∈ zs, Arr5 z.2) → (xcs zs).length = zs.length * 9
 | [], _ => rfl
 | z :: zs, hA => by
   have h1 := tok_len (hA z (by simp))
   have h2 := xcs_len (zs := zs) (fun y hy => hA y (by simp [hy]))
   simp only [xcs, List.flatMap_cons, List.length_append, List.length_cons] at h1 h2 ⊢
   omega
theorem cut9 {h w : Heap} (k : Ext h w) {zs : List XT} {a : Option Addr} {c : Nat} (s : Sl h 9 a zs.length c (xcs zs)) (hA : ∀ z ∈ zs, Arr5 z.2) {m : Nat} (hm : m ≤ zs.length) :
  ∃ a' c', irsl (some (.slice 9)) w a zs.length c (some (.int .i64 (m : Int))) none none = some (.slice a' (zs.length - m) c') ∧ Sl h 9 a' (zs.drop m).length c' (xcs (zs.drop m)) := by
 obtain ⟨a', c', h1, h2⟩ := Sl.cut k (by omega) s (lo := some (.int .i64 (m : Int))) (hi := none) (l := m) (u := zs.length) (by simp [boundOf]) rfl hm (Nat.le_refl _)
 refine ⟨a', c', h1, ?_⟩
 rw [xcs_drop hA] at h2
 have hlen := xcs_len (zs := zs.drop m) (fun y hy => hA y (List.mem_of_mem_drop hy))
 rw [List.length_drop] at hlen
 rw [List.take_of_length_le (by omega)] at h2
 rw [List.length_drop]
 exact h2
theorem tok9 {zs : List XT} {w : Heap} {a : Option Addr} {c : Nat} (s : Sl w 9 a zs.length c (xcs zs)) (hA : ∀ x ∈ zs, Arr5 x.2) {i : Nat} (hi : i < zs.length) :
  ∃ Y b o cs, zs[i]? = some Y ∧ a = some ⟨b, o, none⟩ ∧ b < w.size ∧ (w.get b).read = .cells cs 9 ∧ cs[o + i * 9]? = some (.int .i64 (Y.1.2.kind : Int)) ∧ cs[o + i * 9 + 2]? = some (.string (wd Y.1)) ∧ (cs.drop (o + i * 9)).take 9 = tc4 Y.1 ++ Y.2 ∧ o + i * 9 + 9 ≤ cs.length ∧ Arr5 Y.2 := by
 obtain ⟨Y, hY⟩ : ∃ Y, zs[i]? = some Y := ⟨_, List.getElem?_eq_getElem hi⟩
 obtain ⟨b1, o1, cs1, rfl, p2, p3, p4, _, p5, p6, p7, p8⟩ := Sl.tok s hA rfl hY
 exact ⟨Y, b1, o1, cs1, hY, rfl, p2, p3, p4, p5, p7, p8, hA Y (List.mem_of_getElem? hY)⟩
theorem own_hi {low : Nat} {h : Heap} {size n b : Nat} {v : Value} {xs : List Value} (H : Own low h size v n xs) (hv : vblk v = some b) : b < h.size := by
 rcases H with ⟨rfl, _⟩ | ⟨b', rfl, h1, h2, _⟩
 ·simp [vblk] at hv
 ·simp only [vblk, Option.some.injEq] at hv
  omega
theorem SS.other {b0 w w' : Heap} {q : Nat} {x : HdT} {v : Value} (S : SS b0 q w x v) (hs : w'.size = w.size) {d : Nat} (hd : b0.size ≤ d) (hdq : d ≠ q) (hdv : vblk v ≠ some d) (k : ∀ b, b ≠ d → w'.get b = w.get b) : SS b0 q w' x v :=
 ⟨⟨by rw [hs]; exact S.ext.1, fun b hb => (k b (by omega)).trans (S.ext.2 b hb)⟩, S.lq, by rw [hs]; exact S.hq, (k q (fun e => hdq e.symm)).trans S.g, S.own.keep (Nat.le_refl _) fun b hb hv => ⟨k b (fun e => hdv (by rw [hv, e])), by omega⟩⟩
theorem mkS_list (ss : List (List UInt8)) : (mkS ss).map (·.data.toList) = ss := by
 induction ss with
 | nil => rfl
 | cons s ss ih => rw [show mkS (s :: ss) = ⟨s.toArray⟩ :: mkS ss from rfl, List.map_cons, ih]
theorem all_nodup (x : HdT) : (x.all.map (·.data.toList)).Nodup ↔ x.all.Nodup := by
 rw [List.Nodup, List.Nodup, List.pairwise_map]
 constructor
 ·intro h
  exact h.imp fun hab e => hab (by rw [e])
 ·intro h
  exact h.imp fun hab e => hab (by
   rename_i a b
   cases a
   cases b
   simpa using e)
set_option maxHeartbeats 4000000 in
theorem parse_run (l : List Int) (h : Heap) {tv : Value} (t : Tx h tv l) (hm0 : l.length ≤ 1000000) :
  Runs K f_head_Parse #[tv] h fun r w => ∃ a c, r = .tuple #[.agg (hl (hdp l).1 (.slice a (hdp l).1.ls.length c)).toArray, .bool (hdp l).2] ∧ Sl w 1 a (hdp l).1.ls.length c (sv (hdp l).1.ls) := by
 obtain ⟨ta, tc, rfl⟩ := t.open
 refine Runs.of Kok (Does.intro rfl (by decide +kernel) F_head_Parse rfl ?_)
 obtain ⟨w0, e0, x0, hs0, z0⟩ := lay1 h (.cells [.string ByteArray.empty, .string ByteArray.empty, .string ByteArray.empty, .string ByteArray.empty, .slice none 0 0] 5)
 have j0 : h.size ≤ h.size := Nat.le_refl _
 have fin0 : ∀ (w : Heap) (C : List Value), Ext h w → ∃ w', w.set h.size (.cells C 5) = w' ∧ w'.get h.size = .cells C 5 ∧ w'.size = w.size ∧ ∀ b, b ≠ h.size → w'.get b = w.get b := fun w C xw => by
  obtain ⟨w1, e1, x1, hs1, g1, k1⟩ := put1 xw j0 (.cells C 5)
  exact ⟨w1, e1, g1, hs1, k1⟩
 simp +decide only [go_sem, W_region, Wx_some, e0]
 refine W_call Kok x0.1 (lex_run w0 (t.ext x0)) fun r w1 x1 hr => ?_
 have x01 := x0.trans x1
 rcases hr with ⟨hlex, rfl⟩ | ⟨xs, a, c, hlex, hA, hxl, rfl, s1⟩
 ·have hp : hdp l = (hdZ, false) := by simp only [hdp, hlex]
  obtain ⟨w', ew, gw, _⟩ := fin0 w1 [.string ByteArray.empty, .string ByteArray.empty, .string ByteArray.empty, .string ByteArray.empty, .slice none 0 0] x01
  have z1 : w1.get h.size = _ := (x1.2 _ (by omega)).trans z0
  simp +decide only [go_sem, W_region, Wx_some, z1, j0, ew, gw]
  rw [hp]
  exact ⟨none, 0, rfl, Sl.nil _ _⟩
 have hm := lex_600 hlex
 obtain ⟨ts, hts⟩ : ∃ ts, ts = xs.map (·.1) := ⟨_, rfl⟩
 have hlen : ts.length = xs.length := by rw [hts, List.length_map]
 rw [← hts] at hlex
 have hbad : parseT ts = none → hdp l = (hdZ, false) := fun hn => by simp only [hdp, hlex, hn]
 obtain ⟨w2, e2, x2, hs2, z2⟩ := lay1 w1 (.cells [.string ByteArray.empty, .string ByteArray.empty, .string ByteArray.empty, .string ByteArray.empty, .slice none 0 0] 5)
 have S2 : SS w1 w1.size w2 hdZ (.slice none 0 0) := ⟨x2, Nat.le_refl _, by omega, z2, Own.nil _ _ _⟩
 have q1 : h.size ≤ w1.size := x01.1
 have q1' : h.size < w1.size := by have := x1.1; omega
 have zz : ∀ {w x v}, SS w1 w1.size w x v → w.get h.size = .cells [.string ByteArray.empty, .string ByteArray.empty, .string ByteArray.empty, .string ByteArray.empty, .slice none 0 0] 5 := fun S => (S.ext.2 _ q1').trans ((x1.2 _ (by omega)).trans z0)
 have zero : ∀ {w' : Heap} {x : HdT} {v : Value}, SS w1 w1.size w' x v → ∃ w'', w'.set h.size (.cells [.string ByteArray.empty, .string ByteArray.empty, .string ByteArray.empty, .string ByteArray.empty, .slice none 0 0] 5) = w'' ∧ w''.get h.size = .cells [.string ByteArray.empty, .string ByteArray.empty, .string ByteArray.empty, .string ByteArray.empty, .slice none 0 0] 5 := fun S => by
  obtain ⟨w'', e1, e2, _⟩ := fin0 _ [.string ByteArray.empty, .string ByteArray.empty, .string ByteArray.empty, .string ByteArray.empty, .slice none 0 0] (x01.trans S.ext)
  exact ⟨w'', e1, e2⟩
 apply W_join (α := ByteArray × List XT × Option Addr × Nat) (fun k e w => e.size = 128 ∧ SS w1 w1.size w ⟨E, k.1, E, E, []⟩ (.slice none 0 0) ∧ e.get 2 = .pointer (some ⟨h.size, 0, none⟩) ∧ e.get 4 = .slice k.2.2.1 k.2.1.length k.2.2.2 ∧ e.get 6 = .pointer (some ⟨w1.size, 0, none⟩) ∧ Sl w1 9 k.2.2.1 k.2.1.length k.2.2.2 (xcs k.2.1) ∧ (∀ z ∈ k.2.1, Arr5 z.2) ∧ k.2.1.length ≤ 600 ∧ resT ts = (k.1, k.2.1.map (·.1)))
 ·intro cont
  simp +decide only [go_sem, Wx_some]
  (rw [W_region]; simp +decide only [go_sem, Wx_some])
  (rw [W_region]; simp +decide only [go_sem, Wx_some, e2])
  by_cases hl1 : (1 : Int) < ((xs.length : Nat) : Int)
  case neg =>
   (rw [W_region]; simp +decide only [go_sem, Wx_some, hl1])
   exact cont (E, xs, a, c) _ _ ⟨by simp +decide only [go_sem], S2, by simp +decide only [go_sem], by simp +decide only [go_sem], by simp +decide only [go_sem], s1, hA, by simp only; omega, by rw [resT_b (by omega), hts]⟩
  obtain ⟨Z, b, o, cs, hZ, rfl, _, r3, r4, r5, r7, r8, hZA⟩ := tok9 (s1.ext x2) hA (i := 0) (by omega)
  rw [Nat.zero_mul, Nat.add_zero] at r4 r5 r7 r8
  have hZt : ts[0]? = some Z.1 := by rw [hts, List.getElem?_map, hZ]; rfl
  have d0 : (0 : Int) < ((xs.length : Nat) : Int) := by omega
  by_cases hk : Z.1.2.kind = 2
  case neg =>
   have hk' : ¬ ((Z.1.2.kind : Nat) : Int) = 2 := by omega
   (rw [W_region]; simp +decide only [go_sem, Wx_some, hl1, d0, show Int.toNat 0 = 0 from rfl, Nat.zero_mul, Nat.add_zero, r3, r4, hk'])
   exact cont (E, xs, _, c) _ _ ⟨by simp +decide only [go_sem], S2, by simp +decide only [go_sem], by simp +decide only [go_sem], by simp +decide only [go_sem], s1, hA, by simp only; omega, by rw [resT_a (by simp [nameAt, hZt, isN, hk]), hts]⟩
  have hk' : ((Z.1.2.kind : Nat) : Int) = 2 := by omega
  have hn0 : nameAt ts 0 = true := by simp [nameAt, hZt, isN, hk]
  obtain ⟨Y, b2, o2, cs2, hY, hq, _, p3, p4, p5, p7, p8, hYA⟩ := tok9 (s1.ext x2) hA (i := 1) (by omega)
  cases hq
  rw [r3] at p3
  cases p3
  rw [Nat.one_mul] at p4 p5 p7 p8
  have hYt : ts[1]? = some Y.1 := by rw [hts, List.getElem?_map, hY]; rfl
  rw [hk'] at r4
  have c0 : (0 : Int) ≤ 1 := by omega
  (rw [W_region]; simp +decide only [go_sem, Wx_some, hl1, d0, c0, show Int.toNat 0 = 0 from rfl, show Int.toNat 1 = 1 from rfl, Nat.zero_mul, Nat.one_mul, Nat.add_zero, r3, r4, p7, p8])
  refine W_call Kok (x01.trans x2).1 (is_run Y.1 hYA 8592 w2) fun r w3 x3 hr => ?_
  subst hr
  have S3 := S2.more x3
  cases hm8 : isM Y.1.2 8592 with
  | false =>
    simp +decide only [go_sem, Wx_some]
    exact cont (E, xs, _, c) _ _ ⟨by simp +decide only [go_sem], S3, by simp +decide only [go_sem], by simp +decide only [go_sem], by simp +decide only [go_sem], s1, hA, by simp only; omega, by rw [resT_c hYt hm8, hts]⟩
  | true =>
  obtain ⟨a', c', f1, s1'⟩ := cut9 (x2.trans x3) s1 hA (m := 2) (by omega)
  have f1' : irsl (some (.slice 9)) w3 (some ⟨b, o, none⟩) xs.length c (some (.int .i64 2)) none none = some (.slice a' (xs.length - 2) c') := f1
  have r3' : (w3.get b).read = .cells cs 9 := by rw [x3.2 _ (by assumption)]; exact r3
  obtain ⟨w4, e4, S4, hs4⟩ := S3.put ⟨E, wd Z.1, E, E, []⟩ rfl
  have g3 := S3.g
  simp only [hl, hdZ] at g3 e4
  simp +decide only [go_sem, Wx_some]
  (rw [W_region]; simp +decide only [go_sem, Wx_some, show Int.toNat 0 = 0 from rfl, d0, Nat.zero_mul, Nat.add_zero, r3', r5, f1', g3, q1, e4])
  have hbw : b < w1.size := by
   obtain ⟨_, _, _, _, _, hq, hb, _⟩ := tok9 s1 hA (i := 0) (by omega)
   cases hq
   exact hb
  have hbw3 : b < w3.size := by have := S3.ext.1; omega
  refine W_chk ?_ ?_
  ·simp +decide only [go_sem, W_region, Wx_some, hbw3]
   simp
   omega
  simp +decide only [go_sem, Wx_some]
  refine cont (wd Z.1, xs.drop 2, a', c') _ _ ⟨by simp +decide only [go_sem], S4, by simp +decide only [go_sem], by simp +decide only [go_sem, List.length_drop], by simp +decide only [go_sem], s1', fun z hz => hA z (List.mem_of_mem_drop hz), by simp only [List.length_drop]; omega, by rw [resT_d hZt hn0 hYt hm8, hts, List.map_drop]⟩
 rintro ⟨re, us, ua, uc⟩ e w ⟨hsz, S, g2, g4, g6, su, hAu, hul, hres⟩
 simp only at S g4 su hAu hul hres
 have hbad2 : ∀ {w' : Heap} {x : HdT} {v : Value}, SS w1 w1.size w' x v → True := fun _ => trivial
 (rw [W_region]; simp +decide only [go_sem, Wx_some, hsz, g4])
 refine W_call Kok (x01.trans S.ext).1 (names_run us w (su.ext S.ext) hAu (by omega)) fun r w3 x3 hr => ?_
 obtain ⟨vs, hvs⟩ : ∃ vs, vs = us.map (·.1) := ⟨_, rfl⟩
 rw [← hvs] at hr hres
 obtain ⟨ns, hns⟩ : ∃ ns, ns = (vs.takeWhile isN).map wd := ⟨_, rfl⟩
 have hnl : ns.length ≤ us.length := by
  rw [hns, List.length_map]
  exact Nat.le_trans (List.takeWhile_prefix isN).length_le (by rw [hvs, List.length_map]; exact Nat.le_refl _)
 rw [← hns] at hr
 obtain ⟨na, nc, rfl⟩ := hr.shape
 have S3 := S.more x3
 have sg := S3.g
 have zS := zz S3
 have hnsl := hr.sl
 obtain ⟨ca, cc, f1, su'⟩ := cut9 S3.ext su hAu (m := ns.length) hnl
 have hlb := hbad
 simp only [hl] at sg
 simp +decide only [go_sem, Wx_some, hsz]
 apply W_join (α := HdT × List XT × Option Addr × Nat) (fun k e w => e.size = 128 ∧ SS w1 w1.size w k.1 (.slice none 0 0) ∧ k.1.ls = [] ∧ e.get 2 = .pointer (some ⟨h.size, 0, none⟩) ∧ e.get 4 = .slice k.2.2.1 k.2.1.length k.2.2.2 ∧ e.get 6 = .pointer (some ⟨w1.size, 0, none⟩) ∧ Sl w1 9 k.2.2.1 k.2.1.length k.2.2.2 (xcs k.2.1) ∧ (∀ z ∈ k.2.1, Arr5 z.2) ∧ k.2.1.length ≤ 600 ∧ parseT ts = restT k.1 (k.2.1.map (·.1)))
 ·intro cont
  have few : ns.length < 1 ∨ 3 < ns.length → hdp l = (hdZ, false) := fun hf => hbad (parseT_no hres (by rw [← hns]; exact hf))
  have some_ : ∀ x, headT re ns [] = some x → parseT ts = restT x ((us.drop ns.length).map (·.1)) := fun x hx => by
   rw [parseT_ns hres (by rw [← hns]; exact hx), ← hns, hvs, List.map_drop]
  by_cases hf : ns.length < 1 ∨ 3 < ns.length
  ·have hp := few hf
   have m1 : ¬ ((ns.length : Nat) : Int) = 1 := by omega
   have m2 : ¬ ((ns.length : Nat) : Int) = 2 := by omega
   have m3 : ¬ ((ns.length : Nat) : Int) = 3 := by omega
   obtain ⟨w'', ew, gw⟩ := zero S3
   simp +decide only [go_sem, W_region, Wx_some, hsz, g2, m1, m2, m3, zS, j0, ew, gw]
   rw [hp]
   exact ⟨none, 0, rfl, Sl.nil _ _⟩
  rcases four ns with hn | ⟨f, hn⟩ | ⟨f, b, hn⟩ | ⟨f, g, b, hn⟩ | hn
  ·exact absurd (.inl (by rw [hn]; simp)) hf
  ·have hm : ns.length = 1 := by rw [hn]; rfl
   have hm' : ((ns.length : Nat) : Int) = 1 := by omega
   obtain ⟨bn, on, cn, rfl, _, r3, r4⟩ := text_at hnsl (i := 0) (by omega)
   have hf : ns[0]'(by omega) = f := by simp [hn]
   rw [hf, Nat.add_zero] at r4
   obtain ⟨w5, e5, S5, hs5⟩ := S3.put ⟨f, re, E, E, []⟩ rfl
   obtain ⟨ca, cc, f1, su'⟩ := cut9 S5.ext su hAu (m := ns.length) hnl
   simp only [hl] at e5
   simp only [hm'] at f1
   (rw [W_region]; simp +decide only [go_sem, Wx_some, hsz, hm'])
   (rw [W_region]; simp +decide only [go_sem, Wx_some, hsz, hm'])
   (rw [W_region]; simp +decide only [go_sem, Wx_some, hsz, hm', show Int.toNat 0 = 0 from rfl, Nat.add_zero, Nat.zero_mul, r3, r4, g6, sg, q1, e5])
   (rw [W_region]; simp +decide only [go_sem, Wx_some, hsz, hm', g4, f1])
   exact cont (⟨f, re, E, E, []⟩, us.drop ns.length, ca, cc) _ _ ⟨by simp +decide only [go_sem, hsz], S5, rfl, by simp +decide only [go_sem, hsz, g2], by simp +decide only [go_sem, hsz, List.length_drop], by simp +decide only [go_sem, hsz, g6], su', fun z hz => hAu z (List.mem_of_mem_drop hz), by simp only [List.length_drop]; omega, some_ _ (by rw [hn]; rfl)⟩
  ·have hm : ns.length = 2 := by rw [hn]; rfl
   have hm' : ((ns.length : Nat) : Int) = 2 := by omega
   obtain ⟨bn, on, cn, rfl, _, r3, r4⟩ := text_at hnsl (i := 0) (by omega)
   obtain ⟨bn2, on2, cn2, hq, _, r3', r5⟩ := text_at hnsl (i := 1) (by omega)
   cases hq
   rw [r3] at r3'
   cases r3'
   have hf0 : ns[0]'(by omega) = f := by simp [hn]
   have hf1 : ns[1]'(by omega) = b := by simp [hn]
   rw [hf0, Nat.add_zero] at r4
   rw [hf1] at r5
   obtain ⟨w5, e5, S5, hs5⟩ := S3.put ⟨f, re, E, E, []⟩ rfl
   have sg5 := S5.g
   obtain ⟨w6, e6, S6, hs6⟩ := S5.put ⟨f, re, E, b, []⟩ rfl
   obtain ⟨ca, cc, f1, su'⟩ := cut9 S6.ext su hAu (m := ns.length) hnl
   simp only [hl] at e5 sg5 e6
   simp only [hm'] at f1
   (rw [W_region]; simp +decide only [go_sem, Wx_some, hsz, hm'])
   (rw [W_region]; simp +decide only [go_sem, Wx_some, hsz, hm'])
   (rw [W_region]; simp +decide only [go_sem, Wx_some, hsz, hm'])
   (rw [W_region]; simp +decide only [go_sem, Wx_some, hsz, hm', show Int.toNat 0 = 0 from rfl, show Int.toNat 1 = 1 from rfl, Nat.add_zero, Nat.zero_mul, Nat.one_mul, r3, r4, r5, g6, sg, q1, e5, sg5, e6])
   have hbn : bn < w3.size := by assumption
   have hbq : w.size ≤ bn := own_lo hr rfl
   have hqw := S.hq
   refine W_chk ?_ ?_
   ·simp +decide only [go_sem, W_region, Wx_some, hsz, hbn]
    simp
    omega
   simp +decide only [go_sem, Wx_some, hsz]
   (rw [W_region]; simp +decide only [go_sem, Wx_some, hsz, hm', g4, f1])
   exact cont (⟨f, re, E, b, []⟩, us.drop ns.length, ca, cc) _ _ ⟨by simp +decide only [go_sem, hsz], S6, rfl, by simp +decide only [go_sem, hsz, g2], by simp +decide only [go_sem, hsz, List.length_drop], by simp +decide only [go_sem, hsz, g6], su', fun z hz => hAu z (List.mem_of_mem_drop hz), by simp only [List.length_drop]; omega, some_ _ (by rw [hn]; rfl)⟩
  ·have hm : ns.length = 3 := by rw [hn]; rfl
   have hm' : ((ns.length : Nat) : Int) = 3 := by omega
   obtain ⟨bn, on, cn, rfl, _, r3, r4⟩ := text_at hnsl (i := 0) (by omega)
   obtain ⟨bn2, on2, cn2, hq, _, r3', r5⟩ := text_at hnsl (i := 1) (by omega)
   cases hq
   rw [r3] at r3'
   cases r3'
   obtain ⟨bn2, on2, cn2, hq, _, r3', r6⟩ := text_at hnsl (i := 2) (by omega)
   cases hq
   rw [r3] at r3'
   cases r3'
   have hf0 : ns[0]'(by omega) = f := by simp [hn]
   have hf1 : ns[1]'(by omega) = g := by simp [hn]
   have hf2 : ns[2]'(by omega) = b := by simp [hn]
   rw [hf0, Nat.add_zero] at r4
   rw [hf1] at r5
   rw [hf2] at r6
   obtain ⟨w5, e5, S5, hs5⟩ := S3.put ⟨E, re, f, E, []⟩ rfl
   have sg5 := S5.g
   obtain ⟨w6, e6, S6, hs6⟩ := S5.put ⟨g, re, f, E, []⟩ rfl
   have sg6 := S6.g
   obtain ⟨w7, e7, S7, hs7⟩ := S6.put ⟨g, re, f, b, []⟩ rfl
   obtain ⟨ca, cc, f1, su'⟩ := cut9 S7.ext su hAu (m := ns.length) hnl
   simp only [hl] at e5 sg5 e6 sg6 e7
   simp only [hm'] at f1
   (rw [W_region]; simp +decide only [go_sem, Wx_some, hsz, hm'])
   (rw [W_region]; simp +decide only [go_sem, Wx_some, hsz, hm'])
   (rw [W_region]; simp +decide only [go_sem, Wx_some, hsz, hm'])
   (rw [W_region]; simp +decide only [go_sem, Wx_some, hsz, hm'])
   (rw [W_region]; simp +decide only [go_sem, Wx_some, hsz, hm', show Int.toNat 0 = 0 from rfl, show Int.toNat 1 = 1 from rfl, show Int.toNat 2 = 2 from rfl, Nat.add_zero, Nat.zero_mul, Nat.mul_one, r3, r4, r5, r6, g6, sg, q1, e5, sg5, e6, sg6, e7])
   have hbn : bn < w3.size := by assumption
   have hbq : w.size ≤ bn := own_lo hr rfl
   have hqw := S.hq
   refine W_chk ?_ ?_
   ·simp +decide only [go_sem, W_region, Wx_some, hsz, hbn]
    simp
    omega
   simp +decide only [go_sem, Wx_some, hsz]
   (rw [W_region]; simp +decide only [go_sem, Wx_some, hsz, hm', g4, f1])
   exact cont (⟨g, re, f, b, []⟩, us.drop ns.length, ca, cc) _ _ ⟨by simp +decide only [go_sem, hsz], S7, rfl, by simp +decide only [go_sem, hsz, g2], by simp +decide only [go_sem, hsz, List.length_drop], by simp +decide only [go_sem, hsz, g6], su', fun z hz => hAu z (List.mem_of_mem_drop hz), by simp only [List.length_drop]; omega, some_ _ (by rw [hn]; rfl)⟩
  ·exact absurd (.inr hn) hf
 rintro ⟨x, zs, za, zc⟩ e w ⟨hsz, T, hx0, g2, g4, g6, sz, hAz, hzl, hps⟩
 simp only at T hx0 g4 sz hAz hzl hps
 refine W_loop (α := HdT × Value × List XT × Option Addr × Nat) (fun k e w => e.size = 128 ∧ SS w1 w1.size w k.1 k.2.1 ∧ e.get 2 = .pointer (some ⟨h.size, 0, none⟩) ∧ e.get 4 = .slice k.2.2.2.1 k.2.2.1.length k.2.2.2.2 ∧ e.get 6 = .pointer (some ⟨w1.size, 0, none⟩) ∧ Sl w1 9 k.2.2.2.1 k.2.2.1.length k.2.2.2.2 (xcs k.2.2.1) ∧ (∀ z ∈ k.2.2.1, Arr5 z.2) ∧ parseT ts = restT k.1 (k.2.2.1.map (·.1)) ∧ k.1.ls.length + k.2.2.1.length ≤ 600) (fun k => k.2.2.1.length) (x, .slice none 0 0, zs, za, zc) ?_ ?_
 ·exact ⟨hsz, T, g2, g4, g6, sz, hAz, hps, by rw [hx0]; simpa using hzl⟩
 clear hsz T hx0 g2 g4 g6 sz hAz hzl hps
 rintro ⟨x, v, zs, za, zc⟩ e w ⟨hsz, T, g2, g4, g6, sz, hAz, hps, hxl⟩ next
 simp only at T g4 sz hAz hps hxl
 have st := sz.ext T.ext
 have zT := zz T
 have tg := T.g
 obtain ⟨va, vc, rfl⟩ := T.own.shape
 match zs, g4, sz, hAz, hps, hxl, st with
 | [], g4, sz, hAz, hps, hxl, st =>
   rw [List.map_nil, restT_nil] at hps
   simp only [hl] at tg
   simp +decide only [go_sem, W_region, Wx_some, hsz, g4, g6, tg, List.length_nil]
   refine W_call Kok (x01.trans T.ext).1 (hnames_run x w T.own.sl (by omega)) fun r w4 x4 hr => ?_
   obtain ⟨na, nc, rfl⟩ := hr.shape
   have T4 := T.more x4
   have tg4 := T4.g
   have hxn := names_len x
   have hxl' : x.ls.length ≤ 600 := by omega
   obtain ⟨w5, e5, x5, hs5, z5⟩ := lay1 w4 (.cells [.string x.nm] 1)
   have hlow : h.size ≤ w.size := (x01.trans T.ext).1
   obtain ⟨w6, e6, own6, hs6, x6⟩ := app_text (low := h.size) (s := x.nm) hlow (x4.trans x5) (hr.ext x5) (by omega)
   have T6 := T.more x6
   have tg6 := T6.g
   have z6 := zz T6
   have hal : x.all.length = x.names.length + 1 := by simp [HdT.all]
   have own6' : Own w.size w6 1 (.slice (some ⟨w5.size, 0, none⟩) (x.names.length + 1) big) (x.names.length + 1) (sv x.all) := own6
   have own6'' : Own h.size w6 1 (.slice (some ⟨w5.size, 0, none⟩) x.all.length big) x.all.length (sv x.all) := by
    rw [hal]
    exact own6'.keep hlow fun b hb _ => ⟨rfl, hb⟩
   have hsd := sort_does own6'' (by omega) (by omega)
   rw [hal] at hsd
   simp only [hl] at tg4
   simp +decide only [go_sem, W_region, Wx_some, hsz, g6, tg4, e5, z5, e6]
   refine W_does rfl hsd fun r w7 hr2 => ?_
   obtain ⟨own7, hs7, k7⟩ := hr2
   have hx5 : w.size ≤ w5.size := by have := x4.1; omega
   have hTq := T.hq
   have T7 : SS w1 w1.size w7 x (.slice va x.ls.length vc) := SS.other T6 hs7 (d := w5.size) (by have := T.ext.1; omega) (by omega) (fun hh => by have := own_hi T.own hh; omega) fun b hb => k7 b (by simp [vblk]; omega)
   obtain ⟨L, hLe⟩ : ∃ L, L = mkS (sorted (x.all.map (·.data.toList))) := ⟨_, rfl⟩
   rw [← hLe] at own7
   have hL : L.length = x.names.length + 1 := by rw [hLe]; simp [mkS, sorted, hal]
   have hLl : L.map (·.data.toList) = sorted (x.all.map (·.data.toList)) := by rw [hLe, mkS_list]
   have hcl := clone_run (ls := L) (h := w7) (a := some ⟨w5.size, 0, none⟩) (c := big) (by rw [hL]; exact own7.sl) (by omega) (by omega)
   rw [hL] at hcl
   simp +decide only [go_sem, W_region, Wx_some, hsz]
   refine W_call Kok (x01.trans T7.ext).1 hcl fun r w8 x8 hr3 => ?_
   have own8 : Own w7.size w8 1 r L.length (sv L) := by rw [hL]; exact hr3
   obtain ⟨b8, hrb, hb8, hb8s, hg8, _⟩ := row_own own8 (by omega) (by omega)
   subst hrb
   have T8 := T7.more x8
   have hcd := comp_does (low := h.size) (own8.keep (x01.trans T7.ext).1 fun b hb _ => ⟨rfl, hb⟩) (by omega) (by omega)
   simp +decide only [go_sem, W_region, Wx_some, hsz]
   refine W_does rfl hcd fun r w9 hr4 => ?_
   obtain ⟨⟨ca, cc, rfl⟩, hs9, k9⟩ := hr4
   have h7q := T7.hq
   have T9 : SS w1 w1.size w9 x (.slice va x.ls.length vc) := SS.other T8 hs9 (d := b8) (by have := T7.ext.1; omega) (by omega) (fun hh => by have := own_hi T7.own hh; omega) fun b hb => k9 b (by simp [vblk]; omega)
   have z9 := zz T9
   have tg9 := T9.g
   simp only [hl] at tg9
   rw [hLl]
   have hnd : (Lib.compact (sorted (x.all.map (·.data.toList)))).length = x.names.length + 1 ↔ x.all.Nodup := by
    have := apart_iff (x.all.map (·.data.toList))
    rw [List.length_map, hal] at this
    rw [this, all_nodup]
   generalize (Lib.compact (sorted (x.all.map (·.data.toList)))).length = M at hnd ⊢
   by_cases hx : x.all.Nodup
   ·have hp2 : hdp l = (x, true) := by simp only [hdp, hlex, hps, fin, if_pos hx]
    have hM := hnd.2 hx
    obtain ⟨w10, e10, g10, hs10, k10⟩ := fin0 w9 [.string x.nm, .string x.re, .string x.le, .string x.ri, .slice va x.ls.length vc] (x01.trans T9.ext)
    have hMi : ((M : Nat) : Int) = ((x.names.length + 1 : Nat) : Int) := by omega
    simp +decide only [go_sem, W_region, Wx_some, hsz, g2, g6, hMi, tg9, z9, j0, e10, g10]
    rw [hp2]
    refine ⟨va, vc, rfl, ?_⟩
    exact (T9.own.keep (Nat.le_refl _) fun b hb hv => ⟨k10 b (by have := own_lo T9.own hv; omega), by omega⟩).sl
   ·have hp2 : parseT ts = none := by rw [hps, fin, if_neg hx]
    have hM : ¬ M = x.names.length + 1 := fun hh => hx (hnd.1 hh)
    have hMi : ¬ ((M : Nat) : Int) = ((x.names.length + 1 : Nat) : Int) := by omega
    obtain ⟨w'', ew, gw⟩ := zero T9
    simp +decide only [go_sem, W_region, Wx_some, hsz, g2, g6, hMi, z9, j0, ew, gw]
    rw [hbad hp2]
    exact ⟨none, 0, rfl, Sl.nil _ _⟩
 | [A], g4, sz, hAz, hps, hxl, st =>
   rw [List.map_cons, List.map_nil, restT_one] at hps
   obtain ⟨w'', ew, gw⟩ := zero T
   simp +decide only [go_sem, W_region, Wx_some, hsz, g2, g4, zT, j0, ew, gw, List.length_singleton]
   rw [hbad hps]
   exact ⟨none, 0, rfl, Sl.nil _ _⟩
 | A :: B :: r, g4, sz, hAz, hps, hxl, st =>
   obtain ⟨Z, b, o, cs, hZ, rfl, _, r3, r4, r5, r7, r8, hZA⟩ := tok9 st hAz (i := 0) (by simp)
   cases hZ
   rw [Nat.zero_mul, Nat.add_zero] at r4 r5 r7 r8
   have hbw : b < w1.size := by
    obtain ⟨_, _, _, _, _, hq, hb, _⟩ := tok9 sz hAz (i := 0) (by simp)
    cases hq
    exact hb
   have n2 : (A :: B :: r).length = r.length + 2 := rfl
   have d0 : (0 : Int) < (((A :: B :: r).length : Nat) : Int) := by rw [n2]; omega
   have d1 : (1 : Int) < (((A :: B :: r).length : Nat) : Int) := by rw [n2]; omega
   have d2 : ¬ (((A :: B :: r).length : Nat) : Int) < 2 := by rw [n2]; omega
   have c0 : (0 : Int) ≤ 1 := by omega
   generalize hN : (A :: B :: r).length = N at *
   simp +decide only [go_sem, W_region, Wx_some, hsz, g4, d0, d2, show Int.toNat 0 = 0 from rfl, Nat.zero_mul, Nat.add_zero, r3, r8, r7]
   refine W_call Kok (x01.trans T.ext).1 (is_run A.1 hZA 59 w) fun r' w3 x3 hr => ?_
   subst hr
   have T3 := T.more x3
   have z3 := zz T3
   rw [List.map_cons, List.map_cons] at hps
   cases hmk : isM A.1.2 59 with
   | false =>
     rw [restT_bad1 _ hmk] at hps
     obtain ⟨w'', ew, gw⟩ := zero T3
     simp +decide only [go_sem, W_region, Wx_some, hsz, g2, g4, z3, j0, ew, gw]
     rw [hbad hps]
     exact ⟨none, 0, rfl, Sl.nil _ _⟩
   | true =>
   have st3 := sz.ext T3.ext
   obtain ⟨Y, b2, o2, cs2, hY, hq, _, p3, p4, p5, p7, p8, hYA⟩ := tok9 (zs := A :: B :: r) (by rw [hN]; exact st3) hAz (i := 1) (by simp)
   cases hq
   cases hY
   rw [Nat.one_mul] at p4 p5 p7 p8
   by_cases hkb : B.1.2.kind = 2
   case neg =>
    have hk' : ¬ ((B.1.2.kind : Nat) : Int) = 2 := by omega
    rw [restT_bad2 _ (by simp [nameAt, isN, hkb])] at hps
    obtain ⟨w'', ew, gw⟩ := zero T3
    simp +decide only [go_sem, W_region, Wx_some, hsz, g2, g4, d1, c0, show Int.toNat 1 = 1 from rfl, Nat.one_mul, p3, p4, hk', z3, j0, ew, gw]
    rw [hbad hps]
    exact ⟨none, 0, rfl, Sl.nil _ _⟩
   have hk' : ((B.1.2.kind : Nat) : Int) = 2 := by omega
   rw [hk'] at p4
   rw [restT_step, hmk, show isN B.1 = true by simp [isN, hkb], Bool.and_self, if_pos rfl] at hps
   obtain ⟨u3, u4, u5, f3, fz3, fg3, f4, fg4, f5, T5⟩ := T3.app (low := h.size) q1 (wd B.1) (by omega)
   have tg3 := T3.g
   obtain ⟨a', c', f1, s1'⟩ := cut9 (zs := A :: B :: r) (m := 2) T5.ext (by rw [hN]; exact sz) hAz (by simp)
   have f1' : irsl (some (.slice 9)) u5 (some ⟨b, o, none⟩) N zc (some (.int .i64 2)) none none = some (.slice a' r.length c') := by
    rw [← hN]
    exact f1
   simp only [hl] at tg3 fg3 fg4 f5
   simp +decide only [go_sem, W_region, Wx_some, hsz, g4, g6, d1, c0, show Int.toNat 1 = 1 from rfl, Nat.one_mul, p3, p4, p5, tg3, f3, fz3, f4, fg4, q1, f5, f1']
   exact next ({ x with ls := x.ls ++ [wd B.1] }, _, r, a', c') _ _ ⟨by simp +decide only [go_sem, hsz], T5, by simp +decide only [go_sem, hsz, g2], by simp +decide only [go_sem, hsz], by simp +decide only [go_sem, hsz, g6], s1', fun z hz => hAz z (by simp [hz]), hps, by simp only [List.length_append, List.length_singleton]; omega⟩ (by simp only; omega)
end Go.Proofs.YtachkofbmodnnaaGreatDoor.H8
namespace Go.Im.Heads
open Go.Im.Lexing
theorem lexF_len : ∀ {f p : Nat} {s : List Int} {ts : List (Nat × Tk)}, lexF f p s = some ts → ts.length ≤ f
 | 0, p, s, ts, h => by cases h
 | f + 1, p, s, ts, h => by
   simp only [lexF] at h
   split at h
   ·cases h
    simp
   ·split at h
    ·cases h
     simp
    ·split at h
     ·cases h
     ·have := lexF_len h
      omega
     ·obtain ⟨us, hu, rfl⟩ := Option.map_eq_some_iff.1 h
      have := lexF_len hu
      simp only [List.length_cons]
      omega
def NT (ts : List (Nat × Tk)) : Prop := ∀ t ∈ ts, isN t = true → 0 < (wd t).size ∧ (wd t).size ≤ 96
theorem lex_nt {l : List Int} {ts : List (Nat × Tk)} (h : lex l = some ts) : NT ts ∧ ts.length ≤ 600 := by
 refine ⟨fun t ht hn => name_sizes (lex_ok h t ht (by simpa [isN] using hn)), ?_⟩
 unfold lex at h
 split at h
 ·cases h
 ·exact lexF_len h
theorem locT_ok : ∀ {ts : List (Nat × Tk)} {ls : List ByteArray}, NT ts → locT ts = some ls → (∀ y ∈ ls, y.size ≤ 96) ∧ ls.length ≤ ts.length
 | [], ls, _, h => by
   cases h
   simp
 | [a], ls, _, h => by cases h
 | a :: b :: r, ls, hN, h => by
   simp only [locT] at h
   split at h
   ·rename_i hab
    simp only [Bool.and_eq_true] at hab
    obtain ⟨ms, hm, rfl⟩ := Option.map_eq_some_iff.1 h
    obtain ⟨h1, h2⟩ := locT_ok (fun t ht => hN t (by simp [ht])) hm
    refine ⟨fun y hy => ?_, by simp only [List.length_cons]; omega⟩
    rcases List.mem_cons.1 hy with rfl | hy
    ·exact (hN b (by simp) hab.2).2
    ·exact h1 y hy
   ·cases h
theorem e96 : E.size ≤ 96 := by decide
theorem mem_tw {α : Type} {p : α → Bool} {t : α} : ∀ {l : List α}, t ∈ l.takeWhile p → p t = true
 | [], h => by simp at h
 | a :: l, h => by
   by_cases ha : p a = true
   ·rw [List.takeWhile_cons_of_pos ha] at h
    rcases List.mem_cons.1 h with rfl | h
    ·exact ha
    ·exact mem_tw h
   ·rw [List.takeWhile_cons_of_neg ha] at h
    simp at h
theorem resT_ok {ts : List (Nat × Tk)} (hN : NT ts) : (resT ts).1.size ≤ 96 ∧ NT (resT ts).2 ∧ (resT ts).2.length ≤ ts.length := by
 match ts, hN with
 | [], hN => exact ⟨e96, hN, Nat.le_refl _⟩
 | [a], hN => exact ⟨e96, hN, Nat.le_refl _⟩
 | a :: b :: r, hN =>
   simp only [resT]
   split
   ·rename_i hab
    simp only [Bool.and_eq_true] at hab
    exact ⟨(hN a (by simp) hab.1).2, fun t ht => hN t (by simp [ht]), by simp only [List.length_cons]; omega⟩
   ·exact ⟨e96, hN, Nat.le_refl _⟩
structure Good (x : HdT) : Prop where
 nm : x.nm.size ≤ 96
 re : x.re.size ≤ 96
 le : x.le.size ≤ 96
 ri : x.ri.size ≤ 96
 ls : ∀ y ∈ x.ls, y.size ≤ 96
 few : x.ls.length ≤ 600
 two : x.ri = E → x.le = E
theorem good_z : Good hdZ := ⟨by decide, by decide, by decide, by decide, by simp [hdZ], by simp [hdZ], fun _ => rfl⟩
theorem parseT_good {ts : List (Nat × Tk)} {x : HdT} (hN : NT ts) (hl : ts.length ≤ 600) (h : parseT ts = some x) : Good x := by
 obtain ⟨r1, r2, r3⟩ := resT_ok hN
 have hns : ∀ y ∈ ((resT ts).2.takeWhile isN).map wd, 0 < y.size ∧ y.size ≤ 96 := by
  intro y hy
  obtain ⟨t, ht, rfl⟩ := List.mem_map.1 hy
  exact r2 t ((List.takeWhile_prefix isN).sublist.subset ht) (mem_tw ht)
 unfold parseT at h
 simp only at h
 split at h
 ·cases h
 ·rename_i ls hls
  obtain ⟨l1, l2⟩ := locT_ok (fun t ht => r2 t (List.mem_of_mem_drop ht)) hls
  rw [List.length_drop] at l2
  split at h
  ·cases h
  ·rename_i y hy
   split at h
   ·cases h
    have e0 : ∀ {p : Prop}, (E.size ≤ 96 → p) → p := fun f => f (by decide)
    generalize ((resT ts).2.takeWhile isN).map wd = ns at hns hy
    match ns, hns, hy with
    | [f], hns, hy =>
      cases hy
      exact ⟨(hns f (by simp)).2, r1, e96, e96, l1, by simp only; omega, fun _ => rfl⟩
    | [f, b], hns, hy =>
      cases hy
      exact ⟨(hns f (by simp)).2, r1, e96, (hns b (by simp)).2, l1, by simp only; omega, fun _ => rfl⟩
    | [a, f, b], hns, hy =>
      cases hy
      refine ⟨(hns f (by simp)).2, r1, (hns a (by simp)).2, (hns b (by simp)).2, l1, by simp only; omega, fun hh => ?_⟩
      simp only at hh
      have := (hns b (by simp)).1
      rw [hh] at this
      exact absurd this (by decide)
   ·cases h
theorem hdp_good (l : List Int) : Good (hdp l).1 := by
 unfold hdp
 split
 ·exact good_z
 ·rename_i ts hts
  obtain ⟨h1, h2⟩ := lex_nt hts
  split
  ·exact good_z
  ·rename_i x hx
   exact parseT_good h1 h2 hx
end Go.Im.Heads
namespace Go.Proofs.YtachkofbmodnnaaGreatDoor.H9
open Go Go.Im Go.Im.Limbs Go.Im.Lexing Go.Im.Heads Go.Proofs Go.RowKit Go.Sort Hd N18 N19 N23 N26 R8 R9 T0 H2 H3 H4 H5 H6 H7 H8
set_option maxRecDepth 100000
end Go.Proofs.YtachkofbmodnnaaGreatDoor.H9
namespace Go.Im.Lexing
def labelL (l : List Int) : ByteArray × List Int := match lex l with
 | some (t :: u :: _) => if t.2.kind = 2 ∧ isM u.2 58 = true then (runesBytes t.2.word, l.drop (u.1 + 1)) else (ByteArray.empty, l)
 | _ => (ByteArray.empty, l)
end Go.Im.Lexing
namespace Go.Proofs.YtachkofbmodnnaaGreatDoor.L1
open Go Go.Im Go.Im.Limbs Go.Im.Lexing Go.Proofs Go.RowKit Hd N18 N19 N23 N26 R8 R9 T0
set_option maxRecDepth 100000
theorem label_run (l : List Int) {v : Value} (h : Heap) (t : Tx h v l) (hm : l.length ≤ 1000000) : Runs K f_head_Label #[v] h fun r w => ∃ u, r = .tuple #[.string (labelL l).1, u] ∧ Tx w u (labelL l).2 := by
 obtain ⟨a, c, rfl⟩ := t.open
 refine Runs.of Kok (Does.intro rfl (by decide +kernel) F_head_Label rfl ?_)
 simp +decide only [go_sem, W_region, Wx_some]
 refine W_call Kok (Nat.le_refl _) (lex_run h t) fun r w1 x1 hr => ?_
 have t1 := t.ext x1
 rcases hr with ⟨hlex, rfl⟩ | ⟨xs, a1, c1, hlex, hA, hxl, rfl, s1⟩
 ·simp +decide only [go_sem, W_region, Wx_some]
  unfold labelL
  rw [hlex]
  exact ⟨_, rfl, t1⟩
 by_cases h2 : ((xs.length : Nat) : Int) < 2
 ·simp +decide only [go_sem, W_region, Wx_some, h2]
  unfold labelL
  rw [hlex]
  match xs, h2 with
  | [], _ => exact ⟨_, rfl, t1⟩
  | [x], _ => exact ⟨_, rfl, t1⟩
  | _ :: _ :: _, h2 => simp at h2; omega
 obtain ⟨X, Y, rest, rfl⟩ : ∃ X Y rest, xs = X :: Y :: rest := by
  match xs, h2 with
  | [], h2 => simp at h2
  | [x], h2 => simp at h2
  | X :: Y :: rest, _ => exact ⟨_, _, _, rfl⟩
 have hris := lex_rising hlex
 obtain ⟨_, ⟨ch, hch, _⟩, _⟩ := hris.at (i := 1) (t := Y.1) rfl
 have hYl := (List.getElem?_eq_some_iff.1 hch).1
 have hne : l ≠ [] := by
  rintro rfl
  simp at hYl
 obtain ⟨b1, o1, cs1, p1, p2, p3, p4, _, p6, _, _, p5⟩ := Sl.tok (i := 0) s1 hA rfl rfl
 obtain ⟨b2, o2, cs2, r1, r2, r3, _, r4, _, _, r6, r5⟩ := Sl.tok (i := 1) s1 hA rfl rfl
 subst p1
 cases r1
 rw [p3] at r3
 cases r3
 have p4' : cs1[o1]? = some (.int .i64 (X.1.2.kind : Int)) := by simpa using p4
 have p6' : cs1[o1 + 2]? = some (.string (runesBytes X.1.2.word)) := by simpa using p6
 have r4' : cs1[o1 + 9 + 1]? = some (.int .i64 (Y.1.1 : Int)) := by simpa using r4
 have r5' : o1 + 9 + 9 ≤ cs1.length := by simpa using r5
 have r6' : (cs1.drop (o1 + 9)).take 9 = tc4 Y.1 ++ Y.2 := by simpa using r6
 have n0 : (0 : Int) < (((X :: Y :: rest).length : Nat) : Int) := by simp only [List.length_cons]; omega
 have n1 : (1 : Int) < (((X :: Y :: rest).length : Nat) : Int) := by simp only [List.length_cons]; omega
 have hYA := hA Y (by simp)
 have hspec : labelL l = if X.1.2.kind = 2 ∧ isM Y.1.2 58 = true then (runesBytes X.1.2.word, l.drop (Y.1.1 + 1)) else (ByteArray.empty, l) := by
  unfold labelL
  rw [hlex]
  rfl
 rw [hspec]
 generalize hL : (X :: Y :: rest).length = L at *
 by_cases hk : X.1.2.kind = 2
 case neg =>
  have hk' : ¬ ((X.1.2.kind : Nat) : Int) = 2 := by omega
  rw [if_neg (fun hh => hk hh.1)]
  simp +decide only [go_sem, W_region, Wx_some, h2, n0, p3, p4', hk', Nat.add_zero, Nat.zero_mul]
  exact ⟨_, rfl, t1⟩
 have hk' : ((X.1.2.kind : Nat) : Int) = 2 := by omega
 simp +decide only [go_sem, W_region, Wx_some, h2, n0, n1, p3, p4', hk', Nat.add_zero, Nat.zero_mul, Nat.one_mul, r5', r6']
 refine W_call Kok x1.1 (is_run Y.1 hYA 58 w1) fun r w2 x2 hr => ?_
 subst hr
 have t2 := t1.ext x2
 have p3' : (w2.get b1).read = .cells cs1 9 := by rw [x2.2 _ p2]; exact p3
 cases hm58 : isM Y.1.2 58 with
 | false =>
   rw [if_neg (by simp)]
   simp +decide only [go_sem, W_region, Wx_some]
   exact ⟨_, rfl, t2⟩
 | true =>
 rw [if_pos ⟨hk, rfl⟩]
 have i1 : IntKind.i64.wrap (((Y.1.1 : Nat) : Int) + 1) = ((Y.1.1 + 1 : Nat) : Int) := by rw [wrap_i64 (by omega) (by omega)]; omega
 obtain ⟨a', c1', c2'⟩ := t2.rest hne (lo := Y.1.1 + 1) (by omega)
 simp +decide only [go_sem, W_region, Wx_some, n0, n1, p3', p6', r4', Nat.add_zero, Nat.zero_mul, Nat.one_mul, i1, c1']
 exact ⟨_, rfl, c2'⟩
end Go.Proofs.YtachkofbmodnnaaGreatDoor.L1
namespace Go.Im.Editing
open Go Go.Im Go.Im.Lexing
def isB (c : Int) : Bool := decide (c = 32)
def rtrim (l : List Int) : List Int := (l.reverse.dropWhile isB).reverse
def trimS (l : List Int) : List Int := rtrim (l.dropWhile isB)
theorem dw_all {p : Int → Bool} : ∀ {a r : List Int}, a.all p = true → (a ++ r).dropWhile p = r.dropWhile p
 | [], r, _ => rfl
 | x :: a, r, h => by
   simp only [List.all_cons, Bool.and_eq_true] at h
   rw [List.cons_append, List.dropWhile_cons_of_pos h.1, dw_all h.2]
theorem dw_stop {p : Int → Bool} {l : List Int} (h : ∀ c, l[0]? = some c → p c = false) : l.dropWhile p = l := by
 cases l with
 | nil => rfl
 | cons c l =>
   rw [List.dropWhile_cons_of_neg]
   have := h c rfl
   simp [this]
theorem ltrim_of {l : List Int} {k : Nat} (h1 : (l.take k).all isB = true) (h2 : ∀ c, l[k]? = some c → isB c = false) : l.dropWhile isB = l.drop k := by
 have e := dw_all (r := l.drop k) h1
 rw [List.take_append_drop] at e
 rw [e]
 exact dw_stop fun c hc => h2 c (by rw [List.getElem?_drop] at hc; exact hc)
theorem rtrim_of {m : List Int} {k : Nat} (h0 : k ≤ m.length) (h1 : (m.drop k).all isB = true) (h2 : 0 < k → ∀ c, m[k - 1]? = some c → isB c = false) : rtrim m = m.take k := by
 unfold rtrim
 have e : m.reverse = (m.drop k).reverse ++ (m.take k).reverse := by rw [← List.reverse_append, List.take_append_drop]
 rw [e, dw_all (by rw [List.all_reverse]; exact h1), dw_stop, List.reverse_reverse]
 intro c hc
 by_cases hk : k = 0
 ·subst hk
  simp at hc
 ·refine h2 (by omega) c ?_
  rw [List.getElem?_reverse (by simp; omega), List.length_take, List.getElem?_take] at hc
  rw [if_pos (by omega)] at hc
  rw [← hc]
  congr 1
  omega
theorem rtrim_len (m : List Int) : (rtrim m).length ≤ m.length := by
 unfold rtrim
 rw [List.length_reverse]
 have := (List.dropWhile_suffix isB (l := m.reverse)).length_le
 simpa using this
theorem trim_len (l : List Int) : (trimS l).length ≤ l.length := by
 have h1 := rtrim_len (l.dropWhile isB)
 have h2 := (List.dropWhile_suffix isB (l := l)).length_le
 unfold trimS
 omega
end Go.Im.Editing
namespace Go.Im
def Ln (h : Heap) (v : Value) (l : List Int) : Prop := (l = [] ∧ (v = .slice none 0 0 ∨ ∃ b o, v = .slice (some ⟨b, o, none⟩) 0 0)) ∨ ∃ b o cs, v = .slice (some ⟨b, o, none⟩) l.length big ∧ b < h.size ∧ (h.get b).read = .cells cs 1 ∧ o + l.length ≤ cs.length ∧ rv l = (cs.drop o).take l.length
theorem Ln.tx {h : Heap} {v : Value} {l : List Int} (t : Ln h v l) : Tx h v l := by
 rcases t with ⟨rfl, rfl | ⟨b, o, rfl⟩⟩ | t
 ·exact .inl ⟨rfl, _, 0, rfl⟩
 ·exact .inl ⟨rfl, _, 0, rfl⟩
 ·exact .inr t
theorem Ln.ext {h h' : Heap} (k : Ext h h') {v : Value} {l : List Int} (t : Ln h v l) : Ln h' v l := by
 rcases t with t | ⟨b, o, cs, h1, h2, h3, h4⟩
 ·exact .inl t
 ·exact .inr ⟨b, o, cs, h1, by have := k.1; omega, by rw [k.2 b h2]; exact h3, h4⟩
theorem Ln.open {h : Heap} {v : Value} {l : List Int} (t : Ln h v l) : ∃ a c, v = .slice a l.length c := t.tx.open
theorem Ln.new {h : Heap} {b : Nat} {l : List Int} (hb : b < h.size) (hg : h.get b = .cells (rv l) 1) : Ln h (.slice (some ⟨b, 0, none⟩) l.length big) l :=
 .inr ⟨b, 0, rv l, rfl, hb, by rw [hg]; rfl, by rw [rv_length]; omega, by rw [List.drop_zero, List.take_of_length_le (by rw [rv_length]; omega)]⟩
theorem Ln.islice {h : Heap} {a : Option Addr} {n c : Nat} {l : List Int} (t : Ln h (.slice a n c) l) : islice h 1 (.slice a n c) = some (rv l) := by
 rcases t with ⟨rfl, hv | ⟨b, o, hv⟩⟩ | ⟨b, o, cs, hv, h2, h3, h4, h5⟩
 ·cases hv
  rfl
 ·cases hv
  simp only [Im.islice, rv, intCells, List.map_nil]
  split <;> simp
 ·cases hv
  simp only [Im.islice, Heap.look, h3]
  rw [if_pos ⟨trivial, by omega⟩, h5, Nat.mul_one]
theorem Ln.cut {h : Heap} {a : Option Addr} {n c : Nat} {l : List Int} (t : Ln h (.slice a n c) l) {lo hi : Option Value} {x y : Nat} (hlo : boundOf 0 lo = some x) (hhi : boundOf l.length hi = some y) (h1 : x ≤ y) (h2 : y ≤ l.length) :
  ∃ a' c', irsl (some (.slice 1)) h a n c lo hi none = some (.slice a' (y - x) c') ∧ Ln h (.slice a' (y - x) c') ((l.drop x).take (y - x)) := by
 rcases t with ⟨rfl, hv⟩ | ⟨b, o, cs, hv, e2, e3, e4, e5⟩
 ·have hc : n = 0 ∧ c = 0 := by
   rcases hv with hv | ⟨b, o, hv⟩ <;> (cases hv; exact ⟨rfl, rfl⟩)
  obtain ⟨rfl, rfl⟩ := hc
  have : y = 0 := by simpa using h2
  subst this
  have : x = 0 := by omega
  subst this
  have hin : iinds 0 0 lo hi none = some (0, 0, 0) := iinds_of hlo hhi (by omega) (by omega)
  refine ⟨a, 0, ?_, .inl ⟨by simp, hv⟩⟩
  simp only [irsl, hin]
  simp [big]
 ·cases hv
  have hin := iinds_of (n := l.length) (cap := cs.length - o) hlo hhi h1 (by omega)
  have hlen : ((l.drop x).take (y - x)).length = y - x := by simp; omega
  have hcs : rv ((l.drop x).take (y - x)) = (cs.drop (o + x)).take (y - x) := by
   rw [← rv_take, ← rv_drop, e5, List.drop_take, List.take_take, List.drop_drop]
   congr 1
   omega
  refine ⟨some ⟨b, o + x, none⟩, big, ?_, .inr ⟨b, o + x, cs, by rw [hlen], e2, e3, by rw [hlen]; omega, by rw [hlen]; exact hcs⟩⟩
  simp only [irsl, Nat.lt_irrefl, if_false, if_true, Heap.look, e3, Nat.div_one, hin, Nat.mul_one, ne_eq, not_true_eq_false]
theorem Ln.one {h : Heap} {v : Value} {l : List Int} {i : Nat} {x : Int} (t : Ln h v l) (hx : l[i]? = some x) :
  ∃ b o cs, v = .slice (some ⟨b, o, none⟩) l.length big ∧ b < h.size ∧ (h.get b).read = .cells cs 1 ∧ cs[o + i]? = some (.int .i32 x) := t.tx.one hx
end Go.Im
namespace Go.Proofs.YtachkofbmodnnaaGreatDoor.E2
open Go Go.Im Go.Im.Lexing Go.Im.Editing Go.Proofs Go.RowKit Hd
set_option maxRecDepth 100000
theorem drop_one {l : List Int} {k : Nat} : (l.drop k).drop 1 = l.drop (k + 1) := by rw [List.drop_drop]
theorem trim_run (l : List Int) (h : Heap) {tv : Value} (t : Ln h tv l) (hm : l.length ≤ 1000000) : Runs K f_glyph_Trim #[tv] h fun r w => w = h ∧ Ln h r (trimS l) := by
 refine Runs.of Kok (Does.intro rfl (by decide +kernel) F_glyph_Trim rfl ?_)
 apply W_join (α := Value × List Int) (fun v e w => e.size = 32 ∧ h = w ∧ e.get 0 = v.1 ∧ Ln h v.1 v.2 ∧ v.2 = l.dropWhile isB)
 ·intro cont
  simp +decide only [go_sem, W_region, Wx_some]
  refine W_loop (α := Nat × Value) (fun k e w => k.1 ≤ l.length ∧ e.size = 32 ∧ h = w ∧ e.get 0 = k.2 ∧ Ln h k.2 (l.drop k.1) ∧ (l.take k.1).all isB = true) (fun k => l.length - k.1) (0, tv) ?_ ?_
  ·exact ⟨Nat.zero_le _, by simp +decide only [go_sem], rfl, by simp +decide only [go_sem], by simpa using t, by simp⟩
  rintro ⟨k, v⟩ e w ⟨hk, hsz, hw, e0, tk, hall⟩ next
  subst hw
  simp only at hk e0 tk hall
  by_cases hkl : k < l.length
  ·obtain ⟨x, hx⟩ : ∃ x, l[k]? = some x := ⟨_, List.getElem?_eq_getElem hkl⟩
   have hx0 : (l.drop k)[0]? = some x := by rw [List.getElem?_drop]; exact hx
   obtain ⟨b, o, cs, rfl, q2, q3, q4⟩ := tk.one hx0
   rw [Nat.add_zero] at q4
   have d0 : (0 : Int) < (((l.drop k).length : Nat) : Int) := by rw [List.length_drop]; omega
   by_cases h32 : x = 32
   ·obtain ⟨a', c', f1, tk'⟩ := tk.cut (lo := some (.int .i64 1)) (hi := none) (x := 1) (y := (l.drop k).length) rfl rfl (by rw [List.length_drop]; omega) (Nat.le_refl _)
    rw [drop_one, List.take_of_length_le (by simp only [List.length_drop]; omega)] at tk'
    simp +decide only [go_sem, W_region, Wx_some, hsz, e0, d0, q3, q4, h32, f1]
    refine next (k + 1, .slice a' ((l.drop k).length - 1) c') _ _ ⟨by simp only; omega, by simp +decide only [go_sem, hsz], rfl, by simp +decide only [go_sem, hsz], tk', ?_⟩ (by simp only; omega)
    rw [List.take_add_one, hx, List.all_append, hall]
    simp [isB, h32]
   ·simp +decide only [go_sem, W_region, Wx_some, hsz, e0, d0, q3, q4, h32]
    refine cont (_, l.drop k) _ _ ⟨by simp +decide only [go_sem, hsz], rfl, by simp +decide only [go_sem, hsz, e0], tk, (ltrim_of hall fun c hc => ?_).symm⟩
    rw [hx] at hc
    cases hc
    simp [isB, h32]
  ·have hke : l.drop k = [] := List.drop_of_length_le (by omega)
   rw [hke] at tk
   obtain ⟨a, c, rfl⟩ := tk.open
   simp +decide only [go_sem, W_region, Wx_some, hsz, e0, List.length_nil, Int.natCast_zero, Int.lt_irrefl]
   refine cont (_, []) _ _ ⟨by simp +decide only [go_sem, hsz], rfl, by simp +decide only [go_sem, hsz, e0], tk, ?_⟩
   rw [← hke]
   exact (ltrim_of hall fun c hc => by simp [List.getElem?_eq_none (show l.length ≤ k by omega)] at hc).symm
 rintro ⟨v, m⟩ e w ⟨hsz, hw, e0, tm, hm'⟩
 subst hw
 simp only at e0 tm hm'
 have hml : m.length ≤ l.length := by rw [hm']; exact (List.dropWhile_suffix isB).length_le
 refine W_loop (α := Nat × Value) (fun k e w' => k.1 ≤ m.length ∧ e.size = 32 ∧ h = w' ∧ e.get 0 = k.2 ∧ Ln h k.2 (m.take k.1) ∧ (m.drop k.1).all isB = true) (fun k => k.1) (m.length, v) ?_ ?_
 ·exact ⟨Nat.le_refl _, hsz, rfl, e0, by simpa using tm, by simp⟩
 rintro ⟨k, v⟩ e w' ⟨hk, hsz, hw, e0, tk, hall⟩ next
 subst hw
 simp only at hk e0 tk hall
 have hkl : (m.take k).length = k := by simp; omega
 by_cases h0 : 0 < k
 ·obtain ⟨x, hx⟩ : ∃ x, m[k - 1]? = some x := ⟨_, List.getElem?_eq_getElem (by omega)⟩
  have hx0 : (m.take k)[k - 1]? = some x := by rw [List.getElem?_take, if_pos (by omega)]; exact hx
  obtain ⟨b, o, cs, rfl, q2, q3, q4⟩ := tk.one hx0
  have d0 : (0 : Int) < ((k : Nat) : Int) := by omega
  have i1 : IntKind.i64.wrap ((k : Int) - 1) = ((k - 1 : Nat) : Int) := by rw [wrap_i64 (by omega) (by omega)]; omega
  have c0 : (0 : Int) ≤ ((k - 1 : Nat) : Int) := by omega
  have c1 : ((k - 1 : Nat) : Int) < ((k : Nat) : Int) := by omega
  by_cases h32 : x = 32
  ·obtain ⟨a', c', f1, tk'⟩ := tk.cut (lo := none) (hi := some (.int .i64 ((k - 1 : Nat) : Int))) (x := 0) (y := k - 1) rfl (by simp [boundOf]) (Nat.zero_le _) (by omega)
   rw [List.drop_zero, List.take_take, Nat.sub_zero, Nat.min_eq_left (by omega)] at tk'
   rw [hkl] at f1 e0
   simp +decide only [go_sem, W_region, Wx_some, hsz, e0, d0, i1, c0, c1, Int.toNat_natCast, q3, q4, h32, f1]
   refine next (k - 1, .slice a' (k - 1) c') _ _ ⟨by simp only; omega, by simp +decide only [go_sem, hsz], rfl, by simp +decide only [go_sem, hsz, Nat.sub_zero], tk', ?_⟩ (by simp only; omega)
   have hd : m.drop (k - 1) = x :: m.drop k := by
    obtain ⟨g1, g2⟩ := List.getElem?_eq_some_iff.1 hx
    rw [List.drop_eq_getElem_cons g1, g2]
    congr 2
    omega
   rw [hd, List.all_cons, hall]
   simp [isB, h32]
  ·rw [hkl] at e0
   simp +decide only [go_sem, W_region, Wx_some, hsz, e0, d0, i1, c0, c1, Int.toNat_natCast, q3, q4, h32]
   rw [trimS, ← hm', rtrim_of hk hall fun _ c hc => by rw [hx] at hc; cases hc; simp [isB, h32], ← hkl]
   rw [hkl]
   rw [hkl] at tk
   exact tk
 ·have hk0 : k = 0 := by omega
  subst hk0
  obtain ⟨a, c, rfl⟩ := tk.open
  rw [hkl] at e0
  simp +decide only [go_sem, W_region, Wx_some, hsz, e0, Int.natCast_zero, Int.lt_irrefl]
  rw [trimS, ← hm', rtrim_of hk hall fun hh => absurd hh (by omega)]
  exact tk
end Go.Proofs.YtachkofbmodnnaaGreatDoor.E2
