/- Proved here: HeadBack answers true at every line laid in memory that is only read. -/
import Derived.Test.YtjlaenglmdpboaaQH20
set_option linter.unusedSimpArgs false
set_option linter.unusedVariables false
namespace Go.Proofs.Ytjlaenglmdpboaa.H21
open Go Go.Im Go.Im.Limbs Go.Im.Lexing Go.Im.Heads Go.Proofs Go.RowKit Go.Sort Go.Proofs.Ytjlaenglmdpboaa.Hd Go.Proofs.Ytjlaenglmdpboaa.N18 Go.Proofs.Ytjlaenglmdpboaa.N19 Go.Proofs.Ytjlaenglmdpboaa.N23 Go.Proofs.Ytjlaenglmdpboaa.N26 Go.Proofs.Ytjlaenglmdpboaa.T9 Go.Proofs.Ytjlaenglmdpboaa.H2 Go.Proofs.Ytjlaenglmdpboaa.H3 Go.Proofs.Ytjlaenglmdpboaa.H4 Go.Proofs.Ytjlaenglmdpboaa.H5 Go.Proofs.Ytjlaenglmdpboaa.H6 Go.Proofs.Ytjlaenglmdpboaa.H8
set_option maxRecDepth 100000

/-- The bytes of signs. -/
def rb (l : List Int) : List UInt8 := (runesBytes l).data.toList
theorem rb_append (a b : List Int) : rb (a ++ b) = rb a ++ rb b := by simp [rb, runes_append, ByteArray.data_append]
theorem rb_ne {l : List Int} (h : l ≠ []) : rb l ≠ [] := by
  have := runes_pos h
  intro e
  have : (rb l).length = (runesBytes l).size := by simp [rb]
  rw [e] at this
  simp at this
  omega
theorem rb_name {l : List Int} (h : nameOK l = true) : rb l ≠ [] := by
  obtain ⟨c, t, rfl, _⟩ := name_facts h
  exact rb_ne (by simp)
theorem rb_nil : rb [] = [] := rfl
theorem rb_re {re : List Int} : rb (ptxt (rePc re)) = if rb re = [] then [] else rb re ++ [226, 134, 144] := by
  unfold rePc
  by_cases h : re = []
  · subst h
    rfl
  · rw [if_neg h, if_neg (rb_ne h)]
    have : ptxt [.w re, .m 8592] = re ++ [8592] := by simp [ptxt, Pc.txt]
    rw [this, rb_append]
    rfl
theorem rb_ls (ls : List (List Int)) : rb (ptxt (lsPc ls)) = (ls.map rb).flatMap fun x => 59 :: x := by
  induction ls with
  | nil => rfl
  | cons w ls ih =>
    have : ptxt (lsPc (w :: ls)) = [59] ++ (w ++ ptxt (lsPc ls)) := by simp [ptxt, lsPc, Pc.txt]
    rw [this, rb_append, rb_append, ih, List.map_cons, List.flatMap_cons]
    rfl
theorem rb_two (a b : List Int) : rb (a ++ 32 :: b) = rb a ++ 32 :: rb b := by
  rw [rb_append, show (32 :: b) = [32] ++ b from rfl, rb_append]
  rfl
theorem txt_back {re : List Int} {ns ls : List (List Int)} {x : HdT} (hn : ∀ w ∈ ns, nameOK w = true) (h : headT (runesBytes re) (ns.map runesBytes) (ls.map runesBytes) = some x) : text (txtL x) = runesBytes (ptxt (rePc re ++ (nsPc ns ++ lsPc ls))) := by
  have e4 : ptxt (rePc re ++ (nsPc ns ++ lsPc ls)) = ptxt (rePc re) ++ (ptxt (nsPc ns) ++ ptxt (lsPc ls)) := by simp [ptxt]
  have hg : txtL x = rb (ptxt (rePc re ++ (nsPc ns ++ lsPc ls))) := by
    rw [e4, rb_append, rb_append, rb_re, rb_ls]
    have el : ∀ ls : List (List Int), (ls.map runesBytes).map (·.data.toList) = ls.map rb := fun ls => by rw [List.map_map]; rfl
    match ns, hn, h with
    | [f], hn, h =>
      cases h
      have e : ptxt (nsPc [f]) = f := by simp [ptxt, nsPc, Pc.txt]
      simp only [txtL, S3.txt, e, el]
      rfl
    | [f, b], hn, h =>
      cases h
      have e : ptxt (nsPc [f, b]) = f ++ 32 :: b := by simp [ptxt, nsPc, Pc.txt]
      have hb := rb_name (hn b (by simp))
      simp only [txtL, S3.txt, e, el, rb_two]
      have hb' : ¬ (runesBytes b).data.toList = [] := hb
      rw [if_neg hb', List.append_assoc]
      rfl
    | [a, f, b], hn, h =>
      cases h
      have e : ptxt (nsPc [a, f, b]) = a ++ 32 :: (f ++ 32 :: b) := by simp [ptxt, nsPc, Pc.txt]
      have hb' : ¬ (runesBytes b).data.toList = [] := rb_name (hn b (by simp))
      have ha' : ¬ (runesBytes a).data.toList = [] := rb_name (hn a (by simp))
      simp only [txtL, S3.txt, e, el, rb_two]
      rw [if_neg hb', if_neg ha']
      simp [rb, List.append_assoc]
  rw [hg]
  simp [text, rb]
theorem icvt_runes {l : List UInt8} {ns : List Int} {h : Heap} (e : text l = runesBytes ns) (hv : ∀ c ∈ ns, Utf8.valid c = true) : icvt (some .i32) l h = some (.slice (some ⟨h.size, 0, none⟩) ns.length big, h.push (.cells (rv ns) 1)) := by
  simp only [icvt, e, runes_of hv, rv_length]
theorem hdp_no {l : List Int} {x : HdT} (h : hdp l = (x, false)) : x = hdZ := by
  unfold hdp at h
  split at h
  · cases h; rfl
  · split at h
    · cases h; rfl
    · cases h

theorem equal_run (xs : List ByteArray) (h : Heap) {a b : Option Addr} {c d : Nat} (sa : Sl h 1 a xs.length c (sv xs)) (sb : Sl h 1 b xs.length d (sv xs)) (hk : xs.length ≤ 1000000) :
    Runs K f_slices_Equal_string_string #[.slice a xs.length c, .slice b xs.length d] h fun v _ => v = .bool true := by
  refine Runs.of Kok (Does.intro rfl (by decide +kernel) F_slices_Equal_string_string rfl ?_)
  simp (decide := true) only [go_sem, W_region, Wx_some, Nat.reduceAdd, Nat.reduceMul, Nat.reduceEqDiff, Int.reduceAdd, Int.reduceSub, Int.reduceMul, Int.reduceNeg, Int.reduceToNat]
  refine W_loop (α := Nat) (fun i e w => i ≤ xs.length ∧ e.size = 26 ∧ e.get 0 = .slice a xs.length c ∧ e.get 1 = .slice b xs.length d ∧ e.get 12 = .int .i64 ((xs.length : Nat) : Int) ∧ e.get 13 = .int .i64 i ∧ Ext h w) (fun i => xs.length - i) 0 ?_ ?_
  · simp (decide := true) only [go_sem, W_region, Wx_some, Nat.reduceAdd, Nat.reduceMul, Nat.reduceEqDiff, Int.reduceAdd, Int.reduceSub, Int.reduceMul, Int.reduceNeg, Int.reduceToNat]
    exact ⟨Nat.zero_le _, rfl, Ext.refl h⟩
  · rintro i e w ⟨hi, hsz, g0, g1, g12, g13, hx⟩ next
    by_cases hik : (i : Int) < ((xs.length : Nat) : Int)
    · have hik' : i < xs.length := by omega
      obtain ⟨x, hxi⟩ : ∃ x, xs[i]? = some x := ⟨_, List.getElem?_eq_getElem (by omega)⟩
      obtain ⟨b1, o1, cs1, rfl, hb1, hg1, hc1⟩ := (sa.ext hx).one (i := i) (x := .string x) (sv_get hxi)
      obtain ⟨b2, o2, cs2, rfl, hb2, hg2, hc2⟩ := (sb.ext hx).one (i := i) (x := .string x) (sv_get hxi)
      have i1 : (0 : Int) ≤ (i : Int) := by omega
      have i3 : IntKind.i64.wrap ((i : Int) + 1) = (i : Int) + 1 := wrap_i64 (by omega) (by omega)
      simp (decide := true) only [go_sem, W_region, Wx_some, Nat.reduceAdd, Nat.reduceMul, Nat.reduceEqDiff, Int.reduceAdd, Int.reduceSub, Int.reduceMul, Int.reduceNeg, Int.reduceToNat, hsz, g0, g1, g12, g13, hik, i1, Int.toNat_natCast, Nat.mul_one, hg1, hg2, hc1, hc2, i3]
      refine next (i + 1) _ _ ?_ (by omega)
      simp (decide := true) only [go_sem, W_region, Wx_some, Nat.reduceAdd, Nat.reduceMul, Nat.reduceEqDiff, Int.reduceAdd, Int.reduceSub, Int.reduceMul, Int.reduceNeg, Int.reduceToNat, hsz, g0, g1, g12]
      exact ⟨by omega, rfl, hx⟩
    · simp (decide := true) only [go_sem, W_region, Wx_some, Nat.reduceAdd, Nat.reduceMul, Nat.reduceEqDiff, Int.reduceAdd, Int.reduceSub, Int.reduceMul, Int.reduceNeg, Int.reduceToNat, hsz, g0, g1, g12, g13, hik]

theorem hsame_run (x : HdT) (h : Heap) {a b : Option Addr} {c d : Nat} (sa : Sl h 1 a x.ls.length c (sv x.ls)) (sb : Sl h 1 b x.ls.length d (sv x.ls)) (hk : x.ls.length ≤ 1000000) :
    Runs K f_head_Same #[.agg (hl x (.slice a x.ls.length c)).toArray, .agg (hl x (.slice b x.ls.length d)).toArray] h fun v _ => v = .bool true := by
  refine Runs.of Kok (Does.intro rfl (by decide +kernel) F_head_Same rfl ?_)
  obtain ⟨w1, e1, x1, hs1, z1⟩ := lay1 h (.cells [.string x.nm, .string x.re, .string x.le, .string x.ri, .slice a x.ls.length c] 5)
  obtain ⟨w2, e2, x2, hs2, z2⟩ := lay1 w1 (.cells [.string x.nm, .string x.re, .string x.le, .string x.ri, .slice b x.ls.length d] 5)
  have z1' : w2.get h.size = _ := (x2.2 _ (by omega)).trans z1
  simp (decide := true) only [go_sem, W_region, Wx_some, Nat.reduceAdd, Nat.reduceMul, Nat.reduceEqDiff, Int.reduceAdd, Int.reduceSub, Int.reduceMul, Int.reduceNeg, Int.reduceToNat, hl, e1, e2, z1', z2]
  refine W_call Kok (x1.trans x2).1 (equal_run x.ls w2 (sa.ext (x1.trans x2)) (sb.ext (x1.trans x2)) hk) fun v w hx hv => ?_
  subst hv
  simp (decide := true) only [go_sem, W_region, Wx_some, Nat.reduceAdd, Nat.reduceMul, Nat.reduceEqDiff, Int.reduceAdd, Int.reduceSub, Int.reduceMul, Int.reduceNeg, Int.reduceToNat]

set_option maxHeartbeats 4000000 in
theorem hback_run (l : List Int) (h : Heap) {a : Option Addr} {c : Nat} (sl : Sl h 1 a l.length c (rv l)) (hc : c = 0 ∨ c = big) :
    Runs K f_law23_HeadBack #[.slice a l.length c] h fun r _ => r = .bool true := by
  have t := Tx.all sl hc
  refine Runs.of Kok (Does.intro rfl (by decide +kernel) F_law23_HeadBack rfl ?_)
  by_cases h3 : (250 : Int) < ((l.length : Nat) : Int)
  · simp (decide := true) only [go_sem, W_region, Wx_some, Nat.reduceAdd, Nat.reduceMul, Nat.reduceEqDiff, Int.reduceAdd, Int.reduceSub, Int.reduceMul, Int.reduceNeg, Int.reduceToNat, h3]
    refine W_call Kok (Nat.le_refl _) (law23_awake_runs h) fun r w x hr => ?_
    subst hr
    simp (decide := true) only [go_sem, W_region, Wx_some, Nat.reduceAdd, Nat.reduceMul, Nat.reduceEqDiff, Int.reduceAdd, Int.reduceSub, Int.reduceMul, Int.reduceNeg, Int.reduceToNat]
  have G := hdp_good l
  simp (decide := true) only [go_sem, W_region, Wx_some, Nat.reduceAdd, Nat.reduceMul, Nat.reduceEqDiff, Int.reduceAdd, Int.reduceSub, Int.reduceMul, Int.reduceNeg, Int.reduceToNat, h3]
  refine W_call Kok (Nat.le_refl _) (parse_run l h t (by omega)) fun r w1 x1 hr => ?_
  obtain ⟨pa, pc, rfl, s1⟩ := hr
  generalize hX : hdp l = X at s1 G
  obtain ⟨x, ok⟩ := X
  simp only at s1 G
  obtain ⟨w2, e2, x2, hs2, z2⟩ := lay1 w1 (.cells [.string ByteArray.empty, .string ByteArray.empty, .string ByteArray.empty, .string ByteArray.empty, .slice none 0 0] 5)
  obtain ⟨w3, e3, x3, hs3, z3, k3⟩ := put1 x2 (Nat.le_refl _) (.cells (hl x (.slice pa x.ls.length pc)) 5)
  have x03 := x1.trans x3
  have j1 : h.size ≤ w1.size := x1.1
  cases ok with
  | false =>
    have := hdp_no hX
    subst this
    simp only [hl] at e3 z3
    simp (decide := true) only [go_sem, W_region, Wx_some, Nat.reduceAdd, Nat.reduceMul, Nat.reduceEqDiff, Int.reduceAdd, Int.reduceSub, Int.reduceMul, Int.reduceNeg, Int.reduceToNat, hl, e2, z2, j1, e3, z3]
    have hE : hdZ.nm = ⟨#[]⟩ := rfl
    simp (decide := true) only [go_sem, W_region, Wx_some, Nat.reduceAdd, Nat.reduceMul, Nat.reduceEqDiff, Int.reduceAdd, Int.reduceSub, Int.reduceMul, Int.reduceNeg, Int.reduceToNat, hE]
    refine W_call Kok x03.1 (law23_awake_runs w3) fun r w x hr => ?_
    subst hr
    simp (decide := true) only [go_sem, W_region, Wx_some, Nat.reduceAdd, Nat.reduceMul, Nat.reduceEqDiff, Int.reduceAdd, Int.reduceSub, Int.reduceMul, Int.reduceNeg, Int.reduceToNat]
  | true =>
    have few := G.few
    have hz : x.nm.size ≤ 1000000 ∧ x.re.size ≤ 1000000 ∧ x.le.size ≤ 1000000 ∧ x.ri.size ≤ 1000000 ∧ ∀ y ∈ x.ls, y.size ≤ 1000000 := ⟨Nat.le_trans G.nm (by decide), Nat.le_trans G.re (by decide), Nat.le_trans G.le (by decide), Nat.le_trans G.ri (by decide), fun y hy => Nat.le_trans (G.ls y hy) (by decide)⟩
    obtain ⟨re, ns, ls, R, hR, _, hn, hh, hv, hRl, hback⟩ := hdp_back hX
    have htxt := txt_back hn hh
    rw [← hR] at htxt
    have s3 := s1.ext x3
    have txr := text_run x w3 s3 (by omega) hz
    simp only [hl] at e3 z3 txr
    simp (decide := true) only [go_sem, W_region, Wx_some, Nat.reduceAdd, Nat.reduceMul, Nat.reduceEqDiff, Int.reduceAdd, Int.reduceSub, Int.reduceMul, Int.reduceNeg, Int.reduceToNat, hl, e2, z2, j1, e3, z3]
    refine W_call Kok x03.1 txr fun r w4 x4 hr => ?_
    subst hr
    have htb : txtB x = text (txtL x) := rfl
    obtain ⟨w5, e5, x5, hs5, z5⟩ := lay1 w4 (.cells (rv R) 1)
    have x05 := x03.trans (x4.trans x5)
    have tR : Tx w5 (.slice (some ⟨w4.size, 0, none⟩) R.length big) R := Tx.all (Own.sl (low := 0) (.inr ⟨w4.size, rfl, Nat.zero_le _, by omega, z5, by simp [rv_length]⟩)) (.inr rfl)
    simp (decide := true) only [go_sem, W_region, Wx_some, Nat.reduceAdd, Nat.reduceMul, Nat.reduceEqDiff, Int.reduceAdd, Int.reduceSub, Int.reduceMul, Int.reduceNeg, Int.reduceToNat, htb, icvt_runes htxt hv, e5]
    have pr := parse_run R w5 tR (by omega)
    rw [hback (by omega)] at pr
    refine W_call Kok x05.1 pr fun r w6 x6 hr => ?_
    obtain ⟨qa, qc, rfl, s6⟩ := hr
    simp only at s6
    have x06 := x05.trans x6
    obtain ⟨w7, e7, x7, hs7, z7⟩ := lay1 w6 (.cells [.string ByteArray.empty, .string ByteArray.empty, .string ByteArray.empty, .string ByteArray.empty, .slice none 0 0] 5)
    obtain ⟨w8, e8, x8, hs8, z8, k8⟩ := put1 x7 (Nat.le_refl _) (.cells (hl x (.slice qa x.ls.length qc)) 5)
    have x08 := x06.trans x8
    have j6 : h.size ≤ w6.size := x06.1
    have x38 := x4.trans (x5.trans (x6.trans x8))
    have y3 : w8.get w1.size = _ := (x38.2 _ (by omega)).trans z3
    have smr := hsame_run x w8 (s6.ext x8) (s3.ext x38) (by omega)
    simp only [hl] at e8 z8 smr
    simp (decide := true) only [go_sem, W_region, Wx_some, Nat.reduceAdd, Nat.reduceMul, Nat.reduceEqDiff, Int.reduceAdd, Int.reduceSub, Int.reduceMul, Int.reduceNeg, Int.reduceToNat, hl, e7, z7, j6, e8, z8, y3]
    refine W_call Kok x08.1 smr fun r w9 x9 hr => ?_
    subst hr
    have z9 : w9.get w6.size = _ := (x9.2 _ (by omega)).trans z8
    have tx9 := text_run x w9 (s6.ext (x8.trans x9)) (by omega) hz
    simp only [hl] at tx9
    simp (decide := true) only [go_sem, W_region, Wx_some, Nat.reduceAdd, Nat.reduceMul, Nat.reduceEqDiff, Int.reduceAdd, Int.reduceSub, Int.reduceMul, Int.reduceNeg, Int.reduceToNat, z9]
    refine W_call Kok (x08.trans x9).1 tx9 fun r w10 x10 hr => ?_
    subst hr
    simp (decide := true) only [go_sem, W_region, Wx_some, Nat.reduceAdd, Nat.reduceMul, Nat.reduceEqDiff, Int.reduceAdd, Int.reduceSub, Int.reduceMul, Int.reduceNeg, Int.reduceToNat, htb]
    refine W_call Kok (x08.trans (x9.trans x10)).1 (law23_awake_runs w10) fun r w x hr => ?_
    subst hr
    simp (decide := true) only [go_sem, W_region, Wx_some, Nat.reduceAdd, Nat.reduceMul, Nat.reduceEqDiff, Int.reduceAdd, Int.reduceSub, Int.reduceMul, Int.reduceNeg, Int.reduceToNat]
end Go.Proofs.Ytjlaenglmdpboaa.H21
