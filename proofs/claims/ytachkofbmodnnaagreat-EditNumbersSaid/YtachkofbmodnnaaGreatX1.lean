/- Proved here: slices.Sort and slices.Compact at strings, and a header's text, over this program, as calls of the ideal machine. -/
import Derived.Test.YtachkofbmodnnaaGreatX0
set_option linter.unusedSimpArgs false
set_option linter.unusedVariables false
namespace Go.Im
open Go.RowKit Go.Proofs Go.Sort
def sorted (ss : List (List UInt8)) : List (List UInt8) := ss.mergeSort fun x y => decide (x ≤ y)
def sortRun (low : Nat) (args : Array Value) (h : Heap) : Option (Value × Heap) := match rowArg low args h with
  | some r => some (.tuple #[], h.set r.b (r.blk (sorted r.ss)))
  | none => none
def compacted (ss : List (List UInt8)) : List (List UInt8) := Lib.compact ss ++ List.replicate (ss.length - (Lib.compact ss).length) []
def compRun (low : Nat) (args : Array Value) (h : Heap) : Option (Value × Heap) := match rowArg low args h with
  | some r => if (Lib.compact r.ss).length ≤ r.ss.length then some (.slice (some ⟨r.b, r.o, none⟩) (Lib.compact r.ss).length r.c, h.set r.b (r.blk (compacted r.ss))) else none
  | none => none
theorem blk_keeps {low : Nat} {args : Array Value} {h : Heap} {r : RowA} (hr : rowArg low args h = some r) (x : Blk) : h.size ≤ (h.set r.b x).size ∧ ∀ b, b < low → (h.set r.b x).get b = h.get b := by
  obtain ⟨_, hlow, _⟩ := rowArg_inv hr
  refine ⟨Nat.le_refl _, fun b hb => ?_⟩
  rw [Heap.get_set, if_neg (by omega)]
def bytesOf : List Value → Option (List ByteArray)
  | [] => some []
  | .string s :: l => (bytesOf l).map (s :: ·)
  | _ => none
theorem bytesOf_get : ∀ {l : List Value} {ls : List ByteArray}, bytesOf l = some ls → l = ls.map Value.string
  | [], ls, h => by cases h; rfl
  | v :: l, ls, h => by
    cases v <;> simp only [bytesOf, reduceCtorEq] at h
    obtain ⟨t, ht, rfl⟩ := Option.map_eq_some_iff.1 h
    rw [bytesOf_get ht]
    rfl
theorem bytesOf_map : ∀ ls : List ByteArray, bytesOf (ls.map Value.string) = some ls
  | [] => rfl
  | s :: ls => by simp only [List.map_cons, bytesOf, bytesOf_map ls, Option.map_some]
/-- The texts of a slice. -/
def textsOf (h : Heap) : Value → Option (List ByteArray)
  | .slice _ 0 _ => some []
  | .slice (some ⟨b, o, none⟩) n _ => match h.look b with
    | .cells cs 1 => if o + n ≤ cs.length ∧ n ≤ 1000000 then bytesOf ((cs.drop o).take n) else none
    | _ => none
  | _ => none
theorem textsOf_sound {h : Heap} {v v' : Value} {ls : List ByteArray} (ht : textsOf h v = some ls) {φ : Places} {w : World} (hv : RV φ v v') (rh : RH φ h w) :
    ∃ a c, v' = .slice a ls.length c ∧ ls.length ≤ 1000000 ∧ ∀ i, i < ls.length → ∃ b o, a = some ⟨b, o, none⟩ ∧ b < w.heap.size ∧ w.cell? ⟨b, o + i, none⟩ = ls[i]?.map Value.string := by
  unfold textsOf at ht
  split at ht
  · cases ht
    cases hv with
    | nilSlice => exact ⟨none, 0, rfl, by simp, fun i hi => absurd hi (by simp)⟩
    | known => exact ⟨_, _, rfl, by simp, fun i hi => absurd hi (by simp)⟩
    | unknown => exact ⟨_, _, rfl, by simp, fun i hi => absurd hi (by simp)⟩
    | spent => exact ⟨_, _, rfl, by simp, fun i hi => absurd hi (by simp)⟩
    | void => exact ⟨_, _, rfl, by simp, fun i hi => absurd hi (by simp)⟩
  · rename_i b o n c hn0
    split at ht
    · rename_i cs hg
      split at ht
      · rename_i hfit
        have hl := bytesOf_get ht
        have hlen : ls.length = n := by
          have := congrArg List.length hl
          simp at this
          omega
        obtain ⟨l, c', hφ, hve⟩ : ∃ (l : Loc) (c' : Nat), φ b = some l ∧ v' = .slice (some ⟨l.blk, l.off + o, none⟩) n c' := by
          cases hv with
          | known _ _ _ _ l hl hcb hn ho => exact ⟨l, c, hl, rfl⟩
          | unknown _ _ _ c' l hl hn ho he hc => exact ⟨l, c', hl, rfl⟩
          | spent => exact (hn0 rfl).elim
          | void => exact (hn0 rfl).elim
        refine ⟨_, c', by rw [hve, hlen], by omega, fun i hi => ⟨l.blk, l.off + o, rfl, (rh.low b l hφ).2, ?_⟩⟩
        have e1 : ((cs.drop o).take n)[i]? = (ls.map Value.string)[i]? := by rw [hl]
        rw [List.getElem?_take, if_pos (by omega), List.getElem?_drop, List.getElem?_map, List.getElem?_eq_getElem hi] at e1
        obtain ⟨u, hu, hru⟩ := load_one rh hφ hg e1
        cases hru
        rw [← Nat.add_assoc] at hu
        rw [hu, List.getElem?_eq_getElem hi]
        rfl
      · cases ht
    · cases ht
  · cases ht
def small (s : ByteArray) : Bool := decide (s.size ≤ 1000000)
def textRun (low : Nat) (args : Array Value) (h : Heap) : Option (Value × Heap) := match args.toList with
  | [.agg xs] => match xs.toList with
    | [.string nm, .string re, .string le, .string ri, sv] => match textsOf h sv with
      | some ls => if small nm && (small re && (small le && (small ri && ls.all small))) then some (.string ⟨(Go.Proofs.YtachkofbmodnnaaGreat.S3.txt nm.data.toList re.data.toList le.data.toList ri.data.toList (ls.map (·.data.toList))).toArray⟩, h) else none
      | none => none
    | _ => none
  | _ => none
end Go.Im
namespace Go.Proofs.YtachkofbmodnnaaGreat.X1
open Go Go.Im Go.RowKit Go.Proofs Go.Sort
noncomputable def sortX : Known Tryz.prog where
  f := 59
  fn := ⟨_, Tryz.func59, rfl, by decide⟩
  run := sortRun
  keeps := fun {low args h v h'} _ hr => by
    simp only [sortRun] at hr
    split at hr
    · rename_i r hq
      cases hr
      exact blk_keeps hq _
    · cases hr
  sound := fun {low args h v h'} hl hr φ w args' ha rh => by
    simp only [sortRun] at hr
    split at hr
    · rename_i r hq
      cases hr
      obtain ⟨l, c', rfl, hc', hb, hH, hre, hg⟩ := row_sound hq ha rh
      obtain ⟨_, _, hn0, hn1, _, _, _, hlen⟩ := rowArg_inv hq
      refine (Tryz.slices_Sort_string l.blk (l.off + r.o) c' r.ss w hH hb (by omega)).mono ?_
      rintro e w' ⟨rfl, n, os, rfl⟩
      exact ⟨φ, _, rfl, RV.undef φ, hg (sorted r.ss) n os (by simp [sorted, hlen])⟩
    · cases hr
  lower := fun {low low' args h r} hl hr => by
    simp only [sortRun] at hr ⊢
    split at hr
    · rename_i x hq
      rw [rowArg_lower hl hq]
      exact hr
    · cases hr
noncomputable def compX : Known Tryz.prog where
  f := 60
  fn := ⟨_, Tryz.func60, rfl, by decide⟩
  run := compRun
  keeps := fun {low args h v h'} _ hr => by
    simp only [compRun] at hr
    split at hr
    · rename_i r hq
      split at hr
      · cases hr
        exact blk_keeps hq _
      · cases hr
    · cases hr
  sound := fun {low args h v h'} hl hr φ w args' ha rh => by
    simp only [compRun] at hr
    split at hr
    · rename_i r hq
      split at hr
      · rename_i hle
        cases hr
        obtain ⟨l, c', rfl, hc', hb, hH, hre, hg⟩ := row_sound hq ha rh
        obtain ⟨_, _, hn0, hn1, _, _, _, hlen⟩ := rowArg_inv hq
        refine (Tryz.slices_Compact_string l.blk (l.off + r.o) c' r.ss w hH (by omega) hc').mono ?_
        rintro e w' ⟨rfl, q, rfl⟩
        refine ⟨φ, _, rfl, hre _ (by omega), ?_⟩
        have := hg (compacted r.ss) q #[] (by simp only [compacted, List.length_append, List.length_replicate]; omega)
        rw [grow_empty] at this
        exact this
      · cases hr
    · cases hr
  lower := fun {low low' args h r} hl hr => by
    simp only [compRun] at hr ⊢
    split at hr
    · rename_i x hq
      rw [rowArg_lower hl hq]
      exact hr
    · cases hr
noncomputable def textX : Known Tryz.prog where
  f := 37
  fn := ⟨_, Tryz.func37, rfl, by decide⟩
  run := textRun
  keeps := fun {low args h v h'} _ hr => by
    have : h' = h := by
      simp only [textRun] at hr
      split at hr
      · split at hr
        · split at hr
          · split at hr
            · cases hr
              rfl
            · cases hr
          · cases hr
        · cases hr
      · cases hr
    subst this
    exact ⟨Nat.le_refl _, fun _ _ => rfl⟩
  sound := fun {low args h v h'} hl hr φ w args' ha rh => by
    simp only [textRun] at hr
    split at hr
    · rename_i xs hargs
      split at hr
      · rename_i nm re le ri sv hxs
        split at hr
        · rename_i ls hls
          split at hr
          · rename_i hs
            cases hr
            simp only [Bool.and_eq_true, small, decide_eq_true_eq, List.all_eq_true] at hs
            obtain ⟨s1, s2, s3, s4, s5⟩ := hs
            rw [hargs] at ha
            have hal : args'.toList.length = 1 := by rw [← ha.1]; rfl
            obtain ⟨v', hv'⟩ : ∃ v', args'.toList = [v'] := List.length_eq_one_iff.1 hal
            rw [hv'] at ha
            have hv := ha.tail.1
            have hargs' : args' = #[v'] := by rw [← Array.toList_inj, hv']
            cases hv with
            | agg _ ys hsz hel =>
              have hR : RL φ xs.toList ys.toList := ⟨hsz, hel⟩
              rw [hxs] at hR
              have hyl : ys.toList.length = 5 := by rw [← hR.1]; rfl
              obtain ⟨y0, y1, y2, y3, y4, hys⟩ : ∃ y0 y1 y2 y3 y4, ys.toList = [y0, y1, y2, y3, y4] := by
                match hy : ys.toList, hyl with
                | [a, b, c, d, e], _ => exact ⟨a, b, c, d, e, rfl⟩
              rw [hys] at hR
              obtain ⟨r0, hR⟩ := hR.tail
              obtain ⟨r1, hR⟩ := hR.tail
              obtain ⟨r2, hR⟩ := hR.tail
              obtain ⟨r3, hR⟩ := hR.tail
              obtain ⟨r4, _⟩ := hR.tail
              cases r0
              cases r1
              cases r2
              cases r3
              obtain ⟨a, c, rfl, hn, hc⟩ := textsOf_sound hls r4 rh
              have hys' : ys = #[.string nm, .string re, .string le, .string ri, .slice a ls.length c] := by rw [← Array.toList_inj, hys]
              rw [hargs', hys']
              refine (S3.walk nm re le ri ls w a c hc hn s1 s2 s3 s4 s5).mono ?_
              rintro e w' ⟨rfl, hb⟩
              exact ⟨φ, _, rfl, .string _, Below.goes rh hb⟩
          · cases hr
        · cases hr
      · cases hr
    · cases hr
  lower := fun _ hr => hr
end Go.Proofs.YtachkofbmodnnaaGreat.X1
