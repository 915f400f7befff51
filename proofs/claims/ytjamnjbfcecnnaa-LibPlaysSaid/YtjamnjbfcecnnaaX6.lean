/- Proved here: the names of a library over this program, as a call of the ideal machine; no condition beyond those that each rule names. -/
import Derived.Test.YtjamnjbfcecnnaaX5
set_option linter.unusedSimpArgs false
set_option linter.unusedVariables false
namespace Go.Im
open Go.RowKit Go.Proofs Go.Sort Go.Maps
/-- A block that a call has made comes to be known. -/
theorem Goes.adopt {low : Nat} {φ : Places} {h : Heap} {w w' : World} (r : RH φ h w) (b : Below w.heap.size w w') {l : Loc} (hl : w.heap.size ≤ l.blk) {x : Blk} {o : Obj} (ho : w'.heap[l.blk]? = some o)
    (hrb : RB (Places.add φ h.size l) l x o) : Goes low φ h w (Places.add φ h.size l) (h.push x) w' := by
  have hext := Places.add_ext r l
  have r' := (Below.goes (low := low) r b).rh
  have hself : (Places.add φ h.size l) h.size = some l := by simp [Places.add]
  have hof : ∀ c m, (Places.add φ h.size l) c = some m → (c = h.size ∧ m = l) ∨ (c < h.size ∧ φ c = some m ∧ m.blk < w.heap.size) := by
    intro c m hm
    by_cases hc : c = h.size
    · subst hc; rw [hself] at hm; cases hm; exact .inl ⟨rfl, rfl⟩
    · have hm' : φ c = some m := by simpa [Places.add, hc] using hm
      exact .inr ⟨(r.low c m hm').1, hm', (r.low c m hm').2⟩
  refine ⟨hext, fun c hc => by have : ¬ c = h.size := by omega
                               simp [Places.add, this], ⟨?_, ?_, ?_⟩, by simp, ?_, b.os, b.tape, b.output, b.size, fun i hi _ => b.block i hi⟩
  · intro c m hm
    rcases hof c m hm with ⟨rfl, rfl⟩ | ⟨g1, g2, g3⟩
    · exact ⟨by simp, (Array.getElem?_eq_some_iff.1 ho).1⟩
    · exact ⟨by simp; omega, Nat.lt_of_lt_of_le g3 b.size⟩
  · intro c m hm
    rcases hof c m hm with ⟨rfl, rfl⟩ | ⟨g1, g2, g3⟩
    · exact ⟨o, ho, by rw [Heap.get_push, if_pos rfl]; exact hrb⟩
    · obtain ⟨o', ho', hr'⟩ := r'.blk c m g2
      exact ⟨o', ho', by rw [Heap.get_push, if_neg (by omega)]; exact hr'.mono hext⟩
  · intro c d m m' hm hm' hc hd hf e
    rw [Heap.get_push] at hc hd
    rw [Heap.get_push, Heap.get_push] at hf
    rcases hof c m hm with ⟨rfl, rfl⟩ | ⟨g1, g2, g3⟩ <;> rcases hof d m' hm' with ⟨rfl, rfl⟩ | ⟨k1, k2, k3⟩
    · rfl
    · omega
    · omega
    · have a1 : ¬ c = h.size := by omega
      have a2 : ¬ d = h.size := by omega
      simp only [a1, a2, if_false] at hc hd hf
      exact r.inj c d m m' g2 k2 hc hd hf e
  · intro c m hc hm
    rcases hof c m hm with ⟨rfl, rfl⟩ | ⟨g1, g2, g3⟩
    · exact .inl hl
    · omega

def keysOf : List MapEntry → Option (List ByteArray)
  | [] => some []
  | e :: es => match e.key with
    | .string s => match keysOf es with
      | some l => some (s :: l)
      | none => none
    | _ => none
theorem keysOf_rel {φ : Places} : ∀ {es es' : List MapEntry} {ks : List ByteArray}, REs φ es es' → keysOf es = some ks → es'.map (·.key) = ks.map Value.string ∧ es'.map (·.born) = es.map (·.born)
  | [], [], ks, _, h => by cases h; exact ⟨rfl, rfl⟩
  | [], _ :: _, _, h, _ => by have := h.1; simp at this
  | _ :: _, [], _, h, _ => by have := h.1; simp at this
  | e :: es, e' :: es', ks, hr, h => by
    obtain ⟨⟨h1, h2, _⟩, h3⟩ := hr.tail
    simp only [keysOf] at h
    split at h
    · rename_i s hs
      split at h
      · rename_i l hl
        cases h
        obtain ⟨a, b⟩ := keysOf_rel h3 hl
        rw [hs] at h2
        generalize hk : e'.key = k' at h2
        cases h2
        exact ⟨by simp [hk, a], by simp [h1, b]⟩
      · cases h
    · cases h
/-- The texts, rising. -/
def sortB (ks : List ByteArray) : List ByteArray := ((ks.map (·.data.toList)).mergeSort (fun x y => decide (x ≤ y))).map text
def mapOK (es : List MapEntry) (ks : List ByteArray) (c : Nat) : Bool := decide (es.length ≤ 1000) && es.all (fun e => decide (e.born < c)) && decide ((es.map (·.born)).Nodup) && decide ks.Nodup && ks.all fun s => decide (s.size ≤ maxLen)
def namesOf (h : Heap) : Blk → Option (Value × Heap)
  | .map es c => match keysOf es with
    | some ks => if mapOK es ks c then (if ks.isEmpty then some (.slice none 0 0, h) else some (.slice (some ⟨h.size, 0, none⟩) ks.length big, h.push (.cells ((sortB ks).map Value.string) 1))) else none
    | none => none
  | _ => none
def namesRun (args : Array Value) (h : Heap) : Option (Value × Heap) := match args.toList with
  | [.pointer none] => some (.slice none 0 0, h)
  | [.pointer (some ⟨q, o, none⟩)] => match h.look q with
    | .cells cs _ => match cs[o]? with
      | some (.map none) => some (.slice none 0 0, h)
      | some (.map (some m)) => namesOf h (h.get m)
      | _ => none
    | _ => none
  | _ => none
theorem namesRun_keeps {args : Array Value} {h h' : Heap} {v : Value} (hr : namesRun args h = some (v, h')) : h' = h ∨ ∃ x, h' = h.push x := by
  unfold namesRun at hr
  repeat' (split at hr)
  all_goals (first | (cases hr; done) | skip)
  · cases hr; exact .inl rfl
  · cases hr; exact .inl rfl
  · unfold namesOf at hr
    repeat' (split at hr)
    all_goals (first | (cases hr; done) | skip)
    · cases hr; exact .inl rfl
    · cases hr; exact .inr ⟨_, rfl⟩
end Go.Im
namespace Go.Proofs.Ytjamnjbfcecnnaa.X6
open Go Go.Im Go.RowKit Go.Proofs Go.Sort Go.Maps Go.WideMaps Go.WideShapes
abbrev rany (v : Value) : Option (DataW Unit × List MemPlace) := some (.nil, [])
def kb : Value → List UInt8
  | .string s => s.data.toList
  | _ => []
theorem owns_of {w : World} {b : Nat} {es' : Array MapEntry} {c : Nat} {ks : List ByteArray} (hb : w.heap[b]? = some (.map es' c)) (hk : es'.toList.map (·.key) = ks.map Value.string) (hn : es'.size ≤ 1000)
    (h1 : ∀ e ∈ es'.toList, e.born < c) (h2 : (es'.toList.map (·.born)).Nodup) (h3 : ks.Nodup) (h4 : ∀ s ∈ ks, s.size ≤ maxLen) :
    ∃ D0 : DataW Unit, w.ownsMap Try.prog 9 rany b 1000 D0 ∧ Maps.size D0 = ks.length ∧ (strKeys D0).Perm (ks.map (·.data.toList)) := by
  have hu : Try.prog.underlying 9 = some .string := Try.underlying9
  have key : ∀ e ∈ es'.toList, ∃ s, s ∈ ks ∧ e.key = .string s := by
    intro e he
    have : e.key ∈ es'.toList.map (·.key) := List.mem_map.2 ⟨e, he, rfl⟩
    rw [hk] at this
    obtain ⟨s, hs, e1⟩ := List.mem_map.1 this
    exact ⟨s, hs, e1.symm⟩
  have hrd : ∀ e ∈ es'.toList, ∀ s, e.key = .string s → s ∈ ks → WideElems.rd Try.prog 9 rany e = some (.string s.data.toList, .nil) := by
    intro e he s hs hm
    simp only [WideElems.rd, hs, keyOf_string_mk hu (h4 s hm), Option.bind_some, rany, Option.map_some]
  have F : WideElems.Fit Try.prog 9 rany es' c := by
    refine ⟨by have : (1000 : Nat) ≤ maxLen := by decide
               omega, ⟨h1, h2, ?_⟩, ?_⟩
    · rw [hk]
      exact (List.pairwise_map.2 (h3.imp fun hne e => hne (by cases e; rfl)))
    · intro e he
      obtain ⟨s, hm, hs⟩ := key e he
      exact ⟨_, hrd e he s hs hm⟩
  refine ⟨_, ⟨es', c, hb, F, hn, rfl⟩, ?_, ?_⟩
  · have := congrArg List.length hk
    simp only [List.length_map] at this
    simp only [Maps.size, DataW.length_sorted, List.length_map, this]
  · have hp := sorted_perm (es'.toList.map (WideElems.rg Try.prog 9 rany))
    have hp2 := hp.map fun p => strOf p.1
    refine hp2.trans (List.Perm.of_eq ?_)
    have e2 : es'.toList.map ((fun p => strOf p.1) ∘ WideElems.rg Try.prog 9 rany) = es'.toList.map (kb ∘ (·.key)) := by
      refine List.map_congr_left fun e he => ?_
      obtain ⟨s, hm, hs⟩ := key e he
      simp only [Function.comp]
      rw [WideElems.rg_of (hrd e he s hs hm), hs]
      rfl
    have e4 : (ks.map Value.string).map kb = ks.map (·.data.toList) := by
      rw [List.map_map]
      exact List.map_congr_left fun s _ => rfl
    rw [List.map_map, e2, ← List.map_map, hk, e4]
def namesX : Known Try.prog Tied.free where
  f := 22
  fn := ⟨_, Try.func22, rfl, by decide⟩
  run := fun _ args h => namesRun args h
  keeps := fun {low args h v h'} hl hr => by
    rcases namesRun_keeps hr with rfl | ⟨x, rfl⟩
    · exact ⟨Nat.le_refl _, fun _ _ => rfl⟩
    · exact ⟨by simp, fun b hb => by rw [Heap.get_push, if_neg (by omega)]⟩
  sound := fun {low args h v h'} hl hr φ w args' ha rh ht => by
    have one : ∀ x, args.toList = [x] → ∃ x', args' = #[x'] ∧ RV φ x x' := by
      intro x hx
      rw [hx] at ha
      have hal : args'.toList.length = 1 := by rw [← ha.1]; rfl
      obtain ⟨v', hv'⟩ : ∃ v', args'.toList = [v'] := List.length_eq_one_iff.1 hal
      rw [hv'] at ha
      exact ⟨v', by rw [← Array.toList_inj, hv'], ha.tail.1⟩
    unfold namesRun at hr
    split at hr
    · rename_i hx
      obtain ⟨x', rfl, hv⟩ := one _ hx
      cases hr
      cases hv
      refine (Try.Names_nobody w).mono ?_
      rintro e w' ⟨rfl, rfl⟩
      exact ⟨φ, _, rfl, .nilSlice, Goes.refl rh⟩
    · rename_i q o hx
      obtain ⟨x', rfl, hv⟩ := one _ hx
      obtain ⟨l, hφ, rfl⟩ := ptr_inv hv
      split at hr
      · rename_i cs esz hg
        split at hr
        · rename_i hc
          cases hr
          obtain ⟨v', hv', hrv⟩ := load_one rh hφ hg hc
          cases hrv
          refine (Try.Names_nil _ _ w hv').mono ?_
          rintro e w' ⟨rfl, hb⟩
          exact ⟨φ, _, rfl, .nilSlice, Below.goes rh hb⟩
        · rename_i m hc
          obtain ⟨v', hv', hrv⟩ := load_one rh hφ hg hc
          unfold namesOf at hr
          split at hr
          case h_2 => cases hr
          rename_i es c hgm
          split at hr
          case h_2 => cases hr
          rename_i ks hks
          split at hr
          case isFalse => cases hr
          rename_i hok
          cases hrv with
          | map _ lm hm =>
          obtain ⟨es', hobj, hrel⟩ := map_at rh hm hgm
          simp only [mapOK, Bool.and_eq_true, decide_eq_true_eq, List.all_eq_true] at hok
          obtain ⟨⟨⟨⟨o1, o2⟩, o3⟩, o4⟩, o5⟩ := hok
          obtain ⟨k1, k2⟩ := keysOf_rel hrel hks
          have k3 : ks.length = es.length := by
            have := congrArg List.length k1
            simp at this
            have := hrel.1
            simp at this
            omega
          have hes : es'.size = es.length := by have := hrel.1; simp at this; omega
          obtain ⟨D0, D1, D2, D3⟩ := owns_of hobj k1 (by omega) (by
            intro e he
            have : e.born ∈ es'.toList.map (·.born) := List.mem_map.2 ⟨e, he, rfl⟩
            rw [k2] at this
            obtain ⟨e0, he0, h0⟩ := List.mem_map.1 this
            rw [← h0]
            exact o2 e0 he0) (by rw [k2]; exact o3) o4 o5
          have hmx : (1000 : Nat) ≤ maxLen := by decide
          refine (Try.Names _ _ _ _ D0 _ w hv' D1 (by omega) (by omega)).mono ?_
          rintro e w' ⟨u, ss, rfl, hp, hrow, hnil, hb⟩
          have hp2 := hp.trans D3
          have hsort : ss.mergeSort (fun x y => decide (x ≤ y)) = (ks.map (·.data.toList)).mergeSort (fun x y => decide (x ≤ y)) := mergeSort_of_perm hp2
          have hlen : ss.length = ks.length := by have := hp2.length_eq; simpa using this
          split at hr
          · rename_i he
            cases hr
            have hss : ss = [] := List.eq_nil_of_length_eq_zero (by rw [hlen]; simpa using he)
            rw [hnil.2 hss]
            exact ⟨φ, _, rfl, .nilSlice, Below.goes rh hb⟩
          · rename_i he
            cases hr
            rcases hrow.2 with ⟨rfl, hz⟩ | ⟨g, cap, cur, rfl, r1, r2, r3, r4, r5, r6⟩
            · exfalso
              rw [hlen] at hz
              simp [List.eq_nil_of_length_eq_zero hz] at he
            · have hxs : (ss.mergeSort (fun x y => decide (x ≤ y))).map encStr = (sortB ks).map Value.string := by
                rw [hsort, sortB, List.map_map]
                rfl
              rw [hxs] at r6
              have hl1 : ((sortB ks).map Value.string).length = ks.length := by simp [sortB]
              refine ⟨_, _, rfl, ?_, Goes.adopt rh hb (l := ⟨g, 0, ks.length, cap, 1⟩) r1 r2 ⟨hl1, ?_, ?_, rfl, by omega, .inl rfl, ?_⟩⟩
              · rw [hlen]
                have := RV.unknown (φ := Places.add φ h.size ⟨g, 0, ks.length, cap, 1⟩) h.size 0 ks.length cap ⟨g, 0, ks.length, cap, 1⟩ (by simp [Places.add]) (by omega) (by simp) (by simp; omega) (by simp)
                exact this
              · simp only; omega
              · simp only; omega
              · intro i v hi
                rw [← r6, List.getElem?_take] at hi
                split at hi
                · rename_i hil
                  have hmem : v ∈ (sortB ks).map Value.string := by
                    rw [← r6]
                    exact List.mem_of_getElem? (by rw [List.getElem?_take, if_pos hil]; exact hi)
                  obtain ⟨s, _, rfl⟩ := List.mem_map.1 hmem
                  exact ⟨rfl, _, by simpa using hi, .string _⟩
                · cases hi
        · cases hr
      · cases hr
    · cases hr
  lower := fun _ hr => hr
end Go.Proofs.Ytjamnjbfcecnnaa.X6
