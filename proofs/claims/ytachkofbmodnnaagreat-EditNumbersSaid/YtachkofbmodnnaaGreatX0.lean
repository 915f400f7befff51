/- Proved here: how a library function's contract becomes one call of the ideal machine; slices.Sort and slices.Compact at strings, and a header's text, over this program. -/
import Derived.Test.YtachkofbmodnnaaGreatIm4
import Derived.Test.YtachkofbmodnnaaGreatS3
set_option linter.unusedSimpArgs false
set_option linter.unusedVariables false
namespace Go.Im
open Go.RowKit Go.Proofs Go.Sort
theorem Goes.same {low : Nat} {φ ψ : Places} {h h' : Heap} {w w1 w2 : World} (g : Goes low φ h w ψ h' w1) (hh : w2.heap = w1.heap) (ho : w2.os = w1.os) (ht : w2.tape = w1.tape) (hp : w2.output = w1.output) : Goes low φ h w ψ h' w2 where
  ext := g.ext
  old := g.old
  rh := ⟨fun b l hb => by rw [hh]; exact g.rh.low b l hb, fun b l hb => by rw [hh]; exact g.rh.blk b l hb, g.rh.inj⟩
  grows := g.grows
  fresh := g.fresh
  os := ho.trans g.os
  tape := ht.trans g.tape
  output := hp.trans g.output
  size := by rw [hh]; exact g.size
  kept := fun i hi hn => by rw [hh]; exact g.kept i hi hn

/-- A function that is known by a contract. -/
structure Known (P : Program) where
  f : FuncId
  fn : ∃ fn, P.funcs[f]? = some fn ∧ fn.body.isNone = false ∧ (fn.name == "runtime.NumGoroutine") = false
  run : Nat → Array Value → Heap → Option (Value × Heap)
  keeps : ∀ {low args h v h'}, low ≤ h.size → run low args h = some (v, h') → h.size ≤ h'.size ∧ ∀ b, b < low → h'.get b = h.get b
  sound : ∀ {low args h v h'}, low ≤ h.size → run low args h = some (v, h') → ∀ (φ : Places) (w : World) (args' : Array Value), RL φ args.toList args'.toList → RH φ h w →
    Calls P f args' w fun e w' => ∃ ψ v', e = .returned v' ∧ RV ψ v v' ∧ Goes low φ h w ψ h' w'
  lower : ∀ {low low' args h r}, low' ≤ low → run low args h = some r → run low' args h = some r

def tablex {P : Program} (ys : List (Known P)) (xs : List (Fact P)) (f : FuncId) : Option (Nat → Array Value → Heap → Option (Value × Heap)) := match ys with
  | [] => table xs f
  | y :: ys => if y.f = f then some y.run else tablex ys xs f
def cfgx (P : Program) (fs : List Nat) (pm : List (Nat × Nat × List FuncId)) (dy : List (Nat × Nat × List (Nat × Nat))) (xs : List (Fact P)) (ys : List (Known P)) : Cfg := ⟨P, fun f => fs.contains f, pmAt pm, dyAt dy, tablex ys xs⟩

theorem tablex_inv {P : Program} {xs : List (Fact P)} {f : FuncId} {g : Nat → Array Value → Heap → Option (Value × Heap)} : ∀ {ys : List (Known P)}, tablex ys xs f = some g → (∃ y ∈ ys, y.f = f ∧ g = y.run) ∨ table xs f = some g
  | [], h => .inr h
  | y :: ys, h => by
    simp only [tablex] at h
    by_cases hf : y.f = f
    · rw [if_pos hf] at h
      cases h
      exact .inl ⟨y, by simp, hf, rfl⟩
    · rw [if_neg hf] at h
      rcases tablex_inv h with ⟨z, hz, h1, h2⟩ | h
      · exact .inl ⟨z, by simp [hz], h1, h2⟩
      · exact .inr h

theorem cfgx_ok {P : Program} {fs : List Nat} {pm : List (Nat × Nat × List FuncId)} {dy : List (Nat × Nat × List (Nat × Nat))} {xs : List (Fact P)} {ys : List (Known P)} (h0 : P.follows .mixedOrders = true) (h : fs.all (fnLook P (pmAt pm) (dyAt dy)) = true) : CfgOK (cfgx P fs pm dy xs ys) := by
  have base := cfg_ok (xs := xs) h0 h
  have inv : ∀ {low f args h v}, (cfgx P fs pm dy xs ys).known low f args h = some v → (∃ y ∈ ys, y.f = f ∧ y.run low args h = some v) ∨ (cfg P fs pm dy xs).known low f args h = some v := by
    intro low f args h v hk
    simp only [Cfg.known, cfgx] at hk
    cases ht : tablex ys xs f with
    | none => rw [ht] at hk; cases hk
    | some g =>
      rw [ht] at hk
      rcases tablex_inv ht with ⟨y, hy, h1, h2⟩ | h2
      · subst h2
        exact .inl ⟨y, hy, h1, hk⟩
      · exact .inr (by simp only [Cfg.known, cfg, h2]; exact hk)
  constructor
  · exact h0
  · exact base.fn
  · constructor
    · intro low f args h v h' hk
      rcases inv hk with ⟨y, _, rfl, _⟩ | hk
      · exact y.fn
      · exact base.ext.fn hk
    · intro low f args h v h' hl hk
      rcases inv hk with ⟨y, _, _, hr⟩ | hk
      · exact y.keeps hl hr
      · exact base.ext.keeps hl hk
    · intro low f args h v h' hl hk φ w args' ha hr
      rcases inv hk with ⟨y, _, rfl, hy⟩ | hk
      · exact y.sound hl hy φ w args' ha hr
      · exact base.ext.sound hl hk φ w args' ha hr
  · intro low low' f args h r hl hk
    simp only [Cfg.known, cfgx] at hk ⊢
    cases ht : tablex ys xs f with
    | none => rw [ht] at hk; cases hk
    | some g =>
      rw [ht] at hk
      simp only at hk ⊢
      rcases tablex_inv ht with ⟨y, hy, h1, h2⟩ | h2
      · subst h2
        exact y.lower hl hk
      · have := base.lower low low' f args h r hl (by simp only [Cfg.known, cfg, h2]; exact hk)
        simp only [Cfg.known, cfg, h2] at this
        exact this

/-! ### A row of texts -/
def strsOf : List Value → Option (List (List UInt8))
  | [] => some []
  | .string s :: l => (strsOf l).map (s.data.toList :: ·)
  | _ => none
theorem strsOf_eq : ∀ {l : List Value} {ss : List (List UInt8)}, strsOf l = some ss → l = ss.map encStr
  | [], ss, h => by cases h; rfl
  | v :: l, ss, h => by
    cases v <;> simp only [strsOf, reduceCtorEq] at h
    rename_i s
    obtain ⟨t, ht, rfl⟩ := Option.map_eq_some_iff.1 h
    rw [strsOf_eq ht]
    rfl
theorem strsOf_map : ∀ ss : List (List UInt8), strsOf (ss.map encStr) = some ss
  | [] => rfl
  | s :: ss => by simp only [List.map_cons, encStr, strsOf, strsOf_map ss, Option.map_some]
structure RowA where
  b : Nat
  o : Nat
  n : Nat
  c : Nat
  cs : List Value
  ss : List (List UInt8)
def rowArg (low : Nat) (args : Array Value) (h : Heap) : Option RowA := match args.toList with
  | [.slice (some ⟨b, o, none⟩) n c] => if low ≤ b ∧ 0 < n ∧ n ≤ 1000000 then match h.get b with
    | .cells cs 1 => match strsOf ((cs.drop o).take n) with
      | some ss => if o + n ≤ cs.length then some ⟨b, o, n, c, cs, ss⟩ else none
      | none => none
    | _ => none else none
  | _ => none
def RowA.blk (r : RowA) (ds : List (List UInt8)) : Blk := .cells (r.cs.take r.o ++ (ds.map encStr ++ r.cs.drop (r.o + r.n))) 1
theorem rowArg_inv {low : Nat} {args : Array Value} {h : Heap} {r : RowA} (hr : rowArg low args h = some r) :
    args.toList = [.slice (some ⟨r.b, r.o, none⟩) r.n r.c] ∧ low ≤ r.b ∧ 0 < r.n ∧ r.n ≤ 1000000 ∧ h.get r.b = .cells r.cs 1 ∧ (r.cs.drop r.o).take r.n = r.ss.map encStr ∧ r.o + r.n ≤ r.cs.length ∧ r.ss.length = r.n := by
  unfold rowArg at hr
  split at hr
  · rename_i b o n c ha
    split at hr
    · rename_i hc
      split at hr
      · rename_i cs hg
        split at hr
        · rename_i ss hs
          split at hr
          · rename_i hl
            cases hr
            have he := strsOf_eq hs
            refine ⟨ha, hc.1, hc.2.1, hc.2.2, hg, he, hl, ?_⟩
            have := congrArg List.length he
            simp at this
            simp only
            omega
          · cases hr
        · cases hr
      · cases hr
    · cases hr
  · cases hr
theorem rowArg_lower {low low' : Nat} {args : Array Value} {h : Heap} {r : RowA} (hl : low' ≤ low) (hr : rowArg low args h = some r) : rowArg low' args h = some r := by
  unfold rowArg at hr ⊢
  split at hr
  · rename_i b o n c ha
    split at hr
    · rename_i hc
      have : low' ≤ b ∧ 0 < n ∧ n ≤ 1000000 := ⟨by omega, hc.2⟩
      simp only [if_pos this]
      exact hr
    · cases hr
  · cases hr

theorem row_sound {low : Nat} {args args' : Array Value} {h : Heap} {r : RowA} (hr : rowArg low args h = some r) {φ : Places} {w : World} (ha : RL φ args.toList args'.toList) (rh : RH φ h w) :
    ∃ (l : Loc) (c' : Nat), args' = #[.slice (some ⟨l.blk, l.off + r.o, none⟩) r.ss.length c'] ∧ r.ss.length ≤ c' ∧ l.blk < w.heap.size ∧ Holds encStr w l.blk (l.off + r.o) r.ss.toArray ∧
      (∀ m, m ≤ r.n → RV φ (.slice (some ⟨r.b, r.o, none⟩) m r.c) (.slice (some ⟨l.blk, l.off + r.o, none⟩) m c')) ∧
      ∀ (ds : List (List UInt8)) (q : Nat) (os : Array Obj), ds.length = r.n → Goes low φ h w φ (h.set r.b (r.blk ds)) (grow (putRow encStr (Sort.ahead w q) l.blk (l.off + r.o) ds.toArray) os) := by
  obtain ⟨hargs, hlow, hn0, hn1, hg, hcells, hfit, hlen⟩ := rowArg_inv hr
  obtain ⟨b, o, n, c, cs, ss⟩ := r
  simp only at *
  rw [hargs] at ha
  have hal : args'.toList.length = 1 := by rw [← ha.1]; rfl
  obtain ⟨v', hv'⟩ : ∃ v', args'.toList = [v'] := List.length_eq_one_iff.1 hal
  rw [hv'] at ha
  have hv := ha.tail.1
  have hargs' : args' = #[v'] := by rw [← Array.toList_inj, hv']
  obtain ⟨l, c', hφ, hcc, hve, hre⟩ : ∃ (l : Loc) (c' : Nat), φ b = some l ∧ n ≤ c' ∧ v' = .slice (some ⟨l.blk, l.off + o, none⟩) n c' ∧ ∀ m, m ≤ n → RV φ (.slice (some ⟨b, o, none⟩) m c) (.slice (some ⟨l.blk, l.off + o, none⟩) m c') := by
    cases hv with
    | known _ _ _ _ l hl hcb hn ho => exact ⟨l, c, hl, hn, rfl, fun m hm => .known b o m c l hl hcb (by omega) ho⟩
    | unknown _ _ _ c' l hl hn ho he hc => exact ⟨l, c', hl, hn, rfl, fun m hm => .unknown b o m c' l hl (by omega) (Nat.le_trans (Nat.add_le_add_left (Nat.mul_le_mul_right _ hm) _) ho) he hc⟩
    | spent => omega
    | void => omega
  obtain ⟨cc, e, fr, ho, h1, h2, h3, h4, h5, h6, h7⟩ := cell_at rh hφ hg
  have hblk := (rh.low b l hφ).2
  have at_ : ∀ j, j < n → ∃ s, ss[j]? = some s ∧ cc[l.off + (o + j)]? = some (encStr s) := by
    intro j hj
    have e1 : (((cs.drop o).take n)[j]?) = (ss.map encStr)[j]? := by rw [hcells]
    rw [List.getElem?_take, if_pos hj, List.getElem?_drop, List.getElem?_map] at e1
    obtain ⟨s, hs⟩ : ∃ s, ss[j]? = some s := ⟨_, List.getElem?_eq_getElem (by omega)⟩
    rw [hs] at e1
    obtain ⟨_, u, hu, hru⟩ := h7 _ _ e1
    cases hru
    exact ⟨s, hs, hu⟩
  refine ⟨l, c', by rw [hargs', hve, hlen], by omega, hblk, ?_, hre, ?_⟩
  · intro j hj
    have hj' : j < n := by simpa [hlen] using hj
    obtain ⟨s, hs, hc⟩ := at_ j hj'
    constructor
    · simp only [World.cell?, ho, Option.isSome_none, Bool.false_eq_true, if_false, Nat.add_assoc, hc]
      simp [hs]
    · simp only [World.frozen?, ho]
      have := (Array.getElem?_eq_some_iff.1 hc).1
      rcases h6 with rfl | h6
      · simp
      · obtain ⟨f1, f2⟩ := fr
        simp only at h6 ⊢
        have : ¬ f1 ≤ l.off + o + j := by omega
        simp [this]
  · intro ds q os hds
    have hput : RB φ l (.cells (cs.take o ++ (ds.map encStr ++ cs.drop (o + n))) 1) (.cells (putCells encStr (l.off + o) ds.toArray cc) e fr) := by
      refine ⟨by simp; omega, by simpa [putCells] using h2, h3, h4, by omega, ?_, ?_⟩
      · rcases h6 with h6 | h6
        · exact .inl h6
        · exact .inr (by simpa [putCells] using h6)
      · intro i v hi
        by_cases hio : i < o
        · rw [List.getElem?_append_left (by simp; omega), List.getElem?_take, if_pos hio] at hi
          obtain ⟨k1, u, k2, k3⟩ := h7 i v hi
          refine ⟨k1, u, ?_, k3⟩
          simp only [putCells, Array.getElem?_mapIdx, k2, Option.map_some]
          rw [if_neg (by omega)]
        · rw [List.getElem?_append_right (by simp; omega)] at hi
          have hto : (cs.take o).length = o := by simp; omega
          rw [hto] at hi
          by_cases hin : i < o + n
          · rw [List.getElem?_append_left (by simp; omega), List.getElem?_map] at hi
            obtain ⟨s, hs, rfl⟩ := Option.map_eq_some_iff.1 hi
            refine ⟨rfl, _, ?_, .string _⟩
            have hlt : l.off + i < cc.size := by omega
            simp only [putCells, Array.getElem?_mapIdx, Array.getElem?_eq_getElem hlt, Option.map_some]
            rw [if_pos (by simp; omega)]
            have : l.off + i - (l.off + o) = i - o := by omega
            rw [this]
            simp [hs]
          · rw [List.getElem?_append_right (by simp; omega), List.length_map, List.getElem?_drop] at hi
            have hix : o + n + (i - o - ds.length) = i := by omega
            rw [hix] at hi
            obtain ⟨k1, u, k2, k3⟩ := h7 i v hi
            refine ⟨k1, u, ?_, k3⟩
            simp only [putCells, Array.getElem?_mapIdx, k2, Option.map_some]
            rw [if_neg (by simp; omega)]
    have g1 := Goes.update rh hφ hlow (by rw [hg]; simp) (by rw [hg]; rfl) hput
    have heap : (putRow encStr (Sort.ahead w q) l.blk (l.off + o) ds.toArray).heap = (World.putObj w l.blk (.cells (putCells encStr (l.off + o) ds.toArray cc) e fr)).heap := by
      apply Array.ext_getElem?
      intro k
      rw [putObj_get _ _ _ _ hblk]
      simp only [putRow, mapBlock, Sort.ahead, Array.getElem?_modify]
      by_cases hk : k = l.blk
      · subst hk
        simp [ho, onCells]
      · have : ¬ l.blk = k := fun e => hk e.symm
        simp [hk, this]
    have g2 : Goes low φ h w φ _ (putRow encStr (Sort.ahead w q) l.blk (l.off + o) ds.toArray) := g1.same heap rfl rfl rfl
    refine g2.trans (Below.goes g2.rh ⟨rfl, rfl, rfl, by simp [grow], fun i hi => ?_⟩)
    simp only [grow]
    exact Array.getElem?_append_left hi
end Go.Im
