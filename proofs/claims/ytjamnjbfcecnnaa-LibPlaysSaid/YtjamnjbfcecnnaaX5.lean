/- Proved here: how a library function's contract becomes one call of the ideal machine. -/
import Derived.Test.YtjamnjbfcecnnaaIm4
import Derived.Test.YtjamnjbfcecnnaaS6
set_option linter.unusedSimpArgs false
set_option linter.unusedVariables false
namespace Go.Im
open Go.RowKit Go.Proofs Go.Sort
theorem Goes.same {low : Nat} {φ ψ : Places} {h h' : Heap} {w w1 w2 : World} (g : Goes low φ h w ψ h' w1) (hh : w2.heap = w1.heap) (ho : w2.os = w1.os) (ht : w2.tape = w1.tape) (hp : w2.output = w1.output) : Goes low φ h w ψ h' w2 where
  ext := g.ext
  old := g.old
  rh := ⟨fun b l hb => by rw [hh]; exact g.rh.low b l hb, fun b l hb => by rw [hh]; exact g.rh.blk b l hb, g.rh.inj⟩
  grows := g.grows
  fresh := g.fresh
  os := ho.trans g.os
  tape := ht.trans g.tape
  output := hp.trans g.output
  size := by rw [hh]; exact g.size
  kept := fun i hi hn => by rw [hh]; exact g.kept i hi hn

/-- A function that is known by a contract. -/
structure Known (P : Program) (T : Tied) where
  f : FuncId
  fn : ∃ fn, P.funcs[f]? = some fn ∧ fn.body.isNone = false ∧ (fn.name == "runtime.NumGoroutine") = false
  run : Nat → Array Value → Heap → Option (Value × Heap)
  keeps : ∀ {low args h v h'}, low ≤ h.size → run low args h = some (v, h') → h.size ≤ h'.size ∧ ∀ b, b < low → h'.get b = h.get b
  sound : ∀ {low args h v h'}, low ≤ h.size → run low args h = some (v, h') → ∀ (φ : Places) (w : World) (args' : Array Value), RL φ args.toList args'.toList → RH φ h w → T.holds φ →
    Calls P f args' w fun e w' => ∃ ψ v', e = .returned v' ∧ RV ψ v v' ∧ Goes low φ h w ψ h' w'
  lower : ∀ {low low' args h r}, low' ≤ low → run low args h = some r → run low' args h = some r

def tablex {P : Program} {T : Tied} (ys : List (Known P T)) (xs : List (Fact P)) (f : FuncId) : Option (Nat → Array Value → Heap → Option (Value × Heap)) := match ys with
  | [] => table xs f
  | y :: ys => if y.f = f then some y.run else tablex ys xs f
def cfgx (P : Program) {T : Tied} (fs : List Nat) (pm : List (Nat × Nat × List FuncId)) (dy : List (Nat × Nat × List (Nat × Nat))) (xs : List (Fact P)) (ys : List (Known P T)) : Cfg := ⟨P, fun f => fs.contains f, pmAt pm, dyAt dy, tablex ys xs, T⟩

theorem tablex_inv {P : Program} {T : Tied} {xs : List (Fact P)} {f : FuncId} {g : Nat → Array Value → Heap → Option (Value × Heap)} : ∀ {ys : List (Known P T)}, tablex ys xs f = some g → (∃ y ∈ ys, y.f = f ∧ g = y.run) ∨ table xs f = some g
  | [], h => .inr h
  | y :: ys, h => by
    simp only [tablex] at h
    by_cases hf : y.f = f
    · rw [if_pos hf] at h
      cases h
      exact .inl ⟨y, by simp, hf, rfl⟩
    · rw [if_neg hf] at h
      rcases tablex_inv h with ⟨z, hz, h1, h2⟩ | h
      · exact .inl ⟨z, by simp [hz], h1, h2⟩
      · exact .inr h

theorem cfgx_ok {P : Program} {T : Tied} {fs : List Nat} {pm : List (Nat × Nat × List FuncId)} {dy : List (Nat × Nat × List (Nat × Nat))} {xs : List (Fact P)} {ys : List (Known P T)} (h0 : P.follows .mixedOrders = true) (h : fs.all (fnLook P (pmAt pm) (dyAt dy)) = true) : CfgOK (cfgx P fs pm dy xs ys) := by
  have base := cfg_ok (xs := xs) h0 h
  have inv : ∀ {low f args h v}, (cfgx P fs pm dy xs ys).known low f args h = some v → (∃ y ∈ ys, y.f = f ∧ y.run low args h = some v) ∨ (cfg P fs pm dy xs).known low f args h = some v := by
    intro low f args h v hk
    simp only [Cfg.known, cfgx] at hk
    cases ht : tablex ys xs f with
    | none => rw [ht] at hk; cases hk
    | some g =>
      rw [ht] at hk
      rcases tablex_inv ht with ⟨y, hy, h1, h2⟩ | h2
      · subst h2
        exact .inl ⟨y, hy, h1, hk⟩
      · exact .inr (by simp only [Cfg.known, cfg, h2]; exact hk)
  constructor
  · exact h0
  · exact base.fn
  · constructor
    · intro low f args h v h' hk
      rcases inv hk with ⟨y, _, rfl, _⟩ | hk
      · exact y.fn
      · exact base.ext.fn hk
    · intro low f args h v h' hl hk
      rcases inv hk with ⟨y, _, _, hr⟩ | hk
      · exact y.keeps hl hr
      · exact base.ext.keeps hl hk
    · intro low f args h v h' hl hk φ w args' ha hr ht
      rcases inv hk with ⟨y, _, rfl, hy⟩ | hk
      · exact y.sound hl hy φ w args' ha hr ht
      · exact base.ext.sound hl hk φ w args' ha hr True.intro
  · intro low low' f args h r hl hk
    simp only [Cfg.known, cfgx] at hk ⊢
    cases ht : tablex ys xs f with
    | none => rw [ht] at hk; cases hk
    | some g =>
      rw [ht] at hk
      simp only at hk ⊢
      rcases tablex_inv ht with ⟨y, hy, h1, h2⟩ | h2
      · subst h2
        exact y.lower hl hk
      · have := base.lower low low' f args h r hl (by simp only [Cfg.known, cfg, h2]; exact hk)
        simp only [Cfg.known, cfg, h2] at this
        exact this

end Go.Im
