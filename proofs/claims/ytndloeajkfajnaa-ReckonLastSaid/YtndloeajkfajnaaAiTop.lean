/-
  A LAW: what the evaluator tells of it is what its row asks.
-/
import Derived.Test.YtndloeajkfajnaaAiRec
import Derived.RowKit3
set_option linter.unusedVariables false
namespace Go.Ai
open Go.RowKit

/-- Nothing is kept from us. -/
def noX : Nat → Nat → Prop := fun _ _ => False

theorem grown_of_step {w w' : World} {E1 : Env} {H1 : List Blk} (h : Step noX noE [] w E1 H1 w') : Grown w w' := by
  obtain ⟨h1, h2, h3⟩ := h.still
  refine ⟨⟨h1.1, h2, fun i hi => ?_⟩, h3, h.size⟩
  have := h.obj i hi fun b l hb => by cases hb
  rw [this]
  cases ho : w.heap[i]? with
  | none => rfl
  | some o => cases o <;> simp

theorem law_calls {C : Ctx} (T : Told C) {n : Nat} {f : FuncId} {args : List AV} {H1 : List Blk} (h : call C n f args [] = some (.ret (.sc (.bool true)), H1)) {w : World} {vs : List Value}
    (hv : VL (Im noX noE [] w) w args noE vs) : Calls C.P f vs.toArray w fun e w' => e = .returned (.bool true) ∧ Grown w w' := by
  obtain ⟨_, hc⟩ := call_sound T n f args [] _ _ h
  refine (hc noX noE w vs (HRel_empty fun _ _ h => h.elim) hv).mono ?_
  rintro e w' ⟨x, rfl, E1, h1, h2, h3⟩
  simp only [V] at h3
  subst h3
  exact ⟨rfl, grown_of_step h2⟩

end Go.Ai
