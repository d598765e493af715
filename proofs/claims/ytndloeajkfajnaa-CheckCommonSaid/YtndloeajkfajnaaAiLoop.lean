/-
  A LOOP OF UNKNOWN LENGTH: rounds that each come nearer to the end.
-/
import Derived.Test.YtndloeajkfajnaaAiPrim
import Derived.Test.YtndloeajkfajnaaAiMono
set_option linter.unusedVariables false
set_option linter.unusedSimpArgs false
namespace Go.Ai

/-- The k-th loop of a code, counted as it is read. -/
def loops : Code → List Code
  | .seq a b => loops a ++ loops b
  | .cond _ a b => loops a ++ loops b
  | .block _ b => loops b
  | .loop b => [b] ++ loops b
  | .scope b => loops b
  | _ => []
def loopOf (f : Func) (k : Nat) : Code := match f.body with
  | some c => (loops c).getD k .skip
  | none => .skip

/-- Where a loop's round begins. -/
def headOf (b : Code) (entry : St) (st : St) : St := nrm (carried entry.tmps (writes b) []) entry st

theorem loop_rounds {C : Ctx} {n : Nat} {b : Code} {entry : St} {I : Nat → St → Prop} {Q : Ex → St → Prop}
    (step : ∀ m st, I m st → ∃ r, exec C n b st = some r ∧ match r.1 with | .normal => ∃ m', m' < m ∧ I m' (headOf b entry r.2) | e => Q e r.2) :
    ∀ (m k : Nat) (st : St), m < k → I m st → ∃ r, loopW (exec C n b) (nrmK (carried entry.tmps (writes b) []) entry) k st = some r ∧ Q r.1 r.2
  | m, 0, st, hk, _ => by omega
  | m, k + 1, st, hk, hi => by
    obtain ⟨⟨e, st'⟩, hr, h⟩ := step m st hi
    simp only [loopW, hr]
    cases e with
    | normal =>
      obtain ⟨m', hm, hi'⟩ := h
      simp only [nrmK_eq]
      exact loop_rounds step m' k _ (by omega) hi'
    | exit j => exact ⟨_, rfl, h⟩
    | ret => exact ⟨_, rfl, h⟩
    | pan v => exact ⟨_, rfl, h⟩

/-- A loop, by what stands at each round's begin. -/
theorem loopOK_of {C : Ctx} {n : Nat} {b : Code} {T : St → (Ex → St → Prop) → Prop}
    (h : ∀ st K, T st K → ∃ (I : Nat → St → Prop) (m : Nat), m < n ∧ I m st ∧
      ∀ m st', I m st' → ∃ r, exec C n b st' = some r ∧ match r.1 with | .normal => ∃ m', m' < m ∧ I m' (headOf b st r.2) | e => K e r.2) : LoopOK C n b T := by
  intro st K hT
  obtain ⟨I, m, hm, hi, step⟩ := h st K hT
  obtain ⟨r, hr, hq⟩ := loop_rounds (entry := st) (Q := K) step m n st hm hi
  exact ⟨r, by simp only [exec, execW]; exact hr, hq⟩

end Go.Ai
