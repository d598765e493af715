/-
  THE EXAMPLES OF CHAPTER 8: a closed run.
-/
import Derived.Test.YtndloeajkfajnaaAiSeat
set_option linter.unusedVariables false
namespace Go.Ai

def isTrue : Option (CRes × List Blk) → Bool
  | some (.ret (.sc (.bool true)), _) => true
  | _ => false

theorem isTrue_spec {r : Option (CRes × List Blk)} (h : isTrue r = true) : ∃ H, r = some (.ret (.sc (.bool true)), H) := by
  unfold isTrue at h
  split at h
  · exact ⟨_, rfl⟩
  · cases h

set_option maxRecDepth 100000 in
theorem examples8 : isTrue (call C2 1000 14 [] []) = true := by kernel_rfl

end Go.Ai
