/-
  THE FIRST SEAT's PROGRAM (chapters 8 and 11).
-/
import Derived.Test.YtndloeajkfajnaaAiMd
import Derived.Test.YtndloeajkfajnaaRows
import Derived.WalkKit
import Derived.ProofKit
set_option linter.unusedVariables false
namespace Go.Ai
open Go.Proofs

theorem try_mix : Try.prog.follows .mixedOrders = true := by kernel_rfl

theorem try_names : (Try.prog.funcs.toList.all fun fn => !(fn.name == "runtime.NumGoroutine")) = true := by kernel_rfl

theorem try_name (f : FuncId) (fn : Func) (h : Try.prog.funcs[f]? = some fn) : fn.name ≠ "runtime.NumGoroutine" := by
  have h1 := List.all_eq_true.1 try_names fn (by simpa using Array.mem_of_getElem? h)
  simpa using h1

/-- Without anything told beforehand. -/
noncomputable def C1 : Ctx where
  P := Try.prog
  ext := fun f => f == 140 || f == 145

theorem told1 : Told C1 := ⟨try_mix, try_name, fun f F h => (by cases h), fun g F h => (by cases h)⟩

/-- Deferred functions that recover, too. -/
noncomputable def C2 : Ctx where
  P := Try.prog
  ext := fun f => f == 140 || f == 145
  byRef := fun f => f == 68
  keep := fun f => f == 69 || f == 15 || f == 46
  snap := fun f => f == 134
  recs := fun f => if f = 55 then some (recF Try.prog (exec C1 1000) 55) else none

theorem told2 : Told C2 := ⟨try_mix, try_name, fun f F h => (by cases h), fun g F h => by
  simp only [C2] at h
  split at h
  · rename_i e
    rw [← Option.some.inj h, e]
    exact recF_sound rfl (exec_sound told1 1000) 55
  · cases h⟩

end Go.Ai
