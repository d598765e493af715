/-
  THE EXAMPLES OF CHAPTER 11 hold.
-/
import Derived.Test.YtndloeajkfajnaaAiEx11
import Derived.Test.YtndloeajkfajnaaAiMuls
set_option linter.unusedVariables false
set_option linter.unusedSimpArgs false
namespace Go.Ai
open Go.Proofs

theorem examples11 : isTrue (call C11 1000 38 [] []) = true := by kernel_rfl

theorem prim38 : PrimOK Try.prog 38 one8 := prim_scalar toldC11 rfl rfl fun args v h => by
  unfold one8 at h
  split at h
  · cases h
    obtain ⟨H, h⟩ := isTrue_spec examples11
    exact ⟨rfl, rfl, 1000, H, h⟩
  · cases h

def told12 : FuncId → Option (List AV → Option AV) := fun f => if f = 38 then some one8 else told11 f

theorem told12_ok (f : FuncId) (F : List AV → Option AV) (h : told12 f = some F) : PrimOK Try.prog f F := by
  unfold told12 at h
  split at h
  · rename_i e; cases h; rw [e]; exact prim38
  exact told11_ok f F h

noncomputable def C12 : Ctx := { C2 with prims := told12 }

theorem toldC12 : Told C12 := ⟨try_mix, try_name, told12_ok, told2.recs⟩

theorem C12_P : C12.P = Try.prog := rfl

end Go.Ai
