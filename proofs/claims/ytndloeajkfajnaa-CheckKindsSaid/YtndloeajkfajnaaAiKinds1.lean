/-
  CheckKinds: what kinds its expressions are of, over all kinds of the two fields.
-/
import Derived.Test.YtndloeajkfajnaaAiKinds0
set_option linter.unusedVariables false
set_option linter.unusedSimpArgs false
namespace Go.Ai
open Go.Proofs

def slotsE (x y : Int) : AV := .ro 2 [[txt [97], .ro 2 [[txt [102], num x], [txt [103], num y]] (some 2)], [txt [97], .ro 2 [[txt [104], num 1]] (some 1)]] (some 2)

def kindRes (k e : Int) : AV := .tup [num k, num e]

/-- The operations by their classes: 0: of truths; 1: comparisons; 2: the sum's sign; 3: other arithmetic. -/
def kindTwo (cl : Nat) (x y : Int) : AV := match eqInt x y, cl with
  | false, _ => kindRes 0 6
  | true, 0 => match eqInt x 2 with | true => kindRes 2 0 | false => kindRes 0 6
  | true, 1 => kindRes 2 0
  | true, 2 => match eqInt x 2 with | true => kindRes 0 6 | false => kindRes x 0
  | true, _ => match eqInt x 1 with | true => kindRes x 0 | false => kindRes 0 6

def opsCl : List (List Nat × Nat) := [([124, 124], 0), ([38, 38], 0), ([61, 61], 1), ([33, 61], 1), ([60], 1), ([60, 61], 1), ([62], 1), ([62, 61], 1), ([43], 2), ([45], 3), ([42], 3), ([47], 3), ([37], 3)]

def kindTab1 (x y : Int) : Tab :=
  [([.agg (refE [97] [104]), slotsE x y], kindRes 0 5), ([.agg (countE [97]), slotsE x y], kindRes 1 0),
   ([.agg (unE [45] (refE [97] [102])), slotsE x y], match eqInt x 1 with | true => kindRes 1 0 | false => kindRes 0 6),
   ([.agg (unE [33] (refE [97] [102])), slotsE x y], match eqInt x 2 with | true => kindRes 2 0 | false => kindRes 0 6)] ++
  opsCl.map fun o => ([.agg (twoE o.1 (refE [97] [102]) (refE [97] [103])), slotsE x y], kindTwo o.2 x y)

def kindTab : Tab := kindTab1 1 1 ++ kindTab1 1 2 ++ kindTab1 1 3 ++ kindTab1 2 1 ++ kindTab1 2 2 ++ kindTab1 2 3 ++ kindTab1 3 1 ++ kindTab1 3 2 ++ kindTab1 3 3

theorem kindTab_ok : tabOK (fun k => call C13 1000 40 k []) kindTab = true := by kernel_rfl

theorem prim40t : PrimOK Try.prog 40 (look kindTab) := prim_tab toldC13 rfl rfl kindTab_ok

def told14 : FuncId → Option (List AV → Option AV) := fun f => if f = 40 then some (look kindTab) else told13 f

theorem told14_ok (f : FuncId) (F : List AV → Option AV) (h : told14 f = some F) : PrimOK Try.prog f F := by
  unfold told14 at h
  split at h
  · rename_i e; cases h; rw [e]; exact prim40t
  exact told13_ok f F h

noncomputable def C14 : Ctx := { C2 with prims := told14 }

theorem toldC14 : Told C14 := ⟨try_mix, try_name, told14_ok, told2.recs⟩

theorem C14_P : C14.P = Try.prog := rfl

end Go.Ai
