/-
  CheckKinds: the expressions that it asks of are right.
-/
import Derived.Test.YtndloeajkfajnaaAiTab
import Derived.Test.YtndloeajkfajnaaAiEx11b
set_option linter.unusedVariables false
set_option linter.unusedSimpArgs false
namespace Go.Ai
open Go.Proofs

def txt (l : List Nat) : AV := .sc (.string ⟨⟨l.map UInt8.ofNat⟩⟩)
def num (n : Int) : AV := .sc (.int .i64 n)

def refE (v f : List Nat) : List AV := [num 1, txt [], num 0, num 0, txt [], txt v, txt f, .sc (.slice none 0 0)]
def countE (v : List Nat) : List AV := [num 2, txt [], num 0, num 0, txt [], txt v, txt [], .sc (.slice none 0 0)]
def unE (op : List Nat) (x : List AV) : List AV := [num 3, txt op, num 0, num 0, txt [], txt [], txt [], .ro 8 [x] (some 1)]
def twoE (op : List Nat) (x y : List AV) : List AV := [num 4, txt op, num 0, num 0, txt [], txt [], txt [], .ro 8 [x, y] (some 2)]

def opsN : List (List Nat) := [[124, 124], [38, 38], [61, 61], [33, 61], [60], [60, 61], [62], [62, 61], [43], [45], [42], [47], [37]]

def rightTab : Tab :=
  [([.agg (refE [97] [104])], .sc (.bool true)), ([.agg (countE [97])], .sc (.bool true)), ([.agg (unE [45] (refE [97] [102]))], .sc (.bool true)), ([.agg (unE [33] (refE [97] [102]))], .sc (.bool true))] ++
  opsN.map fun o => ([.agg (twoE o (refE [97] [102]) (refE [97] [103]))], .sc (.bool true))

theorem rightTab_ok : tabOK (fun k => call C12 1000 57 k []) rightTab = true := by kernel_rfl

theorem prim57t : PrimOK Try.prog 57 (look rightTab) := prim_tab toldC12 rfl rfl rightTab_ok

def told13 : FuncId → Option (List AV → Option AV) := fun f => if f = 57 then some (look rightTab) else told12 f

theorem told13_ok (f : FuncId) (F : List AV → Option AV) (h : told13 f = some F) : PrimOK Try.prog f F := by
  unfold told13 at h
  split at h
  · rename_i e; cases h; rw [e]; exact prim57t
  exact told12_ok f F h

noncomputable def C13 : Ctx := { C2 with prims := told13 }

theorem toldC13 : Told C13 := ⟨try_mix, try_name, told13_ok, told2.recs⟩

theorem C13_P : C13.P = Try.prog := rfl

end Go.Ai
