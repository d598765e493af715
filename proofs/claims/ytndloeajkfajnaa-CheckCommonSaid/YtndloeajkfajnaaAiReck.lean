/-
  SUMS AND DIFFERENCES: what the program's functions on two numbers tell.
-/
import Derived.Test.YtndloeajkfajnaaAiPrim
import Derived.Test.YtndloeajkfajnaaAiEx8
set_option linter.unusedVariables false
set_option linter.unusedSimpArgs false
namespace Go.Ai
open Go.RowKit Go.Proofs

def addOk (a b : Int) : Bool := !((decide (IntKind.i64.wrap (a + b) > a) != decide (b > 0)) && b != 0)
def addV (a b : Int) : Int := bif addOk a b then IntKind.i64.wrap (a + b) else 0
def subOk (a b : Int) : Bool := !((decide (IntKind.i64.wrap (a - b) < a) != decide (b > 0)) && b != 0)
def subV (a b : Int) : Int := bif subOk a b then IntKind.i64.wrap (a - b) else 0

def pair64 (v : Int → Int → Int) (ok : Int → Int → Bool) : List AV → Option AV
  | [.sc (.int .i64 a), .sc (.int .i64 b)] => some (.tup [.sc (.int .i64 (v a b)), .sc (.bool (ok a b))])
  | _ => none

theorem pair64_spec {v : Int → Int → Int} {ok : Int → Int → Bool} {args : List AV} {u : AV} (h : pair64 v ok args = some u) :
    ∃ a b, args = [.sc (.int .i64 a), .sc (.int .i64 b)] ∧ u = .tup [.sc (.int .i64 (v a b)), .sc (.bool (ok a b))] := by
  unfold pair64 at h
  split at h
  · cases h; exact ⟨_, _, rfl, rfl⟩
  · cases h

theorem prim_pair {C : Ctx} (T : Told C) {f : FuncId} (hp : C.prims f = none) (hb : C.byRef f = false) {v : Int → Int → Int} {ok : Int → Int → Bool} {n : Nat}
    (h : ∀ a b : Int, ∃ S, callP C S n f [.sc (.int .i64 a), .sc (.int .i64 b)] [] fun r _ => r = .ret (.tup [.sc (.int .i64 (v a b)), .sc (.bool (ok a b))])) : PrimOK C.P f (pair64 v ok) := by
  refine prim_scalar T hp hb fun args u hu => ?_
  obtain ⟨a, b, rfl, rfl⟩ := pair64_spec hu
  obtain ⟨S, hs⟩ := h a b
  exact ⟨rfl, rfl, call_of_callP hs⟩

theorem tree25 (a b : Int) (K : CRes → List Blk → Prop) : callP C2 {} 100 25 [.sc (.int .i64 a), .sc (.int .i64 b)] [] K =
    (bothP (decide (IntKind.i64.wrap (a + b) > a))
 (bothP (decide (b > 0))
  (K (CRes.ret (AV.tup [AV.sc (Value.int IntKind.i64 (IntKind.i64.wrap (a + b))), AV.sc (Value.bool true)])) [])
  (bothP (b != 0)
   (K (CRes.ret (AV.tup [AV.sc (Value.int IntKind.i64 0), AV.sc (Value.bool false)])) [])
   (K (CRes.ret (AV.tup [AV.sc (Value.int IntKind.i64 (IntKind.i64.wrap (a + b))), AV.sc (Value.bool true)])) [])))
 (bothP (decide (b > 0))
  (bothP (b != 0)
   (K (CRes.ret (AV.tup [AV.sc (Value.int IntKind.i64 0), AV.sc (Value.bool false)])) [])
   (K (CRes.ret (AV.tup [AV.sc (Value.int IntKind.i64 (IntKind.i64.wrap (a + b))), AV.sc (Value.bool true)])) []))
  (K (CRes.ret (AV.tup [AV.sc (Value.int IntKind.i64 (IntKind.i64.wrap (a + b))), AV.sc (Value.bool true)])) []))) := by kernel_rfl

theorem tree27 (a b : Int) (K : CRes → List Blk → Prop) : callP C2 {} 100 27 [.sc (.int .i64 a), .sc (.int .i64 b)] [] K =
    (bothP (decide (IntKind.i64.wrap (a - b) < a))
 (bothP (decide (b > 0))
  (K (CRes.ret (AV.tup [AV.sc (Value.int IntKind.i64 (IntKind.i64.wrap (a - b))), AV.sc (Value.bool true)])) [])
  (bothP (b != 0)
   (K (CRes.ret (AV.tup [AV.sc (Value.int IntKind.i64 0), AV.sc (Value.bool false)])) [])
   (K (CRes.ret (AV.tup [AV.sc (Value.int IntKind.i64 (IntKind.i64.wrap (a - b))), AV.sc (Value.bool true)])) [])))
 (bothP (decide (b > 0))
  (bothP (b != 0)
   (K (CRes.ret (AV.tup [AV.sc (Value.int IntKind.i64 0), AV.sc (Value.bool false)])) [])
   (K (CRes.ret (AV.tup [AV.sc (Value.int IntKind.i64 (IntKind.i64.wrap (a - b))), AV.sc (Value.bool true)])) []))
  (K (CRes.ret (AV.tup [AV.sc (Value.int IntKind.i64 (IntKind.i64.wrap (a - b))), AV.sc (Value.bool true)])) []))) := by kernel_rfl

theorem prim25 : PrimOK Try.prog 25 (pair64 addV addOk) := prim_pair told2 rfl rfl (n := 100) fun a b => ⟨{}, by
  rw [tree25]
  unfold addV addOk
  cases decide (IntKind.i64.wrap (a + b) > a) <;> cases decide (b > 0) <;> cases (b != 0) <;> simp [bothP]⟩

theorem prim27 : PrimOK Try.prog 27 (pair64 subV subOk) := prim_pair told2 rfl rfl (n := 100) fun a b => ⟨{}, by
  rw [tree27]
  unfold subV subOk
  cases decide (IntKind.i64.wrap (a - b) < a) <;> cases decide (b > 0) <;> cases (b != 0) <;> simp [bothP]⟩

def one8 : List AV → Option AV
  | [] => some (.sc (.bool true))
  | _ => none

theorem prim14 : PrimOK Try.prog 14 one8 := prim_scalar told2 rfl rfl fun args v h => by
  unfold one8 at h
  split at h
  · cases h
    obtain ⟨H, h⟩ := isTrue_spec examples8
    exact ⟨rfl, rfl, 1000, H, h⟩
  · cases h

/-- With sums, differences and the examples told. -/
def told3 : FuncId → Option (List AV → Option AV) := fun f =>
  if f = 14 then some one8 else if f = 25 then some (pair64 addV addOk) else if f = 27 then some (pair64 subV subOk) else none

noncomputable def C3 : Ctx := { C2 with prims := told3 }

theorem told3_ok (f : FuncId) (F : List AV → Option AV) (h : told3 f = some F) : PrimOK Try.prog f F := by
  unfold told3 at h
  split at h
  · rename_i e; cases h; rw [e]; exact prim14
  split at h
  · rename_i e; cases h; rw [e]; exact prim25
  split at h
  · rename_i e; cases h; rw [e]; exact prim27
  cases h

theorem toldC3 : Told C3 := ⟨try_mix, try_name, told3_ok, told2.recs⟩

end Go.Ai
