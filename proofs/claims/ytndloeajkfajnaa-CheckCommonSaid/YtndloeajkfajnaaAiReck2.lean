/-
  QUOTIENTS, PRODUCTS, A NUMBER'S OTHER ONE.
-/
import Derived.Test.YtndloeajkfajnaaAiReck
set_option linter.unusedVariables false
set_option linter.unusedSimpArgs false
namespace Go.Ai
open Go.RowKit Go.Proofs

theorem tree31 (a b : Int) (K : CRes → List Blk → Prop) : callP C2 { op := fun d => if d = 18 then some (.res fun _ H => .val (.sc (.int .i64 (IntKind.i64.wrap (a.tdiv b)))) H) else none } 100 31 [.sc (.int .i64 a), .sc (.int .i64 b)] [] K =
  (bothP (b == 0)
 (K (CRes.ret (AV.tup [AV.sc (Value.int IntKind.i64 0), AV.sc (Value.bool false)])) [])
 (bothP (b == -1)
  (bothP (a == -9223372036854775808)
   (K (CRes.ret (AV.tup [AV.sc (Value.int IntKind.i64 0), AV.sc (Value.bool false)])) [])
   ((((pureRun Try.prog (Op.intDiv .quo .i64 a b)).map absV).map (fun v => ORes.val v []) = some (.val (.sc (.int .i64 (IntKind.i64.wrap (a.tdiv b)))) [])) ∧ K (CRes.ret (AV.tup [AV.sc (Value.int IntKind.i64 (IntKind.i64.wrap (a.tdiv b))), AV.sc (Value.bool true)])) []))
   ((((pureRun Try.prog (Op.intDiv .quo .i64 a b)).map absV).map (fun v => ORes.val v []) = some (.val (.sc (.int .i64 (IntKind.i64.wrap (a.tdiv b)))) [])) ∧ K (CRes.ret (AV.tup [AV.sc (Value.int IntKind.i64 (IntKind.i64.wrap (a.tdiv b))), AV.sc (Value.bool true)])) []))) := by kernel_rfl

theorem tree33 (a b : Int) (K : CRes → List Blk → Prop) : callP C2 { op := fun d => if d = 10 then some (.res fun _ H => .val (.sc (.int .i64 (a.tmod b))) H) else none } 100 33 [.sc (.int .i64 a), .sc (.int .i64 b)] [] K =
  (bothP (b == 0)
 (K (CRes.ret (AV.tup [AV.sc (Value.int IntKind.i64 0), AV.sc (Value.bool false)])) [])
   ((((pureRun Try.prog (Op.intDiv .rem .i64 a b)).map absV).map (fun v => ORes.val v []) = some (.val (.sc (.int .i64 (a.tmod b))) [])) ∧ K (CRes.ret (AV.tup [AV.sc (Value.int IntKind.i64 (a.tmod b)), AV.sc (Value.bool true)])) [])) := by kernel_rfl

theorem tree63 (a : Int) (K : CRes → List Blk → Prop) : callP C2 {} 100 63 [.sc (.int .i64 a)] [] K =
(bothP (decide (a < 0))
 (K (CRes.ret (AV.sc (Value.int IntKind.u64 (IntKind.u64.wrap (0 - IntKind.u64.wrap a))))) [])
 (K (CRes.ret (AV.sc (Value.int IntKind.u64 (IntKind.u64.wrap a)))) [])) := by kernel_rfl

theorem tree23 (a : Int) (K : CRes → List Blk → Prop) : callP C3 {} 100 23 [.sc (.int .i64 a)] [] K =
 (bothP (subOk 0 a)
 (K (CRes.ret (AV.tup [AV.sc (Value.int IntKind.i64 (subV 0 a)), AV.sc (Value.bool true)])) [])
 (K (CRes.ret (AV.tup [AV.sc (Value.int IntKind.i64 (subV 0 a)), AV.sc (Value.bool false)])) [])) := by kernel_rfl

def divOk (a b : Int) : Bool := !(b == 0) && !(b == -1 && a == -9223372036854775808)
def divV (a b : Int) : Int := bif divOk a b then IntKind.i64.wrap (a.tdiv b) else 0
def remOk (a b : Int) : Bool := !(b == 0)
def remV (a b : Int) : Int := bif remOk a b then a.tmod b else 0
def sizeV (a : Int) : Int := bif decide (a < 0) then IntKind.u64.wrap (0 - IntKind.u64.wrap a) else IntKind.u64.wrap a

theorem quo_run {a b : Int} (h : (b == 0) = false) : ((pureRun Try.prog (Op.intDiv .quo .i64 a b)).map absV).map (fun v => ORes.val v []) = some (.val (.sc (.int .i64 (IntKind.i64.wrap (a.tdiv b)))) []) := by
  have hb : ¬ b = 0 := by simpa using h
  unfold Op.intDiv
  rw [if_neg hb]
  rfl

theorem rem_run {a b : Int} (h : (b == 0) = false) : ((pureRun Try.prog (Op.intDiv .rem .i64 a b)).map absV).map (fun v => ORes.val v []) = some (.val (.sc (.int .i64 (a.tmod b))) []) := by
  have hb : ¬ b = 0 := by simpa using h
  unfold Op.intDiv
  rw [if_neg hb]
  rfl

theorem prim31 : PrimOK Try.prog 31 (pair64 divV divOk) := prim_pair told2 rfl rfl (n := 100) fun a b => ⟨_, by
  rw [tree31]
  unfold divV divOk
  cases h : (b == 0)
  · rw [quo_run h]
    cases (b == -1) <;> cases (a == -9223372036854775808) <;> simp [bothP]
  · simp [bothP]⟩

theorem prim33 : PrimOK Try.prog 33 (pair64 remV remOk) := prim_pair told2 rfl rfl (n := 100) fun a b => ⟨_, by
  rw [tree33]
  unfold remV remOk
  cases h : (b == 0)
  · rw [rem_run h]
    simp [bothP]
  · simp [bothP]⟩

def neg64 : List AV → Option AV
  | [.sc (.int .i64 a)] => some (.tup [.sc (.int .i64 (subV 0 a)), .sc (.bool (subOk 0 a))])
  | _ => none

theorem prim23 : PrimOK Try.prog 23 neg64 := prim_scalar toldC3 rfl rfl fun args u h => by
  unfold neg64 at h
  split at h
  · rename_i a
    cases h
    refine ⟨rfl, rfl, call_of_callP (S := {}) (n := 100) ?_⟩
    rw [tree23]
    cases subOk 0 a <;> simp [bothP]
  · cases h

def size64 : List AV → Option AV
  | [.sc (.int .i64 a)] => some (.sc (.int .u64 (sizeV a)))
  | _ => none

theorem prim63 : PrimOK Try.prog 63 size64 := prim_scalar told2 rfl rfl fun args u h => by
  unfold size64 at h
  split at h
  · rename_i a
    cases h
    refine ⟨rfl, rfl, call_of_callP (S := {}) (n := 100) ?_⟩
    rw [tree63]
    unfold sizeV
    cases decide (a < 0) <;> simp [bothP]
  · cases h

def told4 : FuncId → Option (List AV → Option AV) := fun f =>
  if f = 23 then some neg64 else if f = 31 then some (pair64 divV divOk) else if f = 33 then some (pair64 remV remOk) else if f = 63 then some size64 else told3 f

theorem told4_ok (f : FuncId) (F : List AV → Option AV) (h : told4 f = some F) : PrimOK Try.prog f F := by
  unfold told4 at h
  split at h
  · rename_i e; cases h; rw [e]; exact prim23
  split at h
  · rename_i e; cases h; rw [e]; exact prim31
  split at h
  · rename_i e; cases h; rw [e]; exact prim33
  split at h
  · rename_i e; cases h; rw [e]; exact prim63
  exact told3_ok f F h

noncomputable def C4 : Ctx := { C2 with prims := told4 }

theorem toldC4 : Told C4 := ⟨try_mix, try_name, told4_ok, told2.recs⟩

theorem C4_P : C4.P = Try.prog := rfl

end Go.Ai
