import Derived.Test.YtndloeajkfajnaaAiDrawDef
set_option linter.unusedVariables false
namespace Go.Ai

def loopW (ex : St → Option (Ex × St)) (nx : St → (St → Option (Ex × St)) → Option (Ex × St)) : Nat → St → Option (Ex × St)
  | 0, _ => none
  | k + 1, st => match ex st with
    | some (.normal, st') => nx st' (loopW ex nx k)
    | r => r

def regionW (C : Ctx) (call : CallT) (draw : Bool) (ops : Array Oper) (st : St) : Option (Ex × St) :=
  if draw then drawW C call ops st else runList C call ops (List.range ops.size) st

def execW (C : Ctx) (call : CallT) (ex : Code → St → Option (Ex × St)) (n : Nat) : Code → St → Option (Ex × St)
  | .skip, st => some (.normal, st)
  | .label _, st => some (.normal, st)
  | .region _ ops draw, st => regionW C call draw ops st
  | .seq a b, st => match ex a st with
    | some (.normal, st') => ex b st'
    | r => r
  | .cond c a b, st => match ev st.tmps c with
    | some (.sc (.bool true)) => ex a st
    | some (.sc (.bool false)) => ex b st
    | _ => none
  | .block id b, st => match ex b st with
    | some (.exit j, st') => if j = id then some (.normal, st') else some (.exit j, st')
    | r => r
  | .loop b, st => loopW (ex b) (nrmK (carried st.tmps (writes b) []) st) n st
  | .scope b, st => ex b st
  | .exit id, st => some (.exit id, st)
  | .ret, st => some (.ret, st)
  | _, _ => none

/-- The results of a call that comes to its end. -/
def resultA (P : Program) (tmps : Tm) (H : List Blk) : ResultVar → Option AV
  | .tmp t => some (getT tmps t)
  | .cell a t => loadA P H t (getT tmps a)

def resultsA (P : Program) (tmps : Tm) (H : List Blk) : List ResultVar → Option (List AV)
  | [] => some []
  | r :: rs => match resultA P tmps H r, resultsA P tmps H rs with
    | some v, some vs => some (v :: vs)
    | _, _ => none

def oneOr (vs : List AV) : AV := match vs with
  | [] => unit
  | [v] => v
  | vs => .tup vs

def leaveA (C : Ctx) (fn : Func) (e : Option AV) (st : St) : Option (CRes × List Blk) :=
  match st.defers with
  | [] => match e with
    | none => (resultsA C.P st.tmps st.heap fn.results.toList).map fun vs => (.ret (oneOr vs), st.heap)
    | some v => some (.pan v, st.heap)
  | [(g, cs)] => match C.recs g with
    | some F => match F cs e st.heap with
      | some (back, H) => match e, back with
        | some v, false => some (.pan v, H)
        | _, _ => (resultsA C.P st.tmps H fn.results.toList).map fun vs => (.ret (oneOr vs), H)
      | none => none
    | none => none
  | _ => none

def initT : Nat → List AV → Tm
  | _, [] => []
  | i, v :: vs => (i, v) :: initT (i + 1) vs

def callW (C : Ctx) (ex : Code → St → Option (Ex × St)) : CallT := fun f args H =>
  match C.P.funcs[f]? with
  | none => none
  | some fn => match fn.body with
    | none => none
    | some body =>
      match ex body { n := args.length + (fn.ntmps - args.length), tmps := initT 0 args, heap := H, defers := [] } with
      | some (.normal, st) => leaveA C fn none st
      | some (.ret, st) => leaveA C fn none st
      | some (.pan v, st) => leaveA C fn (some v) st
      | _ => none

def exec (C : Ctx) : Nat → Code → St → Option (Ex × St)
  | 0 => fun _ _ => none
  | n + 1 => execW C (callW C (exec C n)) (exec C n) n

def call (C : Ctx) (n : Nat) : CallT := callW C (exec C n)

end Go.Ai
