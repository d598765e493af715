/-
  A REGION WHOSE ORDER IS DRAWN: it is run in the text's order, and each thing that may come sooner or later is looked at: what only reads must find the same.
-/
import Derived.Test.YtndloeajkfajnaaAiExec
import Derived.Orders
set_option linter.unusedVariables false
namespace Go.Ai

/-- What must stand before an operation, as bits. -/
def befOf (acc : List Nat) (o : Oper) : Nat :=
  o.after.toList.foldl (fun s e => if Region.binds .any e then s ||| (2 ^ e.on ||| acc.getD e.on 0) else s) 0

def befs : List Oper → List Nat → List Nat
  | [], acc => acc
  | o :: os, acc => befs os (acc ++ [befOf acc o])

def edgesOK : List Oper → Nat → Bool
  | [], _ => true
  | o :: os, i => (o.after.toList.all fun e => !Region.binds .any e || Nat.blt e.on i) && edgesOK os (i + 1)

def apartAll (ops : Array Oper) (B : Nat) (y : Oper) : List Oper → Nat → Bool
  | [], _ => true
  | x :: xs, i => (Nat.testBit B i || x.apart ops y) && apartAll ops B y xs (i + 1)

def pairsOK (ops : Array Oper) (B : List Nat) : List Oper → Nat → List Oper → Bool
  | [], _, _ => true
  | y :: ys, j, before => apartAll ops (B.getD j 0) y before 0 && pairsOK ops B ys (j + 1) (before ++ [y])

def drawOK (ops : Array Oper) (B : List Nat) : Bool := edgesOK ops.toList 0 && pairsOK ops B ops.toList 0 []

inductive Kind where
  | pure | looks | lit | alloc (t : TypeId) | spine

def kindOf : Op → Kind
  | .move _ | .assign _ | .pick .. | .build .. | .nilCheck _ | .binOp .. | .unOp .. | .makeInterface .. | .fieldAddr .. | .field .. | .index .. | .extract .. => .pure
  | .call { callee := .builtin .max, .. } | .call { callee := .builtin .min, .. } => .pure
  | .load .. | .indexAddr .. | .convert .. | .lookup .. => .looks
  | .call { callee := .builtin .len, .. } => .looks
  | .buildSlice .. => .lit
  | .alloc t => .alloc t
  | _ => .spine

/-- A literal that is written no more. -/
def litOK (C : Ctx) : Op → Bool
  | .buildSlice t _ _ => !C.own t
  | _ => true

def blkOf : AV → List Nat
  | .ptr b _ _ _ | .sl b _ _ _ _ | .mp b => [b]
  | _ => []

/-- The blocks that an operation may change where they stand; none: all. -/
abbrev Dirt := Option (List Nat)

def hits (D : Dirt) (b : Nat) : Bool := match D with
  | none => true
  | some l => l.contains b

def freeOf (D : Dirt) (T : List Nat) : Bool := T.all fun b => !hits D b

def dirtOf (C : Ctx) (tmps : Tm) (H : List Blk) (o : Oper) : Option Dirt :=
  match o.op with
  | .store _ a _ => (ev tmps a).map fun v => some (blkOf v)
  | .call { callee := .builtin .append, args, .. } => match evL tmps args.toList with
    | some (s :: _) => some (some (blkOf s))
    | _ => none
  | .call { callee := .value f, args, .. } => match ev tmps f, evL tmps args.toList with
    | some (.fn f cs), some us => if C.ext f || (!C.settle f && ((C.prims f).isSome || (!C.byRef f && (frzL H (us ++ cs)).isSome))) then some (some []) else some none
    | _, _ => some none
  | .makeSlice .. | .slice .. | .buildSlice .. => some (some [])
  | _ => none

/-- What is seen of the operations of the drawn region: their places, and the blocks. -/
abbrev Seen := List (Nat × List Nat)
abbrev Moved := List (Nat × Dirt)

/-- How an operation of a drawn region goes: never reached (behind a panic); it may come at any time, having looked at blocks T; it turns blocks D, in its order; it panics. -/
inductive DRes where
  | dead
  | val (v : AV) (T : List Nat)
  | mov (v : AV) (H : List Blk) (D : Dirt)
  | pan (v : AV) (H : List Blk)

def looksOK (Bi : Nat) (sp : Moved) (T : List Nat) (n : Nat) : Bool := T.all (Nat.blt · n) && sp.all (fun e => Nat.testBit Bi e.1 || freeOf e.2 T)
def movesOK (Bi : Nat) (sp : Moved) (fl : Seen) (D : Dirt) : Bool := sp.all (fun e => Nat.testBit Bi e.1) && fl.all (fun e => Nat.testBit Bi e.1 || freeOf D e.2)

def drawMove (C : Ctx) (call : CallT) (Bi : Nat) (sp : Moved) (fl : Seen) (tmps : Tm) (H : List Blk) (o : Oper) : Option DRes :=
  match dirtOf C tmps H o with
  | none => none
  | some D => if movesOK Bi sp fl D then (match evalOp C call none tmps H o with
      | some (.val v H') => some (.mov v H' D)
      | some (.skip H') => some (.mov unit H' D)
      | some (.pan v H') => some (.pan v H')
      | _ => none) else none

def drawOp (C : Ctx) (call : CallT) (ops : Array Oper) (Bi : Nat) (pan : Option Nat) (k : Nat) (sp : Moved) (fl : Seen) (tmps : Tm) (H : List Blk) (o : Oper) : Option DRes :=
  match (match pan with | some j => Nat.testBit Bi j | none => false) with
  | true => some .dead
  | false => match wantedA ops tmps o with
    | none => none
    | some false => some (.val unit [])
    | some true => match kindOf o.op with
      | .alloc _ => if sp.all (fun e => !hits e.2 k) then some (.val (.ptr k 0 0 0) [k]) else none
      | .pure => match evalOp C call none tmps H o with
        | some (.val v _) => some (.val v [])
        | _ => none
      | .looks => match evL tmps o.op.operands.toList with
        | some us => if looksOK Bi sp (refsL 0 us) H.length then (match evalOp C call none tmps H o with
          | some (.val v _) => some (.val v (refsL 0 us))
          | _ => none) else none
        | none => none
      | .lit => match evL tmps o.op.operands.toList with
        | some us => if isDataL us && litOK C o.op then (match evalOp C call none tmps H o with
            | some (.val v _) => some (.val v [])
            | _ => none)
          else match pan with
            | none => drawMove C call Bi sp fl tmps H o
            | some _ => none
        | none => none
      | .spine => match pan with
        | none => drawMove C call Bi sp fl tmps H o
        | some _ => none

def nextK (o : Oper) (k : Nat) : Nat := match kindOf o.op with | .alloc _ => k + 1 | _ => k

structure DSt where
  tmps : Tm
  heap : List Blk
  pan : Option (Nat × AV × List Blk)

def drawList (C : Ctx) (call : CallT) (ops : Array Oper) (B : List Nat) (n : Nat) : List Nat → Nat → Moved → Seen → Option (Nat × AV × List Blk) → Tm → List Blk → Option DSt
  | [], _, _, _, pan, tmps, H => some ⟨tmps, H, pan⟩
  | i :: rest, k, sp, fl, pan, tmps, H => match ops[i]? with
    | none => none
    | some o => match drawOp C call ops (B.getD i 0) (pan.map (·.1)) k sp fl tmps H o with
      | none => none
      | some .dead => drawList C call ops B n rest (nextK o k) sp fl pan tmps H
      | some (.val v T) => seqV v fun v => match putA n tmps o.dst v with
        | some t => drawList C call ops B n rest (nextK o k) sp ((i, T) :: fl) pan t H
        | none => none
      | some (.mov v H' D) => seqV v fun v => match putA n tmps o.dst v with
        | some t => seqL H' fun H' => drawList C call ops B n rest (nextK o k) ((i, D) :: sp) fl pan t H'
        | none => none
      | some (.pan v H') => drawList C call ops B n rest (nextK o k) sp fl (some (i, v, H')) tmps H

def undefs : List Oper → Tm → Tm
  | [], e => e
  | o :: os, e => match o.dst with
    | some d => (d, .undef) :: undefs os e
    | none => undefs os e

/-- The variables that the region makes: they stand from its beginning. -/
def layAllocs (P : Program) : List Oper → Option (List Blk)
  | [] => some []
  | o :: os => match kindOf o.op with
    | .alloc t => match (zeroT P t).bind (fun z => cellsA (absV z)), szT P t, layAllocs P os with
      | some cs, some n, some bs => if cs.length = n then some (.cells n 0 [cs] false :: bs) else none
      | _, _, _ => none
    | _ => layAllocs P os

def drawW (C : Ctx) (call : CallT) (ops : Array Oper) (st : St) : Option (Ex × St) :=
  let B := befs ops.toList []
  if drawOK ops B then
    match layAllocs C.P ops.toList with
    | some bs => match drawList C call ops B st.n (List.range ops.size) st.heap.length [] [] none st.tmps (st.heap ++ bs) with
      | some ⟨t, H, none⟩ => some (.normal, ⟨st.n, t, H, st.defers⟩)
      | some ⟨_, _, some (_, v, H)⟩ => some (.pan v, ⟨st.n, undefs ops.toList st.tmps, H, st.defers⟩)
      | none => none
    | none => none
  else none

end Go.Ai
