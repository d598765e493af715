/-
  ReckonTexts: the law's run, where something is left of the text.
-/
import Derived.Test.YtndloeajkfajnaaAiTexts6
set_option linter.unusedVariables false
set_option linter.unusedSimpArgs false
namespace Go.Ai
open Go.Proofs Go.RowKit

def inlT : FuncId → Bool := fun f => (toldT f).isNone && !(f == 140 || f == 145)
def hopT (q : Nat) (lx ly : List UInt8) (big : Bool) : Nat → Option Hint := fun d => if d = 42 then some (.int q) else if d = 43 then some (.res fun _ H => .val (.sl H.length 0 0 q (some q)) (H ++ [.cells 1 0 (List.replicate q (byteRow 0)) false])) else if d = 55 then some (.res fun _ H => .val (.sc (.string ⟨⟨lx⟩⟩)) H) else if d = 59 then some (.res fun _ H => .val (.sc (.string ⟨⟨ly⟩⟩)) H) else if d = 94 then some (.eqv true) else if d = 92 then some (.res fun _ H => .val (.sc (.string ⟨⟨lx ++ ly⟩⟩)) H) else if d = 89 then some (.res fun _ H => .val (.sc (.string ⟨⟨lx⟩⟩)) H) else if d = 91 then some (.res fun _ H => .val (.sc (.string ⟨⟨ly⟩⟩)) H) else if d = 71 then some (.bit big) else none
def hsubT (lx ly : List UInt8) (big : Bool) : FuncId → Nat → Option Hint := fun f d => if f = 103 then (if d = 26 then some (.eqv true) else if d = 31 then some (.bit true) else none) else if f = 144 then (if d = 5 then some (.bit false) else none) else if f = 85 then (if d = 39 then some (.res fun _ H => .val (.sc (.string ⟨⟨lx ++ ly⟩⟩)) H) else if d = 32 then some (.bit !big) else none) else if f = 78 then (if d = 28 then some (.bit false) else none) else none

/-- A text of bytes. -/
def convT (v : AV) (l : List UInt8) (H : List Blk) : Prop := (convertA Try.prog H 27 9 v).map (fun v => ORes.val v H) = some (.val (.sc (.string ⟨⟨l⟩⟩)) H)
def makeT (q : Nat) (H : List Blk) : Prop := ((makeSliceA Try.prog H none 27 (.sc (.int .i64 q)) (.sc (.int .i64 q))).map fun p => ORes.val p.1 p.2) = some (.val (.sl H.length 0 0 q (some q)) (H ++ [.cells 1 0 (List.replicate q (byteRow 0)) false]))
def joinT (x y : Operand) (lx ly : List UInt8) (H : List Blk) : Prop := (binA Try.prog .add 9 x y (.sc (.string ⟨⟨lx⟩⟩)) (.sc (.string ⟨⟨ly⟩⟩))).map (fun v => ORes.val v H) = some (.val (.sc (.string ⟨⟨lx ++ ly⟩⟩)) H)
def textV (l : List UInt8) : List AV := [.sc (.int .i64 3), .sc (.int .i64 0), .sc (.string ⟨⟨l⟩⟩)]
def eqT (x y : Nat) (l : List UInt8) : Prop := binA Try.prog .eql 23 (.tmp x) (.tmp y) (.agg (textV l)) (.agg (textV l)) = some (.sc (.bool true))
def sizeT (l : List UInt8) : Prop := decide (((⟨⟨l⟩⟩ : ByteArray).size : Int) ≤ 64) = true
def heapT (lx ly : List UInt8) : List Blk := [.cells 3 0 [textV lx] false, .cells 3 0 [textV ly] false, .cells 3 0 [[.sc (.int .i64 0), .sc (.int .i64 0), .sc (.string ⟨⟨[]⟩⟩)]] false]

/-- The comparison of two texts turns nothing. -/
def ordT (lx ly : List UInt8) (p : Prop) : Prop :=
  (!eqBytes lx lx) = false ∧ (!eqBytes ly ly) = false ∧ bothP (Op.bytesLess (⟨⟨lx⟩⟩ : ByteArray).toList (⟨⟨ly⟩⟩ : ByteArray).toList) p (bothP (!(Op.bytesLess (⟨⟨lx⟩⟩ : ByteArray).toList (⟨⟨ly⟩⟩ : ByteArray).toList || (⟨⟨lx⟩⟩ : ByteArray).toList == (⟨⟨ly⟩⟩ : ByteArray).toList)) p p)

def tailT (sx sy : AV) (H : List Blk) (k q : Int) (lx ly : List UInt8) (p : Prop) : Prop :=
  decide (IntKind.i64.wrap (((⟨⟨lx⟩⟩ : ByteArray).size : Int) + ((⟨⟨ly⟩⟩ : ByteArray).size : Int)) ≤ 64) = !false ∧ joinT (.tmp 36) (.tmp 38) lx ly (heapT lx ly) ∧ decide (IntKind.i64.wrap (k + q) > 64) = false ∧
  convT sx lx (H ++ [.cells 3 0 [textV (lx ++ ly)] false]) ∧ convT sy ly (H ++ [.cells 3 0 [textV (lx ++ ly)] false]) ∧ joinT (.tmp 89) (.tmp 91) lx ly (H ++ [.cells 3 0 [textV (lx ++ ly)] false]) ∧ eqT 87 93 (lx ++ ly) ∧ p

def midT (sx sy : AV) (H : List Blk) (lx ly : List UInt8) (p : Prop) : Prop :=
  convT sx lx H ∧ convT sy ly H ∧ eqT 22 25 lx ∧ sizeT lx ∧ hasByte lx 39 = false ∧ eqT 22 25 ly ∧ sizeT ly ∧ hasByte ly 39 = false ∧ eqT 22 25 lx ∧ sizeT lx ∧ eqT 22 25 ly ∧ sizeT ly ∧ ordT lx ly p

def hA (xs : List UInt8) (rows : List (List AV)) : List Blk := [.cells 1 0 (rowsU xs) false, .cells 1 0 rows false]

def runA (l xs : List UInt8) (long : Int) (k q : Nat) (lx ly : List UInt8) (fin : List (List AV) → Prop) : Prop :=
  LoopOK CT 131 bx (TA l xs long k) ∧ entryX l long = entryX l long ∧ ∀ (i : Int) (a b c d : AV),
    IntKind.i64.wrap (long.tmod 65) = q ∧ makeT q [.cells 1 0 (rowsU xs) false] ∧ LoopOK CT 129 byy (TC xs q) ∧
    96 = 96 ∧ 10 = 10 ∧ (0 : Int) = 0 ∧ 9 = 9 ∧ q = q ∧ q = q ∧ Blk.cells 1 0 (rowsU xs) false = .cells 1 0 (rowsU xs) false ∧ List.replicate q (byteRow 0) = List.replicate q (byteRow 0) ∧ q ≤ 64 ∧ [10] = [10] ∧
    (q = 0 → midT (.sl 0 0 0 k none) (slY true q) (hA xs []) lx ly (fin [])) ∧ ∀ i : Int, midT (.sl 0 0 0 k none) (slY true q) (hA xs (List.replicate q (byteRow 121))) lx ly (fin (List.replicate q (byteRow 121)))

theorem treeA (l xs : List UInt8) (long : Int) (k q : Nat) (lx ly : List UInt8) (K : CRes → Prop) :
    callP CT { op := hopT q lx ly false, loop := fun k' => if k' = 18 then some (TA l xs long k) else some (TC xs q), inl := inlT, sub := hsubT lx ly false } 140 10 [.sc (.string ⟨⟨l⟩⟩), .sc (.int .u8 long)] [] (fun r _ => K r) =
    runA l xs long k q lx ly (fun rows => tailT (.sl 0 0 0 k none) (slY true q) (hA xs rows) k q lx ly (K (.ret (.sc (.bool true))))) := by kernel_rfl

/-- More than there may be. -/
def tailF (k q : Int) (lx ly : List UInt8) (p : Prop) : Prop :=
  decide (IntKind.i64.wrap (((⟨⟨lx⟩⟩ : ByteArray).size : Int) + ((⟨⟨ly⟩⟩ : ByteArray).size : Int)) ≤ 64) = !true ∧ decide (IntKind.i64.wrap (k + q) > 64) = true ∧ p

theorem treeF (l xs : List UInt8) (long : Int) (k q : Nat) (lx ly : List UInt8) (K : CRes → Prop) :
    callP CT { op := hopT q lx ly true, loop := fun k' => if k' = 18 then some (TA l xs long k) else some (TC xs q), inl := inlT, sub := hsubT lx ly true } 140 10 [.sc (.string ⟨⟨l⟩⟩), .sc (.int .u8 long)] [] (fun r _ => K r) =
    runA l xs long k q lx ly (fun rows => tailF k q lx ly (K (.ret (.sc (.bool true))))) := by kernel_rfl

def hB (rows : List (List AV)) : List Blk := [.cells 1 0 rows false]

def runB (l : List UInt8) (long : Int) (q : Nat) (lx ly : List UInt8) (fin : List (List AV) → Prop) : Prop :=
  IntKind.i64.wrap (long.tmod 65) = q ∧ makeT q [] ∧ LoopOK CT 129 byy (TD q) ∧
    96 = 96 ∧ 10 = 10 ∧ (0 : Int) = 0 ∧ 9 = 9 ∧ q = q ∧ q = q ∧ List.replicate q (byteRow 0) = List.replicate q (byteRow 0) ∧ q ≤ 64 ∧ [10] = [10] ∧
    (q = 0 → midT (.sc (.slice none 0 0)) (slY false q) (hB []) lx ly (fin [])) ∧ ∀ i : Int, midT (.sc (.slice none 0 0)) (slY false q) (hB (List.replicate q (byteRow 121))) lx ly (fin (List.replicate q (byteRow 121)))

theorem treeB (l : List UInt8) (long : Int) (q : Nat) (lx ly : List UInt8) (K : CRes → Prop) :
    callP CT { op := hopT q lx ly false, loop := fun k' => if k' = 18 then some (TB l long) else some (TD q), inl := inlT, sub := hsubT lx ly false } 140 10 [.sc (.string ⟨⟨l⟩⟩), .sc (.int .u8 long)] [] (fun r _ => K r) =
    (LoopOK CT 131 bx (TB l long) ∧ entryX l long = entryX l long ∧ (∀ (a b c d : AV), runB l long q lx ly (fun rows => tailT (.sc (.slice none 0 0)) (slY false q) (hB rows) ((0 : Nat) : Int) q lx ly (K (.ret (.sc (.bool true))))))
      ∧ ∀ (i : Int) (a b c d : AV), runB l long q lx ly (fun rows => tailT (.sc (.slice none 0 0)) (slY false q) (hB rows) ((0 : Nat) : Int) q lx ly (K (.ret (.sc (.bool true)))))) := by kernel_rfl

end Go.Ai
