/-
  CheckCommon: the fields of one stream by two bytes: its rounds.
-/
import Derived.Test.YtndloeajkfajnaaAiCm3
set_option linter.unusedVariables false
set_option linter.unusedSimpArgs false
namespace Go.Ai.Cm
open Go.Proofs Go.RowKit

noncomputable def bA : Code := loopOf Try.f12 1

def hA (l : AV) (i : Int) (m1 m2 : Int) (bit : Bool) (d : Nat) : Option Hint := if d = 34 then some (.av l) else if d = 35 then some (.av (.sc (.int .i64 i))) else if d = 36 then some (.idxIs [.sc (.int .u8 m1)]) else if d = 41 then some (.bit bit) else if d = 48 then some (.av l) else if d = 49 then some (.av (.sc (.int .i64 i))) else if d = 51 then some (.idxIs [.sc (.int .u8 m2)]) else none

def sCell (nm : List UInt8) (X : AV) : Blk := .cells 2 0 [[strN nm, X]] false
def preH (p : Bool) (B s : Blk) : List Blk := match p with
  | true => [B, s]
  | false => [s]
def placeP (p : Bool) : Nat := match p with
  | true => 1
  | false => 0
/-- What stands there with so many fields. -/
def heapA (p : Bool) (B : Blk) (nm : List UInt8) (g : Nat) (fs : List Fld) : List Blk := match fs with
  | [] => preH p B (sCell nm (.sc (.slice none 0 0)))
  | f :: fs => preH p B (sCell nm (.sl (placeP p + 1) g 0 (f :: fs).length none)) ++ [.cells 2 g (rowsC (f :: fs)) false]
def tmpA (p : Bool) (k : Nat) (R : Tm) : Tm := match k with
  | 0 => (7, intN 0) :: (6, .ptr (placeP p) 0 0 0) :: R
  | k + 1 => (7, intN ((k + 1 : Nat) : Int)) :: (7, intN 0) :: (6, .ptr (placeP p) 0 0 0) :: R
def stA (p : Bool) (B : Blk) (nm : List UInt8) (k g : Nat) (fs : List Fld) (R : Tm) : St := ⟨148, tmpA p k R, heapA p B nm g fs, []⟩

/-- What a round leaves: the counter, the heap. -/
def KQ (Q : AV → List Blk → Prop) (X : Ex → St → Prop) (e : Ex) (st : St) : Prop := match e with
  | .normal => st.n = 148 ∧ st.defers = [] ∧ Q (getT st.tmps 7) st.heap
  | e => X e st

def nameK (k : Nat) : List UInt8 := [UInt8.ofNat (97 + k)]
def kindK (m : Int) (k : Nat) : Int := IntKind.i64.wrap (1 + IntKind.i64.wrap ((m.fdiv (2 ^ k)).tmod 2))
def idxE (rows : List (List AV)) (i : Int) (row : List AV) : Prop := (if i < 0 then none else (rows[i.toNat]?).map fun row => AV.rp row 0) = some (.rp row 0)
def bitK (m : Int) (k : Nat) : Bool := ((m.fdiv (2 ^ k)).tmod 2) == 1

def skipR (es : List (List AV)) (cap : Option Nat) (i m1 : Int) (k : Nat) (R : Tm) (p : Prop) : Prop :=
  getT R 0 = .ro 1 es cap ∧ getT R 5 = .sc (.int .i64 i) ∧ idxE es i [.sc (.int .u8 m1)] ∧ bitK m1 k = false ∧ p
def growR (es : List (List AV)) (cap : Option Nat) (i m1 m2 : Int) (k : Nat) (R : Tm) (p : Prop) : Prop :=
  getT R 0 = .ro 1 es cap ∧ getT R 5 = .sc (.int .i64 i) ∧ idxE es i [.sc (.int .u8 m1)] ∧ bitK m1 k = true ∧
    getT R 0 = .ro 1 es cap ∧ getT R 5 = .sc (.int .i64 i) ∧ idxE es (IntKind.i64.wrap (i + 1)) [.sc (.int .u8 m2)] ∧ p

theorem sk_t00 (n : Nat) (es : List (List AV)) (cap : Option Nat) (i m1 m2 : Int) (R : Tm) (B : Blk) (nm : List UInt8) (Q : AV → List Blk → Prop) (X : Ex → St → Prop) : execP CV (noCon CV) (n+40) { op := hA (.ro 1 es cap) i m1 m2 false, inl := inlV } bA (stA true B nm 0 0 [] R) (KQ Q X) =
  skipR es cap i m1 0 R (148 = 148 ∧ ([] : List (FuncId × List AV)) = [] ∧ Q (intN (IntKind.i64.wrap (0 + 1))) (heapA true B nm 0 [])) := by kernel_rfl
theorem gr_t00 (n : Nat) (es : List (List AV)) (cap : Option Nat) (i m1 m2 : Int) (R : Tm) (B : Blk) (nm : List UInt8) (Q : AV → List Blk → Prop) (X : Ex → St → Prop) : execP CV (noCon CV) (n+40) { op := hA (.ro 1 es cap) i m1 m2 true, inl := inlV } bA (stA true B nm 0 0 [] R) (KQ Q X) =
  growR es cap i m1 m2 0 R (148 = 148 ∧ ([] : List (FuncId × List AV)) = [] ∧ Q (intN (IntKind.i64.wrap (0 + 1))) (heapA true B nm 0 [(nameK 0, kindK m2 0)])) := by kernel_rfl
theorem sk_t10 (n : Nat) (es : List (List AV)) (cap : Option Nat) (i m1 m2 : Int) (R : Tm) (B : Blk) (nm : List UInt8) (Q : AV → List Blk → Prop) (X : Ex → St → Prop) : execP CV (noCon CV) (n+40) { op := hA (.ro 1 es cap) i m1 m2 false, inl := inlV } bA (stA true B nm 1 0 [] R) (KQ Q X) =
  skipR es cap i m1 1 R (148 = 148 ∧ ([] : List (FuncId × List AV)) = [] ∧ Q (intN (IntKind.i64.wrap (1 + 1))) (heapA true B nm 0 [])) := by kernel_rfl
theorem gr_t10 (n : Nat) (es : List (List AV)) (cap : Option Nat) (i m1 m2 : Int) (R : Tm) (B : Blk) (nm : List UInt8) (Q : AV → List Blk → Prop) (X : Ex → St → Prop) : execP CV (noCon CV) (n+40) { op := hA (.ro 1 es cap) i m1 m2 true, inl := inlV } bA (stA true B nm 1 0 [] R) (KQ Q X) =
  growR es cap i m1 m2 1 R (148 = 148 ∧ ([] : List (FuncId × List AV)) = [] ∧ Q (intN (IntKind.i64.wrap (1 + 1))) (heapA true B nm 0 [(nameK 1, kindK m2 1)])) := by kernel_rfl
theorem sk_t11 (n : Nat) (es : List (List AV)) (cap : Option Nat) (i m1 m2 : Int) (R : Tm) (B : Blk) (nm : List UInt8) (a : Fld) (Q : AV → List Blk → Prop) (X : Ex → St → Prop) : execP CV (noCon CV) (n+40) { op := hA (.ro 1 es cap) i m1 m2 false, inl := inlV } bA (stA true B nm 1 0 [a] R) (KQ Q X) =
  skipR es cap i m1 1 R (148 = 148 ∧ ([] : List (FuncId × List AV)) = [] ∧ Q (intN (IntKind.i64.wrap (1 + 1))) (heapA true B nm 0 [a])) := by kernel_rfl
theorem gr_t11 (n : Nat) (es : List (List AV)) (cap : Option Nat) (i m1 m2 : Int) (R : Tm) (B : Blk) (nm : List UInt8) (a : Fld) (Q : AV → List Blk → Prop) (X : Ex → St → Prop) : execP CV (noCon CV) (n+40) { op := hA (.ro 1 es cap) i m1 m2 true, inl := inlV } bA (stA true B nm 1 0 [a] R) (KQ Q X) =
  growR es cap i m1 m2 1 R (148 = 148 ∧ ([] : List (FuncId × List AV)) = [] ∧ Q (intN (IntKind.i64.wrap (1 + 1))) (heapA true B nm 1 [a, (nameK 1, kindK m2 1)])) := by kernel_rfl
theorem sk_t20 (n : Nat) (es : List (List AV)) (cap : Option Nat) (i m1 m2 : Int) (R : Tm) (B : Blk) (nm : List UInt8) (Q : AV → List Blk → Prop) (X : Ex → St → Prop) : execP CV (noCon CV) (n+40) { op := hA (.ro 1 es cap) i m1 m2 false, inl := inlV } bA (stA true B nm 2 0 [] R) (KQ Q X) =
  skipR es cap i m1 2 R (148 = 148 ∧ ([] : List (FuncId × List AV)) = [] ∧ Q (intN (IntKind.i64.wrap (2 + 1))) (heapA true B nm 0 [])) := by kernel_rfl
theorem gr_t20 (n : Nat) (es : List (List AV)) (cap : Option Nat) (i m1 m2 : Int) (R : Tm) (B : Blk) (nm : List UInt8) (Q : AV → List Blk → Prop) (X : Ex → St → Prop) : execP CV (noCon CV) (n+40) { op := hA (.ro 1 es cap) i m1 m2 true, inl := inlV } bA (stA true B nm 2 0 [] R) (KQ Q X) =
  growR es cap i m1 m2 2 R (148 = 148 ∧ ([] : List (FuncId × List AV)) = [] ∧ Q (intN (IntKind.i64.wrap (2 + 1))) (heapA true B nm 0 [(nameK 2, kindK m2 2)])) := by kernel_rfl
theorem sk_t21 (n : Nat) (es : List (List AV)) (cap : Option Nat) (i m1 m2 : Int) (R : Tm) (B : Blk) (nm : List UInt8) (a : Fld) (Q : AV → List Blk → Prop) (X : Ex → St → Prop) : execP CV (noCon CV) (n+40) { op := hA (.ro 1 es cap) i m1 m2 false, inl := inlV } bA (stA true B nm 2 0 [a] R) (KQ Q X) =
  skipR es cap i m1 2 R (148 = 148 ∧ ([] : List (FuncId × List AV)) = [] ∧ Q (intN (IntKind.i64.wrap (2 + 1))) (heapA true B nm 0 [a])) := by kernel_rfl
theorem gr_t21 (n : Nat) (es : List (List AV)) (cap : Option Nat) (i m1 m2 : Int) (R : Tm) (B : Blk) (nm : List UInt8) (a : Fld) (Q : AV → List Blk → Prop) (X : Ex → St → Prop) : execP CV (noCon CV) (n+40) { op := hA (.ro 1 es cap) i m1 m2 true, inl := inlV } bA (stA true B nm 2 0 [a] R) (KQ Q X) =
  growR es cap i m1 m2 2 R (148 = 148 ∧ ([] : List (FuncId × List AV)) = [] ∧ Q (intN (IntKind.i64.wrap (2 + 1))) (heapA true B nm 1 [a, (nameK 2, kindK m2 2)])) := by kernel_rfl
theorem sk_t22 (n : Nat) (es : List (List AV)) (cap : Option Nat) (i m1 m2 : Int) (R : Tm) (B : Blk) (nm : List UInt8) (a b : Fld) (Q : AV → List Blk → Prop) (X : Ex → St → Prop) : execP CV (noCon CV) (n+40) { op := hA (.ro 1 es cap) i m1 m2 false, inl := inlV } bA (stA true B nm 2 0 [a, b] R) (KQ Q X) =
  skipR es cap i m1 2 R (148 = 148 ∧ ([] : List (FuncId × List AV)) = [] ∧ Q (intN (IntKind.i64.wrap (2 + 1))) (heapA true B nm 0 [a, b])) := by kernel_rfl
theorem gr_t22 (n : Nat) (es : List (List AV)) (cap : Option Nat) (i m1 m2 : Int) (R : Tm) (B : Blk) (nm : List UInt8) (a b : Fld) (Q : AV → List Blk → Prop) (X : Ex → St → Prop) : execP CV (noCon CV) (n+40) { op := hA (.ro 1 es cap) i m1 m2 true, inl := inlV } bA (stA true B nm 2 0 [a, b] R) (KQ Q X) =
  growR es cap i m1 m2 2 R (148 = 148 ∧ ([] : List (FuncId × List AV)) = [] ∧ Q (intN (IntKind.i64.wrap (2 + 1))) (heapA true B nm 1 [a, b, (nameK 2, kindK m2 2)])) := by kernel_rfl
theorem sk_t30 (n : Nat) (es : List (List AV)) (cap : Option Nat) (i m1 m2 : Int) (R : Tm) (B : Blk) (nm : List UInt8) (Q : AV → List Blk → Prop) (X : Ex → St → Prop) : execP CV (noCon CV) (n+40) { op := hA (.ro 1 es cap) i m1 m2 false, inl := inlV } bA (stA true B nm 3 0 [] R) (KQ Q X) =
  skipR es cap i m1 3 R (148 = 148 ∧ ([] : List (FuncId × List AV)) = [] ∧ Q (intN (IntKind.i64.wrap (3 + 1))) (heapA true B nm 0 [])) := by kernel_rfl
theorem gr_t30 (n : Nat) (es : List (List AV)) (cap : Option Nat) (i m1 m2 : Int) (R : Tm) (B : Blk) (nm : List UInt8) (Q : AV → List Blk → Prop) (X : Ex → St → Prop) : execP CV (noCon CV) (n+40) { op := hA (.ro 1 es cap) i m1 m2 true, inl := inlV } bA (stA true B nm 3 0 [] R) (KQ Q X) =
  growR es cap i m1 m2 3 R (148 = 148 ∧ ([] : List (FuncId × List AV)) = [] ∧ Q (intN (IntKind.i64.wrap (3 + 1))) (heapA true B nm 0 [(nameK 3, kindK m2 3)])) := by kernel_rfl
theorem sk_t31 (n : Nat) (es : List (List AV)) (cap : Option Nat) (i m1 m2 : Int) (R : Tm) (B : Blk) (nm : List UInt8) (a : Fld) (Q : AV → List Blk → Prop) (X : Ex → St → Prop) : execP CV (noCon CV) (n+40) { op := hA (.ro 1 es cap) i m1 m2 false, inl := inlV } bA (stA true B nm 3 0 [a] R) (KQ Q X) =
  skipR es cap i m1 3 R (148 = 148 ∧ ([] : List (FuncId × List AV)) = [] ∧ Q (intN (IntKind.i64.wrap (3 + 1))) (heapA true B nm 0 [a])) := by kernel_rfl
theorem gr_t31 (n : Nat) (es : List (List AV)) (cap : Option Nat) (i m1 m2 : Int) (R : Tm) (B : Blk) (nm : List UInt8) (a : Fld) (Q : AV → List Blk → Prop) (X : Ex → St → Prop) : execP CV (noCon CV) (n+40) { op := hA (.ro 1 es cap) i m1 m2 true, inl := inlV } bA (stA true B nm 3 0 [a] R) (KQ Q X) =
  growR es cap i m1 m2 3 R (148 = 148 ∧ ([] : List (FuncId × List AV)) = [] ∧ Q (intN (IntKind.i64.wrap (3 + 1))) (heapA true B nm 1 [a, (nameK 3, kindK m2 3)])) := by kernel_rfl
theorem sk_t32 (n : Nat) (es : List (List AV)) (cap : Option Nat) (i m1 m2 : Int) (R : Tm) (B : Blk) (nm : List UInt8) (a b : Fld) (Q : AV → List Blk → Prop) (X : Ex → St → Prop) : execP CV (noCon CV) (n+40) { op := hA (.ro 1 es cap) i m1 m2 false, inl := inlV } bA (stA true B nm 3 0 [a, b] R) (KQ Q X) =
  skipR es cap i m1 3 R (148 = 148 ∧ ([] : List (FuncId × List AV)) = [] ∧ Q (intN (IntKind.i64.wrap (3 + 1))) (heapA true B nm 0 [a, b])) := by kernel_rfl
theorem gr_t32 (n : Nat) (es : List (List AV)) (cap : Option Nat) (i m1 m2 : Int) (R : Tm) (B : Blk) (nm : List UInt8) (a b : Fld) (Q : AV → List Blk → Prop) (X : Ex → St → Prop) : execP CV (noCon CV) (n+40) { op := hA (.ro 1 es cap) i m1 m2 true, inl := inlV } bA (stA true B nm 3 0 [a, b] R) (KQ Q X) =
  growR es cap i m1 m2 3 R (148 = 148 ∧ ([] : List (FuncId × List AV)) = [] ∧ Q (intN (IntKind.i64.wrap (3 + 1))) (heapA true B nm 1 [a, b, (nameK 3, kindK m2 3)])) := by kernel_rfl
theorem sk_t33 (n : Nat) (es : List (List AV)) (cap : Option Nat) (i m1 m2 : Int) (R : Tm) (B : Blk) (nm : List UInt8) (a b c : Fld) (Q : AV → List Blk → Prop) (X : Ex → St → Prop) : execP CV (noCon CV) (n+40) { op := hA (.ro 1 es cap) i m1 m2 false, inl := inlV } bA (stA true B nm 3 0 [a, b, c] R) (KQ Q X) =
  skipR es cap i m1 3 R (148 = 148 ∧ ([] : List (FuncId × List AV)) = [] ∧ Q (intN (IntKind.i64.wrap (3 + 1))) (heapA true B nm 0 [a, b, c])) := by kernel_rfl
theorem gr_t33 (n : Nat) (es : List (List AV)) (cap : Option Nat) (i m1 m2 : Int) (R : Tm) (B : Blk) (nm : List UInt8) (a b c : Fld) (Q : AV → List Blk → Prop) (X : Ex → St → Prop) : execP CV (noCon CV) (n+40) { op := hA (.ro 1 es cap) i m1 m2 true, inl := inlV } bA (stA true B nm 3 0 [a, b, c] R) (KQ Q X) =
  growR es cap i m1 m2 3 R (148 = 148 ∧ ([] : List (FuncId × List AV)) = [] ∧ Q (intN (IntKind.i64.wrap (3 + 1))) (heapA true B nm 1 [a, b, c, (nameK 3, kindK m2 3)])) := by kernel_rfl
theorem sk_t40 (n : Nat) (es : List (List AV)) (cap : Option Nat) (i m1 m2 : Int) (R : Tm) (B : Blk) (nm : List UInt8) (Q : AV → List Blk → Prop) (X : Ex → St → Prop) : execP CV (noCon CV) (n+40) { op := hA (.ro 1 es cap) i m1 m2 false, inl := inlV } bA (stA true B nm 4 0 [] R) (KQ Q X) =
  skipR es cap i m1 4 R (148 = 148 ∧ ([] : List (FuncId × List AV)) = [] ∧ Q (intN (IntKind.i64.wrap (4 + 1))) (heapA true B nm 0 [])) := by kernel_rfl
theorem gr_t40 (n : Nat) (es : List (List AV)) (cap : Option Nat) (i m1 m2 : Int) (R : Tm) (B : Blk) (nm : List UInt8) (Q : AV → List Blk → Prop) (X : Ex → St → Prop) : execP CV (noCon CV) (n+40) { op := hA (.ro 1 es cap) i m1 m2 true, inl := inlV } bA (stA true B nm 4 0 [] R) (KQ Q X) =
  growR es cap i m1 m2 4 R (148 = 148 ∧ ([] : List (FuncId × List AV)) = [] ∧ Q (intN (IntKind.i64.wrap (4 + 1))) (heapA true B nm 0 [(nameK 4, kindK m2 4)])) := by kernel_rfl
theorem sk_t41 (n : Nat) (es : List (List AV)) (cap : Option Nat) (i m1 m2 : Int) (R : Tm) (B : Blk) (nm : List UInt8) (a : Fld) (Q : AV → List Blk → Prop) (X : Ex → St → Prop) : execP CV (noCon CV) (n+40) { op := hA (.ro 1 es cap) i m1 m2 false, inl := inlV } bA (stA true B nm 4 0 [a] R) (KQ Q X) =
  skipR es cap i m1 4 R (148 = 148 ∧ ([] : List (FuncId × List AV)) = [] ∧ Q (intN (IntKind.i64.wrap (4 + 1))) (heapA true B nm 0 [a])) := by kernel_rfl
theorem gr_t41 (n : Nat) (es : List (List AV)) (cap : Option Nat) (i m1 m2 : Int) (R : Tm) (B : Blk) (nm : List UInt8) (a : Fld) (Q : AV → List Blk → Prop) (X : Ex → St → Prop) : execP CV (noCon CV) (n+40) { op := hA (.ro 1 es cap) i m1 m2 true, inl := inlV } bA (stA true B nm 4 0 [a] R) (KQ Q X) =
  growR es cap i m1 m2 4 R (148 = 148 ∧ ([] : List (FuncId × List AV)) = [] ∧ Q (intN (IntKind.i64.wrap (4 + 1))) (heapA true B nm 1 [a, (nameK 4, kindK m2 4)])) := by kernel_rfl
theorem sk_t42 (n : Nat) (es : List (List AV)) (cap : Option Nat) (i m1 m2 : Int) (R : Tm) (B : Blk) (nm : List UInt8) (a b : Fld) (Q : AV → List Blk → Prop) (X : Ex → St → Prop) : execP CV (noCon CV) (n+40) { op := hA (.ro 1 es cap) i m1 m2 false, inl := inlV } bA (stA true B nm 4 0 [a, b] R) (KQ Q X) =
  skipR es cap i m1 4 R (148 = 148 ∧ ([] : List (FuncId × List AV)) = [] ∧ Q (intN (IntKind.i64.wrap (4 + 1))) (heapA true B nm 0 [a, b])) := by kernel_rfl
theorem gr_t42 (n : Nat) (es : List (List AV)) (cap : Option Nat) (i m1 m2 : Int) (R : Tm) (B : Blk) (nm : List UInt8) (a b : Fld) (Q : AV → List Blk → Prop) (X : Ex → St → Prop) : execP CV (noCon CV) (n+40) { op := hA (.ro 1 es cap) i m1 m2 true, inl := inlV } bA (stA true B nm 4 0 [a, b] R) (KQ Q X) =
  growR es cap i m1 m2 4 R (148 = 148 ∧ ([] : List (FuncId × List AV)) = [] ∧ Q (intN (IntKind.i64.wrap (4 + 1))) (heapA true B nm 1 [a, b, (nameK 4, kindK m2 4)])) := by kernel_rfl
theorem sk_t43 (n : Nat) (es : List (List AV)) (cap : Option Nat) (i m1 m2 : Int) (R : Tm) (B : Blk) (nm : List UInt8) (a b c : Fld) (Q : AV → List Blk → Prop) (X : Ex → St → Prop) : execP CV (noCon CV) (n+40) { op := hA (.ro 1 es cap) i m1 m2 false, inl := inlV } bA (stA true B nm 4 0 [a, b, c] R) (KQ Q X) =
  skipR es cap i m1 4 R (148 = 148 ∧ ([] : List (FuncId × List AV)) = [] ∧ Q (intN (IntKind.i64.wrap (4 + 1))) (heapA true B nm 0 [a, b, c])) := by kernel_rfl
theorem gr_t43 (n : Nat) (es : List (List AV)) (cap : Option Nat) (i m1 m2 : Int) (R : Tm) (B : Blk) (nm : List UInt8) (a b c : Fld) (Q : AV → List Blk → Prop) (X : Ex → St → Prop) : execP CV (noCon CV) (n+40) { op := hA (.ro 1 es cap) i m1 m2 true, inl := inlV } bA (stA true B nm 4 0 [a, b, c] R) (KQ Q X) =
  growR es cap i m1 m2 4 R (148 = 148 ∧ ([] : List (FuncId × List AV)) = [] ∧ Q (intN (IntKind.i64.wrap (4 + 1))) (heapA true B nm 1 [a, b, c, (nameK 4, kindK m2 4)])) := by kernel_rfl
theorem sk_t44 (n : Nat) (es : List (List AV)) (cap : Option Nat) (i m1 m2 : Int) (R : Tm) (B : Blk) (nm : List UInt8) (a b c d : Fld) (Q : AV → List Blk → Prop) (X : Ex → St → Prop) : execP CV (noCon CV) (n+40) { op := hA (.ro 1 es cap) i m1 m2 false, inl := inlV } bA (stA true B nm 4 0 [a, b, c, d] R) (KQ Q X) =
  skipR es cap i m1 4 R (148 = 148 ∧ ([] : List (FuncId × List AV)) = [] ∧ Q (intN (IntKind.i64.wrap (4 + 1))) (heapA true B nm 0 [a, b, c, d])) := by kernel_rfl
theorem gr_t44 (n : Nat) (es : List (List AV)) (cap : Option Nat) (i m1 m2 : Int) (R : Tm) (B : Blk) (nm : List UInt8) (a b c d : Fld) (Q : AV → List Blk → Prop) (X : Ex → St → Prop) : execP CV (noCon CV) (n+40) { op := hA (.ro 1 es cap) i m1 m2 true, inl := inlV } bA (stA true B nm 4 0 [a, b, c, d] R) (KQ Q X) =
  growR es cap i m1 m2 4 R (148 = 148 ∧ ([] : List (FuncId × List AV)) = [] ∧ Q (intN (IntKind.i64.wrap (4 + 1))) (heapA true B nm 1 [a, b, c, d, (nameK 4, kindK m2 4)])) := by kernel_rfl
theorem sk_t50 (n : Nat) (es : List (List AV)) (cap : Option Nat) (i m1 m2 : Int) (R : Tm) (B : Blk) (nm : List UInt8) (Q : AV → List Blk → Prop) (X : Ex → St → Prop) : execP CV (noCon CV) (n+40) { op := hA (.ro 1 es cap) i m1 m2 false, inl := inlV } bA (stA true B nm 5 0 [] R) (KQ Q X) =
  skipR es cap i m1 5 R (148 = 148 ∧ ([] : List (FuncId × List AV)) = [] ∧ Q (intN (IntKind.i64.wrap (5 + 1))) (heapA true B nm 0 [])) := by kernel_rfl
theorem gr_t50 (n : Nat) (es : List (List AV)) (cap : Option Nat) (i m1 m2 : Int) (R : Tm) (B : Blk) (nm : List UInt8) (Q : AV → List Blk → Prop) (X : Ex → St → Prop) : execP CV (noCon CV) (n+40) { op := hA (.ro 1 es cap) i m1 m2 true, inl := inlV } bA (stA true B nm 5 0 [] R) (KQ Q X) =
  growR es cap i m1 m2 5 R (148 = 148 ∧ ([] : List (FuncId × List AV)) = [] ∧ Q (intN (IntKind.i64.wrap (5 + 1))) (heapA true B nm 0 [(nameK 5, kindK m2 5)])) := by kernel_rfl
theorem sk_t51 (n : Nat) (es : List (List AV)) (cap : Option Nat) (i m1 m2 : Int) (R : Tm) (B : Blk) (nm : List UInt8) (a : Fld) (Q : AV → List Blk → Prop) (X : Ex → St → Prop) : execP CV (noCon CV) (n+40) { op := hA (.ro 1 es cap) i m1 m2 false, inl := inlV } bA (stA true B nm 5 0 [a] R) (KQ Q X) =
  skipR es cap i m1 5 R (148 = 148 ∧ ([] : List (FuncId × List AV)) = [] ∧ Q (intN (IntKind.i64.wrap (5 + 1))) (heapA true B nm 0 [a])) := by kernel_rfl
theorem gr_t51 (n : Nat) (es : List (List AV)) (cap : Option Nat) (i m1 m2 : Int) (R : Tm) (B : Blk) (nm : List UInt8) (a : Fld) (Q : AV → List Blk → Prop) (X : Ex → St → Prop) : execP CV (noCon CV) (n+40) { op := hA (.ro 1 es cap) i m1 m2 true, inl := inlV } bA (stA true B nm 5 0 [a] R) (KQ Q X) =
  growR es cap i m1 m2 5 R (148 = 148 ∧ ([] : List (FuncId × List AV)) = [] ∧ Q (intN (IntKind.i64.wrap (5 + 1))) (heapA true B nm 1 [a, (nameK 5, kindK m2 5)])) := by kernel_rfl
theorem sk_t52 (n : Nat) (es : List (List AV)) (cap : Option Nat) (i m1 m2 : Int) (R : Tm) (B : Blk) (nm : List UInt8) (a b : Fld) (Q : AV → List Blk → Prop) (X : Ex → St → Prop) : execP CV (noCon CV) (n+40) { op := hA (.ro 1 es cap) i m1 m2 false, inl := inlV } bA (stA true B nm 5 0 [a, b] R) (KQ Q X) =
  skipR es cap i m1 5 R (148 = 148 ∧ ([] : List (FuncId × List AV)) = [] ∧ Q (intN (IntKind.i64.wrap (5 + 1))) (heapA true B nm 0 [a, b])) := by kernel_rfl
theorem gr_t52 (n : Nat) (es : List (List AV)) (cap : Option Nat) (i m1 m2 : Int) (R : Tm) (B : Blk) (nm : List UInt8) (a b : Fld) (Q : AV → List Blk → Prop) (X : Ex → St → Prop) : execP CV (noCon CV) (n+40) { op := hA (.ro 1 es cap) i m1 m2 true, inl := inlV } bA (stA true B nm 5 0 [a, b] R) (KQ Q X) =
  growR es cap i m1 m2 5 R (148 = 148 ∧ ([] : List (FuncId × List AV)) = [] ∧ Q (intN (IntKind.i64.wrap (5 + 1))) (heapA true B nm 1 [a, b, (nameK 5, kindK m2 5)])) := by kernel_rfl
theorem sk_t53 (n : Nat) (es : List (List AV)) (cap : Option Nat) (i m1 m2 : Int) (R : Tm) (B : Blk) (nm : List UInt8) (a b c : Fld) (Q : AV → List Blk → Prop) (X : Ex → St → Prop) : execP CV (noCon CV) (n+40) { op := hA (.ro 1 es cap) i m1 m2 false, inl := inlV } bA (stA true B nm 5 0 [a, b, c] R) (KQ Q X) =
  skipR es cap i m1 5 R (148 = 148 ∧ ([] : List (FuncId × List AV)) = [] ∧ Q (intN (IntKind.i64.wrap (5 + 1))) (heapA true B nm 0 [a, b, c])) := by kernel_rfl
theorem gr_t53 (n : Nat) (es : List (List AV)) (cap : Option Nat) (i m1 m2 : Int) (R : Tm) (B : Blk) (nm : List UInt8) (a b c : Fld) (Q : AV → List Blk → Prop) (X : Ex → St → Prop) : execP CV (noCon CV) (n+40) { op := hA (.ro 1 es cap) i m1 m2 true, inl := inlV } bA (stA true B nm 5 0 [a, b, c] R) (KQ Q X) =
  growR es cap i m1 m2 5 R (148 = 148 ∧ ([] : List (FuncId × List AV)) = [] ∧ Q (intN (IntKind.i64.wrap (5 + 1))) (heapA true B nm 1 [a, b, c, (nameK 5, kindK m2 5)])) := by kernel_rfl
theorem sk_t54 (n : Nat) (es : List (List AV)) (cap : Option Nat) (i m1 m2 : Int) (R : Tm) (B : Blk) (nm : List UInt8) (a b c d : Fld) (Q : AV → List Blk → Prop) (X : Ex → St → Prop) : execP CV (noCon CV) (n+40) { op := hA (.ro 1 es cap) i m1 m2 false, inl := inlV } bA (stA true B nm 5 0 [a, b, c, d] R) (KQ Q X) =
  skipR es cap i m1 5 R (148 = 148 ∧ ([] : List (FuncId × List AV)) = [] ∧ Q (intN (IntKind.i64.wrap (5 + 1))) (heapA true B nm 0 [a, b, c, d])) := by kernel_rfl
theorem gr_t54 (n : Nat) (es : List (List AV)) (cap : Option Nat) (i m1 m2 : Int) (R : Tm) (B : Blk) (nm : List UInt8) (a b c d : Fld) (Q : AV → List Blk → Prop) (X : Ex → St → Prop) : execP CV (noCon CV) (n+40) { op := hA (.ro 1 es cap) i m1 m2 true, inl := inlV } bA (stA true B nm 5 0 [a, b, c, d] R) (KQ Q X) =
  growR es cap i m1 m2 5 R (148 = 148 ∧ ([] : List (FuncId × List AV)) = [] ∧ Q (intN (IntKind.i64.wrap (5 + 1))) (heapA true B nm 1 [a, b, c, d, (nameK 5, kindK m2 5)])) := by kernel_rfl
theorem sk_t55 (n : Nat) (es : List (List AV)) (cap : Option Nat) (i m1 m2 : Int) (R : Tm) (B : Blk) (nm : List UInt8) (a b c d e : Fld) (Q : AV → List Blk → Prop) (X : Ex → St → Prop) : execP CV (noCon CV) (n+40) { op := hA (.ro 1 es cap) i m1 m2 false, inl := inlV } bA (stA true B nm 5 0 [a, b, c, d, e] R) (KQ Q X) =
  skipR es cap i m1 5 R (148 = 148 ∧ ([] : List (FuncId × List AV)) = [] ∧ Q (intN (IntKind.i64.wrap (5 + 1))) (heapA true B nm 0 [a, b, c, d, e])) := by kernel_rfl
theorem gr_t55 (n : Nat) (es : List (List AV)) (cap : Option Nat) (i m1 m2 : Int) (R : Tm) (B : Blk) (nm : List UInt8) (a b c d e : Fld) (Q : AV → List Blk → Prop) (X : Ex → St → Prop) : execP CV (noCon CV) (n+40) { op := hA (.ro 1 es cap) i m1 m2 true, inl := inlV } bA (stA true B nm 5 0 [a, b, c, d, e] R) (KQ Q X) =
  growR es cap i m1 m2 5 R (148 = 148 ∧ ([] : List (FuncId × List AV)) = [] ∧ Q (intN (IntKind.i64.wrap (5 + 1))) (heapA true B nm 1 [a, b, c, d, e, (nameK 5, kindK m2 5)])) := by kernel_rfl
theorem ex_t0 (n : Nat) (es : List (List AV)) (cap : Option Nat) (i m1 m2 : Int) (R : Tm) (B : Blk) (nm : List UInt8) (Q : AV → List Blk → Prop) (X : Ex → St → Prop) : execP CV (noCon CV) (n+40) { op := hA (.ro 1 es cap) i m1 m2 false, inl := inlV } bA (stA true B nm 6 0 [] R) (KQ Q X) =
  X (.exit 2) ⟨148, (31, .sc (.bool false)) :: (30, intN 6) :: tmpA true 6 R, heapA true B nm 0 [], []⟩ := by kernel_rfl
theorem ex_t1 (n : Nat) (es : List (List AV)) (cap : Option Nat) (i m1 m2 : Int) (R : Tm) (B : Blk) (nm : List UInt8) (a : Fld) (Q : AV → List Blk → Prop) (X : Ex → St → Prop) : execP CV (noCon CV) (n+40) { op := hA (.ro 1 es cap) i m1 m2 false, inl := inlV } bA (stA true B nm 6 0 [a] R) (KQ Q X) =
  X (.exit 2) ⟨148, (31, .sc (.bool false)) :: (30, intN 6) :: tmpA true 6 R, heapA true B nm 0 [a], []⟩ := by kernel_rfl
theorem ex_t2 (n : Nat) (es : List (List AV)) (cap : Option Nat) (i m1 m2 : Int) (R : Tm) (B : Blk) (nm : List UInt8) (a b : Fld) (Q : AV → List Blk → Prop) (X : Ex → St → Prop) : execP CV (noCon CV) (n+40) { op := hA (.ro 1 es cap) i m1 m2 false, inl := inlV } bA (stA true B nm 6 0 [a, b] R) (KQ Q X) =
  X (.exit 2) ⟨148, (31, .sc (.bool false)) :: (30, intN 6) :: tmpA true 6 R, heapA true B nm 0 [a, b], []⟩ := by kernel_rfl
theorem ex_t3 (n : Nat) (es : List (List AV)) (cap : Option Nat) (i m1 m2 : Int) (R : Tm) (B : Blk) (nm : List UInt8) (a b c : Fld) (Q : AV → List Blk → Prop) (X : Ex → St → Prop) : execP CV (noCon CV) (n+40) { op := hA (.ro 1 es cap) i m1 m2 false, inl := inlV } bA (stA true B nm 6 0 [a, b, c] R) (KQ Q X) =
  X (.exit 2) ⟨148, (31, .sc (.bool false)) :: (30, intN 6) :: tmpA true 6 R, heapA true B nm 0 [a, b, c], []⟩ := by kernel_rfl
theorem ex_t4 (n : Nat) (es : List (List AV)) (cap : Option Nat) (i m1 m2 : Int) (R : Tm) (B : Blk) (nm : List UInt8) (a b c d : Fld) (Q : AV → List Blk → Prop) (X : Ex → St → Prop) : execP CV (noCon CV) (n+40) { op := hA (.ro 1 es cap) i m1 m2 false, inl := inlV } bA (stA true B nm 6 0 [a, b, c, d] R) (KQ Q X) =
  X (.exit 2) ⟨148, (31, .sc (.bool false)) :: (30, intN 6) :: tmpA true 6 R, heapA true B nm 0 [a, b, c, d], []⟩ := by kernel_rfl
theorem ex_t5 (n : Nat) (es : List (List AV)) (cap : Option Nat) (i m1 m2 : Int) (R : Tm) (B : Blk) (nm : List UInt8) (a b c d e : Fld) (Q : AV → List Blk → Prop) (X : Ex → St → Prop) : execP CV (noCon CV) (n+40) { op := hA (.ro 1 es cap) i m1 m2 false, inl := inlV } bA (stA true B nm 6 0 [a, b, c, d, e] R) (KQ Q X) =
  X (.exit 2) ⟨148, (31, .sc (.bool false)) :: (30, intN 6) :: tmpA true 6 R, heapA true B nm 0 [a, b, c, d, e], []⟩ := by kernel_rfl
theorem ex_t6 (n : Nat) (es : List (List AV)) (cap : Option Nat) (i m1 m2 : Int) (R : Tm) (B : Blk) (nm : List UInt8) (a b c d e g : Fld) (Q : AV → List Blk → Prop) (X : Ex → St → Prop) : execP CV (noCon CV) (n+40) { op := hA (.ro 1 es cap) i m1 m2 false, inl := inlV } bA (stA true B nm 6 0 [a, b, c, d, e, g] R) (KQ Q X) =
  X (.exit 2) ⟨148, (31, .sc (.bool false)) :: (30, intN 6) :: tmpA true 6 R, heapA true B nm 0 [a, b, c, d, e, g], []⟩ := by kernel_rfl
theorem sk_f00 (n : Nat) (es : List (List AV)) (cap : Option Nat) (i m1 m2 : Int) (R : Tm) (B : Blk) (nm : List UInt8) (Q : AV → List Blk → Prop) (X : Ex → St → Prop) : execP CV (noCon CV) (n+40) { op := hA (.ro 1 es cap) i m1 m2 false, inl := inlV } bA (stA false B nm 0 0 [] R) (KQ Q X) =
  skipR es cap i m1 0 R (148 = 148 ∧ ([] : List (FuncId × List AV)) = [] ∧ Q (intN (IntKind.i64.wrap (0 + 1))) (heapA false B nm 0 [])) := by kernel_rfl
theorem gr_f00 (n : Nat) (es : List (List AV)) (cap : Option Nat) (i m1 m2 : Int) (R : Tm) (B : Blk) (nm : List UInt8) (Q : AV → List Blk → Prop) (X : Ex → St → Prop) : execP CV (noCon CV) (n+40) { op := hA (.ro 1 es cap) i m1 m2 true, inl := inlV } bA (stA false B nm 0 0 [] R) (KQ Q X) =
  growR es cap i m1 m2 0 R (148 = 148 ∧ ([] : List (FuncId × List AV)) = [] ∧ Q (intN (IntKind.i64.wrap (0 + 1))) (heapA false B nm 0 [(nameK 0, kindK m2 0)])) := by kernel_rfl
theorem sk_f10 (n : Nat) (es : List (List AV)) (cap : Option Nat) (i m1 m2 : Int) (R : Tm) (B : Blk) (nm : List UInt8) (Q : AV → List Blk → Prop) (X : Ex → St → Prop) : execP CV (noCon CV) (n+40) { op := hA (.ro 1 es cap) i m1 m2 false, inl := inlV } bA (stA false B nm 1 0 [] R) (KQ Q X) =
  skipR es cap i m1 1 R (148 = 148 ∧ ([] : List (FuncId × List AV)) = [] ∧ Q (intN (IntKind.i64.wrap (1 + 1))) (heapA false B nm 0 [])) := by kernel_rfl
theorem gr_f10 (n : Nat) (es : List (List AV)) (cap : Option Nat) (i m1 m2 : Int) (R : Tm) (B : Blk) (nm : List UInt8) (Q : AV → List Blk → Prop) (X : Ex → St → Prop) : execP CV (noCon CV) (n+40) { op := hA (.ro 1 es cap) i m1 m2 true, inl := inlV } bA (stA false B nm 1 0 [] R) (KQ Q X) =
  growR es cap i m1 m2 1 R (148 = 148 ∧ ([] : List (FuncId × List AV)) = [] ∧ Q (intN (IntKind.i64.wrap (1 + 1))) (heapA false B nm 0 [(nameK 1, kindK m2 1)])) := by kernel_rfl
theorem sk_f11 (n : Nat) (es : List (List AV)) (cap : Option Nat) (i m1 m2 : Int) (R : Tm) (B : Blk) (nm : List UInt8) (a : Fld) (Q : AV → List Blk → Prop) (X : Ex → St → Prop) : execP CV (noCon CV) (n+40) { op := hA (.ro 1 es cap) i m1 m2 false, inl := inlV } bA (stA false B nm 1 0 [a] R) (KQ Q X) =
  skipR es cap i m1 1 R (148 = 148 ∧ ([] : List (FuncId × List AV)) = [] ∧ Q (intN (IntKind.i64.wrap (1 + 1))) (heapA false B nm 0 [a])) := by kernel_rfl
theorem gr_f11 (n : Nat) (es : List (List AV)) (cap : Option Nat) (i m1 m2 : Int) (R : Tm) (B : Blk) (nm : List UInt8) (a : Fld) (Q : AV → List Blk → Prop) (X : Ex → St → Prop) : execP CV (noCon CV) (n+40) { op := hA (.ro 1 es cap) i m1 m2 true, inl := inlV } bA (stA false B nm 1 0 [a] R) (KQ Q X) =
  growR es cap i m1 m2 1 R (148 = 148 ∧ ([] : List (FuncId × List AV)) = [] ∧ Q (intN (IntKind.i64.wrap (1 + 1))) (heapA false B nm 1 [a, (nameK 1, kindK m2 1)])) := by kernel_rfl
theorem sk_f20 (n : Nat) (es : List (List AV)) (cap : Option Nat) (i m1 m2 : Int) (R : Tm) (B : Blk) (nm : List UInt8) (Q : AV → List Blk → Prop) (X : Ex → St → Prop) : execP CV (noCon CV) (n+40) { op := hA (.ro 1 es cap) i m1 m2 false, inl := inlV } bA (stA false B nm 2 0 [] R) (KQ Q X) =
  skipR es cap i m1 2 R (148 = 148 ∧ ([] : List (FuncId × List AV)) = [] ∧ Q (intN (IntKind.i64.wrap (2 + 1))) (heapA false B nm 0 [])) := by kernel_rfl
theorem gr_f20 (n : Nat) (es : List (List AV)) (cap : Option Nat) (i m1 m2 : Int) (R : Tm) (B : Blk) (nm : List UInt8) (Q : AV → List Blk → Prop) (X : Ex → St → Prop) : execP CV (noCon CV) (n+40) { op := hA (.ro 1 es cap) i m1 m2 true, inl := inlV } bA (stA false B nm 2 0 [] R) (KQ Q X) =
  growR es cap i m1 m2 2 R (148 = 148 ∧ ([] : List (FuncId × List AV)) = [] ∧ Q (intN (IntKind.i64.wrap (2 + 1))) (heapA false B nm 0 [(nameK 2, kindK m2 2)])) := by kernel_rfl
theorem sk_f21 (n : Nat) (es : List (List AV)) (cap : Option Nat) (i m1 m2 : Int) (R : Tm) (B : Blk) (nm : List UInt8) (a : Fld) (Q : AV → List Blk → Prop) (X : Ex → St → Prop) : execP CV (noCon CV) (n+40) { op := hA (.ro 1 es cap) i m1 m2 false, inl := inlV } bA (stA false B nm 2 0 [a] R) (KQ Q X) =
  skipR es cap i m1 2 R (148 = 148 ∧ ([] : List (FuncId × List AV)) = [] ∧ Q (intN (IntKind.i64.wrap (2 + 1))) (heapA false B nm 0 [a])) := by kernel_rfl
theorem gr_f21 (n : Nat) (es : List (List AV)) (cap : Option Nat) (i m1 m2 : Int) (R : Tm) (B : Blk) (nm : List UInt8) (a : Fld) (Q : AV → List Blk → Prop) (X : Ex → St → Prop) : execP CV (noCon CV) (n+40) { op := hA (.ro 1 es cap) i m1 m2 true, inl := inlV } bA (stA false B nm 2 0 [a] R) (KQ Q X) =
  growR es cap i m1 m2 2 R (148 = 148 ∧ ([] : List (FuncId × List AV)) = [] ∧ Q (intN (IntKind.i64.wrap (2 + 1))) (heapA false B nm 1 [a, (nameK 2, kindK m2 2)])) := by kernel_rfl
theorem sk_f22 (n : Nat) (es : List (List AV)) (cap : Option Nat) (i m1 m2 : Int) (R : Tm) (B : Blk) (nm : List UInt8) (a b : Fld) (Q : AV → List Blk → Prop) (X : Ex → St → Prop) : execP CV (noCon CV) (n+40) { op := hA (.ro 1 es cap) i m1 m2 false, inl := inlV } bA (stA false B nm 2 0 [a, b] R) (KQ Q X) =
  skipR es cap i m1 2 R (148 = 148 ∧ ([] : List (FuncId × List AV)) = [] ∧ Q (intN (IntKind.i64.wrap (2 + 1))) (heapA false B nm 0 [a, b])) := by kernel_rfl
theorem gr_f22 (n : Nat) (es : List (List AV)) (cap : Option Nat) (i m1 m2 : Int) (R : Tm) (B : Blk) (nm : List UInt8) (a b : Fld) (Q : AV → List Blk → Prop) (X : Ex → St → Prop) : execP CV (noCon CV) (n+40) { op := hA (.ro 1 es cap) i m1 m2 true, inl := inlV } bA (stA false B nm 2 0 [a, b] R) (KQ Q X) =
  growR es cap i m1 m2 2 R (148 = 148 ∧ ([] : List (FuncId × List AV)) = [] ∧ Q (intN (IntKind.i64.wrap (2 + 1))) (heapA false B nm 1 [a, b, (nameK 2, kindK m2 2)])) := by kernel_rfl
theorem sk_f30 (n : Nat) (es : List (List AV)) (cap : Option Nat) (i m1 m2 : Int) (R : Tm) (B : Blk) (nm : List UInt8) (Q : AV → List Blk → Prop) (X : Ex → St → Prop) : execP CV (noCon CV) (n+40) { op := hA (.ro 1 es cap) i m1 m2 false, inl := inlV } bA (stA false B nm 3 0 [] R) (KQ Q X) =
  skipR es cap i m1 3 R (148 = 148 ∧ ([] : List (FuncId × List AV)) = [] ∧ Q (intN (IntKind.i64.wrap (3 + 1))) (heapA false B nm 0 [])) := by kernel_rfl
theorem gr_f30 (n : Nat) (es : List (List AV)) (cap : Option Nat) (i m1 m2 : Int) (R : Tm) (B : Blk) (nm : List UInt8) (Q : AV → List Blk → Prop) (X : Ex → St → Prop) : execP CV (noCon CV) (n+40) { op := hA (.ro 1 es cap) i m1 m2 true, inl := inlV } bA (stA false B nm 3 0 [] R) (KQ Q X) =
  growR es cap i m1 m2 3 R (148 = 148 ∧ ([] : List (FuncId × List AV)) = [] ∧ Q (intN (IntKind.i64.wrap (3 + 1))) (heapA false B nm 0 [(nameK 3, kindK m2 3)])) := by kernel_rfl
theorem sk_f31 (n : Nat) (es : List (List AV)) (cap : Option Nat) (i m1 m2 : Int) (R : Tm) (B : Blk) (nm : List UInt8) (a : Fld) (Q : AV → List Blk → Prop) (X : Ex → St → Prop) : execP CV (noCon CV) (n+40) { op := hA (.ro 1 es cap) i m1 m2 false, inl := inlV } bA (stA false B nm 3 0 [a] R) (KQ Q X) =
  skipR es cap i m1 3 R (148 = 148 ∧ ([] : List (FuncId × List AV)) = [] ∧ Q (intN (IntKind.i64.wrap (3 + 1))) (heapA false B nm 0 [a])) := by kernel_rfl
theorem gr_f31 (n : Nat) (es : List (List AV)) (cap : Option Nat) (i m1 m2 : Int) (R : Tm) (B : Blk) (nm : List UInt8) (a : Fld) (Q : AV → List Blk → Prop) (X : Ex → St → Prop) : execP CV (noCon CV) (n+40) { op := hA (.ro 1 es cap) i m1 m2 true, inl := inlV } bA (stA false B nm 3 0 [a] R) (KQ Q X) =
  growR es cap i m1 m2 3 R (148 = 148 ∧ ([] : List (FuncId × List AV)) = [] ∧ Q (intN (IntKind.i64.wrap (3 + 1))) (heapA false B nm 1 [a, (nameK 3, kindK m2 3)])) := by kernel_rfl
theorem sk_f32 (n : Nat) (es : List (List AV)) (cap : Option Nat) (i m1 m2 : Int) (R : Tm) (B : Blk) (nm : List UInt8) (a b : Fld) (Q : AV → List Blk → Prop) (X : Ex → St → Prop) : execP CV (noCon CV) (n+40) { op := hA (.ro 1 es cap) i m1 m2 false, inl := inlV } bA (stA false B nm 3 0 [a, b] R) (KQ Q X) =
  skipR es cap i m1 3 R (148 = 148 ∧ ([] : List (FuncId × List AV)) = [] ∧ Q (intN (IntKind.i64.wrap (3 + 1))) (heapA false B nm 0 [a, b])) := by kernel_rfl
theorem gr_f32 (n : Nat) (es : List (List AV)) (cap : Option Nat) (i m1 m2 : Int) (R : Tm) (B : Blk) (nm : List UInt8) (a b : Fld) (Q : AV → List Blk → Prop) (X : Ex → St → Prop) : execP CV (noCon CV) (n+40) { op := hA (.ro 1 es cap) i m1 m2 true, inl := inlV } bA (stA false B nm 3 0 [a, b] R) (KQ Q X) =
  growR es cap i m1 m2 3 R (148 = 148 ∧ ([] : List (FuncId × List AV)) = [] ∧ Q (intN (IntKind.i64.wrap (3 + 1))) (heapA false B nm 1 [a, b, (nameK 3, kindK m2 3)])) := by kernel_rfl
theorem sk_f33 (n : Nat) (es : List (List AV)) (cap : Option Nat) (i m1 m2 : Int) (R : Tm) (B : Blk) (nm : List UInt8) (a b c : Fld) (Q : AV → List Blk → Prop) (X : Ex → St → Prop) : execP CV (noCon CV) (n+40) { op := hA (.ro 1 es cap) i m1 m2 false, inl := inlV } bA (stA false B nm 3 0 [a, b, c] R) (KQ Q X) =
  skipR es cap i m1 3 R (148 = 148 ∧ ([] : List (FuncId × List AV)) = [] ∧ Q (intN (IntKind.i64.wrap (3 + 1))) (heapA false B nm 0 [a, b, c])) := by kernel_rfl
theorem gr_f33 (n : Nat) (es : List (List AV)) (cap : Option Nat) (i m1 m2 : Int) (R : Tm) (B : Blk) (nm : List UInt8) (a b c : Fld) (Q : AV → List Blk → Prop) (X : Ex → St → Prop) : execP CV (noCon CV) (n+40) { op := hA (.ro 1 es cap) i m1 m2 true, inl := inlV } bA (stA false B nm 3 0 [a, b, c] R) (KQ Q X) =
  growR es cap i m1 m2 3 R (148 = 148 ∧ ([] : List (FuncId × List AV)) = [] ∧ Q (intN (IntKind.i64.wrap (3 + 1))) (heapA false B nm 1 [a, b, c, (nameK 3, kindK m2 3)])) := by kernel_rfl
theorem sk_f40 (n : Nat) (es : List (List AV)) (cap : Option Nat) (i m1 m2 : Int) (R : Tm) (B : Blk) (nm : List UInt8) (Q : AV → List Blk → Prop) (X : Ex → St → Prop) : execP CV (noCon CV) (n+40) { op := hA (.ro 1 es cap) i m1 m2 false, inl := inlV } bA (stA false B nm 4 0 [] R) (KQ Q X) =
  skipR es cap i m1 4 R (148 = 148 ∧ ([] : List (FuncId × List AV)) = [] ∧ Q (intN (IntKind.i64.wrap (4 + 1))) (heapA false B nm 0 [])) := by kernel_rfl
theorem gr_f40 (n : Nat) (es : List (List AV)) (cap : Option Nat) (i m1 m2 : Int) (R : Tm) (B : Blk) (nm : List UInt8) (Q : AV → List Blk → Prop) (X : Ex → St → Prop) : execP CV (noCon CV) (n+40) { op := hA (.ro 1 es cap) i m1 m2 true, inl := inlV } bA (stA false B nm 4 0 [] R) (KQ Q X) =
  growR es cap i m1 m2 4 R (148 = 148 ∧ ([] : List (FuncId × List AV)) = [] ∧ Q (intN (IntKind.i64.wrap (4 + 1))) (heapA false B nm 0 [(nameK 4, kindK m2 4)])) := by kernel_rfl
theorem sk_f41 (n : Nat) (es : List (List AV)) (cap : Option Nat) (i m1 m2 : Int) (R : Tm) (B : Blk) (nm : List UInt8) (a : Fld) (Q : AV → List Blk → Prop) (X : Ex → St → Prop) : execP CV (noCon CV) (n+40) { op := hA (.ro 1 es cap) i m1 m2 false, inl := inlV } bA (stA false B nm 4 0 [a] R) (KQ Q X) =
  skipR es cap i m1 4 R (148 = 148 ∧ ([] : List (FuncId × List AV)) = [] ∧ Q (intN (IntKind.i64.wrap (4 + 1))) (heapA false B nm 0 [a])) := by kernel_rfl
theorem gr_f41 (n : Nat) (es : List (List AV)) (cap : Option Nat) (i m1 m2 : Int) (R : Tm) (B : Blk) (nm : List UInt8) (a : Fld) (Q : AV → List Blk → Prop) (X : Ex → St → Prop) : execP CV (noCon CV) (n+40) { op := hA (.ro 1 es cap) i m1 m2 true, inl := inlV } bA (stA false B nm 4 0 [a] R) (KQ Q X) =
  growR es cap i m1 m2 4 R (148 = 148 ∧ ([] : List (FuncId × List AV)) = [] ∧ Q (intN (IntKind.i64.wrap (4 + 1))) (heapA false B nm 1 [a, (nameK 4, kindK m2 4)])) := by kernel_rfl
theorem sk_f42 (n : Nat) (es : List (List AV)) (cap : Option Nat) (i m1 m2 : Int) (R : Tm) (B : Blk) (nm : List UInt8) (a b : Fld) (Q : AV → List Blk → Prop) (X : Ex → St → Prop) : execP CV (noCon CV) (n+40) { op := hA (.ro 1 es cap) i m1 m2 false, inl := inlV } bA (stA false B nm 4 0 [a, b] R) (KQ Q X) =
  skipR es cap i m1 4 R (148 = 148 ∧ ([] : List (FuncId × List AV)) = [] ∧ Q (intN (IntKind.i64.wrap (4 + 1))) (heapA false B nm 0 [a, b])) := by kernel_rfl
theorem gr_f42 (n : Nat) (es : List (List AV)) (cap : Option Nat) (i m1 m2 : Int) (R : Tm) (B : Blk) (nm : List UInt8) (a b : Fld) (Q : AV → List Blk → Prop) (X : Ex → St → Prop) : execP CV (noCon CV) (n+40) { op := hA (.ro 1 es cap) i m1 m2 true, inl := inlV } bA (stA false B nm 4 0 [a, b] R) (KQ Q X) =
  growR es cap i m1 m2 4 R (148 = 148 ∧ ([] : List (FuncId × List AV)) = [] ∧ Q (intN (IntKind.i64.wrap (4 + 1))) (heapA false B nm 1 [a, b, (nameK 4, kindK m2 4)])) := by kernel_rfl
theorem sk_f43 (n : Nat) (es : List (List AV)) (cap : Option Nat) (i m1 m2 : Int) (R : Tm) (B : Blk) (nm : List UInt8) (a b c : Fld) (Q : AV → List Blk → Prop) (X : Ex → St → Prop) : execP CV (noCon CV) (n+40) { op := hA (.ro 1 es cap) i m1 m2 false, inl := inlV } bA (stA false B nm 4 0 [a, b, c] R) (KQ Q X) =
  skipR es cap i m1 4 R (148 = 148 ∧ ([] : List (FuncId × List AV)) = [] ∧ Q (intN (IntKind.i64.wrap (4 + 1))) (heapA false B nm 0 [a, b, c])) := by kernel_rfl
theorem gr_f43 (n : Nat) (es : List (List AV)) (cap : Option Nat) (i m1 m2 : Int) (R : Tm) (B : Blk) (nm : List UInt8) (a b c : Fld) (Q : AV → List Blk → Prop) (X : Ex → St → Prop) : execP CV (noCon CV) (n+40) { op := hA (.ro 1 es cap) i m1 m2 true, inl := inlV } bA (stA false B nm 4 0 [a, b, c] R) (KQ Q X) =
  growR es cap i m1 m2 4 R (148 = 148 ∧ ([] : List (FuncId × List AV)) = [] ∧ Q (intN (IntKind.i64.wrap (4 + 1))) (heapA false B nm 1 [a, b, c, (nameK 4, kindK m2 4)])) := by kernel_rfl
theorem sk_f44 (n : Nat) (es : List (List AV)) (cap : Option Nat) (i m1 m2 : Int) (R : Tm) (B : Blk) (nm : List UInt8) (a b c d : Fld) (Q : AV → List Blk → Prop) (X : Ex → St → Prop) : execP CV (noCon CV) (n+40) { op := hA (.ro 1 es cap) i m1 m2 false, inl := inlV } bA (stA false B nm 4 0 [a, b, c, d] R) (KQ Q X) =
  skipR es cap i m1 4 R (148 = 148 ∧ ([] : List (FuncId × List AV)) = [] ∧ Q (intN (IntKind.i64.wrap (4 + 1))) (heapA false B nm 0 [a, b, c, d])) := by kernel_rfl
theorem gr_f44 (n : Nat) (es : List (List AV)) (cap : Option Nat) (i m1 m2 : Int) (R : Tm) (B : Blk) (nm : List UInt8) (a b c d : Fld) (Q : AV → List Blk → Prop) (X : Ex → St → Prop) : execP CV (noCon CV) (n+40) { op := hA (.ro 1 es cap) i m1 m2 true, inl := inlV } bA (stA false B nm 4 0 [a, b, c, d] R) (KQ Q X) =
  growR es cap i m1 m2 4 R (148 = 148 ∧ ([] : List (FuncId × List AV)) = [] ∧ Q (intN (IntKind.i64.wrap (4 + 1))) (heapA false B nm 1 [a, b, c, d, (nameK 4, kindK m2 4)])) := by kernel_rfl
theorem sk_f50 (n : Nat) (es : List (List AV)) (cap : Option Nat) (i m1 m2 : Int) (R : Tm) (B : Blk) (nm : List UInt8) (Q : AV → List Blk → Prop) (X : Ex → St → Prop) : execP CV (noCon CV) (n+40) { op := hA (.ro 1 es cap) i m1 m2 false, inl := inlV } bA (stA false B nm 5 0 [] R) (KQ Q X) =
  skipR es cap i m1 5 R (148 = 148 ∧ ([] : List (FuncId × List AV)) = [] ∧ Q (intN (IntKind.i64.wrap (5 + 1))) (heapA false B nm 0 [])) := by kernel_rfl
theorem gr_f50 (n : Nat) (es : List (List AV)) (cap : Option Nat) (i m1 m2 : Int) (R : Tm) (B : Blk) (nm : List UInt8) (Q : AV → List Blk → Prop) (X : Ex → St → Prop) : execP CV (noCon CV) (n+40) { op := hA (.ro 1 es cap) i m1 m2 true, inl := inlV } bA (stA false B nm 5 0 [] R) (KQ Q X) =
  growR es cap i m1 m2 5 R (148 = 148 ∧ ([] : List (FuncId × List AV)) = [] ∧ Q (intN (IntKind.i64.wrap (5 + 1))) (heapA false B nm 0 [(nameK 5, kindK m2 5)])) := by kernel_rfl
theorem sk_f51 (n : Nat) (es : List (List AV)) (cap : Option Nat) (i m1 m2 : Int) (R : Tm) (B : Blk) (nm : List UInt8) (a : Fld) (Q : AV → List Blk → Prop) (X : Ex → St → Prop) : execP CV (noCon CV) (n+40) { op := hA (.ro 1 es cap) i m1 m2 false, inl := inlV } bA (stA false B nm 5 0 [a] R) (KQ Q X) =
  skipR es cap i m1 5 R (148 = 148 ∧ ([] : List (FuncId × List AV)) = [] ∧ Q (intN (IntKind.i64.wrap (5 + 1))) (heapA false B nm 0 [a])) := by kernel_rfl
theorem gr_f51 (n : Nat) (es : List (List AV)) (cap : Option Nat) (i m1 m2 : Int) (R : Tm) (B : Blk) (nm : List UInt8) (a : Fld) (Q : AV → List Blk → Prop) (X : Ex → St → Prop) : execP CV (noCon CV) (n+40) { op := hA (.ro 1 es cap) i m1 m2 true, inl := inlV } bA (stA false B nm 5 0 [a] R) (KQ Q X) =
  growR es cap i m1 m2 5 R (148 = 148 ∧ ([] : List (FuncId × List AV)) = [] ∧ Q (intN (IntKind.i64.wrap (5 + 1))) (heapA false B nm 1 [a, (nameK 5, kindK m2 5)])) := by kernel_rfl
theorem sk_f52 (n : Nat) (es : List (List AV)) (cap : Option Nat) (i m1 m2 : Int) (R : Tm) (B : Blk) (nm : List UInt8) (a b : Fld) (Q : AV → List Blk → Prop) (X : Ex → St → Prop) : execP CV (noCon CV) (n+40) { op := hA (.ro 1 es cap) i m1 m2 false, inl := inlV } bA (stA false B nm 5 0 [a, b] R) (KQ Q X) =
  skipR es cap i m1 5 R (148 = 148 ∧ ([] : List (FuncId × List AV)) = [] ∧ Q (intN (IntKind.i64.wrap (5 + 1))) (heapA false B nm 0 [a, b])) := by kernel_rfl
theorem gr_f52 (n : Nat) (es : List (List AV)) (cap : Option Nat) (i m1 m2 : Int) (R : Tm) (B : Blk) (nm : List UInt8) (a b : Fld) (Q : AV → List Blk → Prop) (X : Ex → St → Prop) : execP CV (noCon CV) (n+40) { op := hA (.ro 1 es cap) i m1 m2 true, inl := inlV } bA (stA false B nm 5 0 [a, b] R) (KQ Q X) =
  growR es cap i m1 m2 5 R (148 = 148 ∧ ([] : List (FuncId × List AV)) = [] ∧ Q (intN (IntKind.i64.wrap (5 + 1))) (heapA false B nm 1 [a, b, (nameK 5, kindK m2 5)])) := by kernel_rfl
theorem sk_f53 (n : Nat) (es : List (List AV)) (cap : Option Nat) (i m1 m2 : Int) (R : Tm) (B : Blk) (nm : List UInt8) (a b c : Fld) (Q : AV → List Blk → Prop) (X : Ex → St → Prop) : execP CV (noCon CV) (n+40) { op := hA (.ro 1 es cap) i m1 m2 false, inl := inlV } bA (stA false B nm 5 0 [a, b, c] R) (KQ Q X) =
  skipR es cap i m1 5 R (148 = 148 ∧ ([] : List (FuncId × List AV)) = [] ∧ Q (intN (IntKind.i64.wrap (5 + 1))) (heapA false B nm 0 [a, b, c])) := by kernel_rfl
theorem gr_f53 (n : Nat) (es : List (List AV)) (cap : Option Nat) (i m1 m2 : Int) (R : Tm) (B : Blk) (nm : List UInt8) (a b c : Fld) (Q : AV → List Blk → Prop) (X : Ex → St → Prop) : execP CV (noCon CV) (n+40) { op := hA (.ro 1 es cap) i m1 m2 true, inl := inlV } bA (stA false B nm 5 0 [a, b, c] R) (KQ Q X) =
  growR es cap i m1 m2 5 R (148 = 148 ∧ ([] : List (FuncId × List AV)) = [] ∧ Q (intN (IntKind.i64.wrap (5 + 1))) (heapA false B nm 1 [a, b, c, (nameK 5, kindK m2 5)])) := by kernel_rfl
theorem sk_f54 (n : Nat) (es : List (List AV)) (cap : Option Nat) (i m1 m2 : Int) (R : Tm) (B : Blk) (nm : List UInt8) (a b c d : Fld) (Q : AV → List Blk → Prop) (X : Ex → St → Prop) : execP CV (noCon CV) (n+40) { op := hA (.ro 1 es cap) i m1 m2 false, inl := inlV } bA (stA false B nm 5 0 [a, b, c, d] R) (KQ Q X) =
  skipR es cap i m1 5 R (148 = 148 ∧ ([] : List (FuncId × List AV)) = [] ∧ Q (intN (IntKind.i64.wrap (5 + 1))) (heapA false B nm 0 [a, b, c, d])) := by kernel_rfl
theorem gr_f54 (n : Nat) (es : List (List AV)) (cap : Option Nat) (i m1 m2 : Int) (R : Tm) (B : Blk) (nm : List UInt8) (a b c d : Fld) (Q : AV → List Blk → Prop) (X : Ex → St → Prop) : execP CV (noCon CV) (n+40) { op := hA (.ro 1 es cap) i m1 m2 true, inl := inlV } bA (stA false B nm 5 0 [a, b, c, d] R) (KQ Q X) =
  growR es cap i m1 m2 5 R (148 = 148 ∧ ([] : List (FuncId × List AV)) = [] ∧ Q (intN (IntKind.i64.wrap (5 + 1))) (heapA false B nm 1 [a, b, c, d, (nameK 5, kindK m2 5)])) := by kernel_rfl
theorem sk_f55 (n : Nat) (es : List (List AV)) (cap : Option Nat) (i m1 m2 : Int) (R : Tm) (B : Blk) (nm : List UInt8) (a b c d e : Fld) (Q : AV → List Blk → Prop) (X : Ex → St → Prop) : execP CV (noCon CV) (n+40) { op := hA (.ro 1 es cap) i m1 m2 false, inl := inlV } bA (stA false B nm 5 0 [a, b, c, d, e] R) (KQ Q X) =
  skipR es cap i m1 5 R (148 = 148 ∧ ([] : List (FuncId × List AV)) = [] ∧ Q (intN (IntKind.i64.wrap (5 + 1))) (heapA false B nm 0 [a, b, c, d, e])) := by kernel_rfl
theorem gr_f55 (n : Nat) (es : List (List AV)) (cap : Option Nat) (i m1 m2 : Int) (R : Tm) (B : Blk) (nm : List UInt8) (a b c d e : Fld) (Q : AV → List Blk → Prop) (X : Ex → St → Prop) : execP CV (noCon CV) (n+40) { op := hA (.ro 1 es cap) i m1 m2 true, inl := inlV } bA (stA false B nm 5 0 [a, b, c, d, e] R) (KQ Q X) =
  growR es cap i m1 m2 5 R (148 = 148 ∧ ([] : List (FuncId × List AV)) = [] ∧ Q (intN (IntKind.i64.wrap (5 + 1))) (heapA false B nm 1 [a, b, c, d, e, (nameK 5, kindK m2 5)])) := by kernel_rfl
theorem ex_f0 (n : Nat) (es : List (List AV)) (cap : Option Nat) (i m1 m2 : Int) (R : Tm) (B : Blk) (nm : List UInt8) (Q : AV → List Blk → Prop) (X : Ex → St → Prop) : execP CV (noCon CV) (n+40) { op := hA (.ro 1 es cap) i m1 m2 false, inl := inlV } bA (stA false B nm 6 0 [] R) (KQ Q X) =
  X (.exit 2) ⟨148, (31, .sc (.bool false)) :: (30, intN 6) :: tmpA false 6 R, heapA false B nm 0 [], []⟩ := by kernel_rfl
theorem ex_f1 (n : Nat) (es : List (List AV)) (cap : Option Nat) (i m1 m2 : Int) (R : Tm) (B : Blk) (nm : List UInt8) (a : Fld) (Q : AV → List Blk → Prop) (X : Ex → St → Prop) : execP CV (noCon CV) (n+40) { op := hA (.ro 1 es cap) i m1 m2 false, inl := inlV } bA (stA false B nm 6 0 [a] R) (KQ Q X) =
  X (.exit 2) ⟨148, (31, .sc (.bool false)) :: (30, intN 6) :: tmpA false 6 R, heapA false B nm 0 [a], []⟩ := by kernel_rfl
theorem ex_f2 (n : Nat) (es : List (List AV)) (cap : Option Nat) (i m1 m2 : Int) (R : Tm) (B : Blk) (nm : List UInt8) (a b : Fld) (Q : AV → List Blk → Prop) (X : Ex → St → Prop) : execP CV (noCon CV) (n+40) { op := hA (.ro 1 es cap) i m1 m2 false, inl := inlV } bA (stA false B nm 6 0 [a, b] R) (KQ Q X) =
  X (.exit 2) ⟨148, (31, .sc (.bool false)) :: (30, intN 6) :: tmpA false 6 R, heapA false B nm 0 [a, b], []⟩ := by kernel_rfl
theorem ex_f3 (n : Nat) (es : List (List AV)) (cap : Option Nat) (i m1 m2 : Int) (R : Tm) (B : Blk) (nm : List UInt8) (a b c : Fld) (Q : AV → List Blk → Prop) (X : Ex → St → Prop) : execP CV (noCon CV) (n+40) { op := hA (.ro 1 es cap) i m1 m2 false, inl := inlV } bA (stA false B nm 6 0 [a, b, c] R) (KQ Q X) =
  X (.exit 2) ⟨148, (31, .sc (.bool false)) :: (30, intN 6) :: tmpA false 6 R, heapA false B nm 0 [a, b, c], []⟩ := by kernel_rfl
theorem ex_f4 (n : Nat) (es : List (List AV)) (cap : Option Nat) (i m1 m2 : Int) (R : Tm) (B : Blk) (nm : List UInt8) (a b c d : Fld) (Q : AV → List Blk → Prop) (X : Ex → St → Prop) : execP CV (noCon CV) (n+40) { op := hA (.ro 1 es cap) i m1 m2 false, inl := inlV } bA (stA false B nm 6 0 [a, b, c, d] R) (KQ Q X) =
  X (.exit 2) ⟨148, (31, .sc (.bool false)) :: (30, intN 6) :: tmpA false 6 R, heapA false B nm 0 [a, b, c, d], []⟩ := by kernel_rfl
theorem ex_f5 (n : Nat) (es : List (List AV)) (cap : Option Nat) (i m1 m2 : Int) (R : Tm) (B : Blk) (nm : List UInt8) (a b c d e : Fld) (Q : AV → List Blk → Prop) (X : Ex → St → Prop) : execP CV (noCon CV) (n+40) { op := hA (.ro 1 es cap) i m1 m2 false, inl := inlV } bA (stA false B nm 6 0 [a, b, c, d, e] R) (KQ Q X) =
  X (.exit 2) ⟨148, (31, .sc (.bool false)) :: (30, intN 6) :: tmpA false 6 R, heapA false B nm 0 [a, b, c, d, e], []⟩ := by kernel_rfl
theorem ex_f6 (n : Nat) (es : List (List AV)) (cap : Option Nat) (i m1 m2 : Int) (R : Tm) (B : Blk) (nm : List UInt8) (a b c d e g : Fld) (Q : AV → List Blk → Prop) (X : Ex → St → Prop) : execP CV (noCon CV) (n+40) { op := hA (.ro 1 es cap) i m1 m2 false, inl := inlV } bA (stA false B nm 6 0 [a, b, c, d, e, g] R) (KQ Q X) =
  X (.exit 2) ⟨148, (31, .sc (.bool false)) :: (30, intN 6) :: tmpA false 6 R, heapA false B nm 0 [a, b, c, d, e, g], []⟩ := by kernel_rfl

end Go.Ai.Cm
