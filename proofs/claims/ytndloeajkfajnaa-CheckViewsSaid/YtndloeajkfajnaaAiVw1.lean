/-
  CheckViews: stream.At, check.View, event.Same, one.
-/
import Derived.Test.YtndloeajkfajnaaAiVw0
set_option linter.unusedVariables false
set_option linter.unusedSimpArgs false
namespace Go.Ai
open Go.Proofs Go.RowKit

def at45 (n : Nat) (S : List AV) (nm : List UInt8) (p : Int → Prop) : Prop := isDataL S = true ∧ ∃ i : Int, ToEndV n 45 [.agg S, strN nm] (.ret (intN i)) ∧ p i
def streamC (nm : List UInt8) (rows : List (List AV)) (cap : Option Nat) : List AV := [strN nm, .ro 2 rows cap]
def idxE (rows : List (List AV)) (i : Int) (row : List AV) : Prop := (if i < 0 then none else (rows[i.toNat]?).map fun row => AV.rp row 0) = some (.rp row 0)

def rowsF (fn : Nat → List UInt8) (fk : Nat → Int) : Nat → Nat → List (List AV) → List (List AV)
  | 0, _, tail => tail
  | m + 1, k, tail => fieldRow (fn k) (fk k) :: rowsF fn fk m (k + 1) tail
def rowsV (vl : Nat → Vl) : Nat → Nat → List (List AV) → List (List AV)
  | 0, _, tail => tail
  | m + 1, k, tail => (vl k).row :: rowsV vl m (k + 1) tail

/-! ### View -/

def h48 (r : Nat) (vl : Nat → Vl) (d : Nat) : Option Hint := if d = 29 then some (.bitN 8 fun k => Nat.blt k r) else if d = 35 then some (.bit true) else if d = 43 then some (.idxN 8 fun k => (vl k).row) else none

def viewR (n : Nat) (S : List AV) (fn : Nat → List UInt8) (erows : List (List AV)) (vl : Nat → Vl) : Nat → Nat → Prop → Prop
  | 0, _, next => next
  | m + 1, k, next => at45 n S (fn k) fun i => decide (i ≥ 0) = true ∧ decide (i < erows.length) = true ∧ idxE erows i (vl k).row ∧ viewR n S fn erows vl m (k + 1) next

def noneN : List UInt8 := [110, 111, 110, 101]

theorem tree48f2 (n : Nat) (sn : List UInt8) (srows : List (List AV)) (scap : Option Nat) (fn : Nat → List UInt8) (fk : Nat → Int) (fcap : Option Nat) (t : Int) (erows : List (List AV)) (ecap : Option Nat) (vl : Nat → Vl) (K : AV → Prop) : callPC CV con45 { op := h48 2 vl, inl := inlV } (n+100) 48 [streamA sn srows scap, .ro 2 (rowsF fn fk 2 0 []) fcap, eventA t erows ecap] [] (resZ K) =
  viewR (n+87) (streamC sn srows scap) fn erows vl 2 0 (K (eventA t (rowsV vl 2 0 []) (some 2))) := by kernel_rfl
theorem tree48f3 (n : Nat) (sn : List UInt8) (srows : List (List AV)) (scap : Option Nat) (fn : Nat → List UInt8) (fk : Nat → Int) (fcap : Option Nat) (t : Int) (erows : List (List AV)) (ecap : Option Nat) (vl : Nat → Vl) (K : AV → Prop) : callPC CV con45 { op := h48 3 vl, inl := inlV } (n+100) 48 [streamA sn srows scap, .ro 2 (rowsF fn fk 3 0 []) fcap, eventA t erows ecap] [] (resZ K) =
  viewR (n+87) (streamC sn srows scap) fn erows vl 3 0 (K (eventA t (rowsV vl 3 0 []) (some 3))) := by kernel_rfl
theorem tree48n0 (n : Nat) (sn : List UInt8) (srows : List (List AV)) (scap : Option Nat) (fn : Nat → List UInt8) (fk : Nat → Int) (fcap : Option Nat) (t : Int) (erows : List (List AV)) (ecap : Option Nat) (vl : Nat → Vl) (K : AV → Prop) : callPC CV con45 { op := h48 0 vl, inl := inlV } (n+100) 48 [streamA sn srows scap, .ro 2 (rowsF fn fk 0 0 [fieldRow noneN 1]) fcap, eventA t erows ecap] [] (resZ K) =
  viewR (n+87) (streamC sn srows scap) fn erows vl 0 0 (at45 (n+87) (streamC sn srows scap) noneN fun i => decide (i ≥ 0) = false ∧ K (eventA t (rowsV vl 0 0 [[intN 0, intN 0, strN []]]) (some 1))) := by kernel_rfl
theorem tree48n1 (n : Nat) (sn : List UInt8) (srows : List (List AV)) (scap : Option Nat) (fn : Nat → List UInt8) (fk : Nat → Int) (fcap : Option Nat) (t : Int) (erows : List (List AV)) (ecap : Option Nat) (vl : Nat → Vl) (K : AV → Prop) : callPC CV con45 { op := h48 1 vl, inl := inlV } (n+100) 48 [streamA sn srows scap, .ro 2 (rowsF fn fk 1 0 [fieldRow noneN 1]) fcap, eventA t erows ecap] [] (resZ K) =
  viewR (n+87) (streamC sn srows scap) fn erows vl 1 0 (at45 (n+87) (streamC sn srows scap) noneN fun i => decide (i ≥ 0) = false ∧ K (eventA t (rowsV vl 1 0 [[intN 0, intN 0, strN []]]) (some 2))) := by kernel_rfl
theorem tree48n2 (n : Nat) (sn : List UInt8) (srows : List (List AV)) (scap : Option Nat) (fn : Nat → List UInt8) (fk : Nat → Int) (fcap : Option Nat) (t : Int) (erows : List (List AV)) (ecap : Option Nat) (vl : Nat → Vl) (K : AV → Prop) : callPC CV con45 { op := h48 2 vl, inl := inlV } (n+100) 48 [streamA sn srows scap, .ro 2 (rowsF fn fk 2 0 [fieldRow noneN 1]) fcap, eventA t erows ecap] [] (resZ K) =
  viewR (n+87) (streamC sn srows scap) fn erows vl 2 0 (at45 (n+87) (streamC sn srows scap) noneN fun i => decide (i ≥ 0) = false ∧ K (eventA t (rowsV vl 2 0 [[intN 0, intN 0, strN []]]) (some 3))) := by kernel_rfl
theorem tree48n3 (n : Nat) (sn : List UInt8) (srows : List (List AV)) (scap : Option Nat) (fn : Nat → List UInt8) (fk : Nat → Int) (fcap : Option Nat) (t : Int) (erows : List (List AV)) (ecap : Option Nat) (vl : Nat → Vl) (K : AV → Prop) : callPC CV con45 { op := h48 3 vl, inl := inlV } (n+100) 48 [streamA sn srows scap, .ro 2 (rowsF fn fk 3 0 [fieldRow noneN 1]) fcap, eventA t erows ecap] [] (resZ K) =
  viewR (n+87) (streamC sn srows scap) fn erows vl 3 0 (at45 (n+87) (streamC sn srows scap) noneN fun i => decide (i ≥ 0) = false ∧ K (eventA t (rowsV vl 3 0 [[intN 0, intN 0, strN []]]) (some 4))) := by kernel_rfl
theorem tree48n4 (n : Nat) (sn : List UInt8) (srows : List (List AV)) (scap : Option Nat) (fn : Nat → List UInt8) (fk : Nat → Int) (fcap : Option Nat) (t : Int) (erows : List (List AV)) (ecap : Option Nat) (vl : Nat → Vl) (K : AV → Prop) : callPC CV con45 { op := h48 4 vl, inl := inlV } (n+100) 48 [streamA sn srows scap, .ro 2 (rowsF fn fk 4 0 [fieldRow noneN 1]) fcap, eventA t erows ecap] [] (resZ K) =
  viewR (n+87) (streamC sn srows scap) fn erows vl 4 0 (at45 (n+87) (streamC sn srows scap) noneN fun i => decide (i ≥ 0) = false ∧ K (eventA t (rowsV vl 4 0 [[intN 0, intN 0, strN []]]) (some 5))) := by kernel_rfl
theorem tree48n5 (n : Nat) (sn : List UInt8) (srows : List (List AV)) (scap : Option Nat) (fn : Nat → List UInt8) (fk : Nat → Int) (fcap : Option Nat) (t : Int) (erows : List (List AV)) (ecap : Option Nat) (vl : Nat → Vl) (K : AV → Prop) : callPC CV con45 { op := h48 5 vl, inl := inlV } (n+100) 48 [streamA sn srows scap, .ro 2 (rowsF fn fk 5 0 [fieldRow noneN 1]) fcap, eventA t erows ecap] [] (resZ K) =
  viewR (n+87) (streamC sn srows scap) fn erows vl 5 0 (at45 (n+87) (streamC sn srows scap) noneN fun i => decide (i ≥ 0) = false ∧ K (eventA t (rowsV vl 5 0 [[intN 0, intN 0, strN []]]) (some 6))) := by kernel_rfl
theorem tree48n6 (n : Nat) (sn : List UInt8) (srows : List (List AV)) (scap : Option Nat) (fn : Nat → List UInt8) (fk : Nat → Int) (fcap : Option Nat) (t : Int) (erows : List (List AV)) (ecap : Option Nat) (vl : Nat → Vl) (K : AV → Prop) : callPC CV con45 { op := h48 6 vl, inl := inlV } (n+100) 48 [streamA sn srows scap, .ro 2 (rowsF fn fk 6 0 [fieldRow noneN 1]) fcap, eventA t erows ecap] [] (resZ K) =
  viewR (n+87) (streamC sn srows scap) fn erows vl 6 0 (at45 (n+87) (streamC sn srows scap) noneN fun i => decide (i ≥ 0) = false ∧ K (eventA t (rowsV vl 6 0 [[intN 0, intN 0, strN []]]) (some 7))) := by kernel_rfl
theorem tree48n7 (n : Nat) (sn : List UInt8) (srows : List (List AV)) (scap : Option Nat) (fn : Nat → List UInt8) (fk : Nat → Int) (fcap : Option Nat) (t : Int) (erows : List (List AV)) (ecap : Option Nat) (vl : Nat → Vl) (K : AV → Prop) : callPC CV con45 { op := h48 7 vl, inl := inlV } (n+100) 48 [streamA sn srows scap, .ro 2 (rowsF fn fk 7 0 [fieldRow noneN 1]) fcap, eventA t erows ecap] [] (resZ K) =
  viewR (n+87) (streamC sn srows scap) fn erows vl 7 0 (at45 (n+87) (streamC sn srows scap) noneN fun i => decide (i ≥ 0) = false ∧ K (eventA t (rowsV vl 7 0 [[intN 0, intN 0, strN []]]) (some 8))) := by kernel_rfl
theorem tree48n8 (n : Nat) (sn : List UInt8) (srows : List (List AV)) (scap : Option Nat) (fn : Nat → List UInt8) (fk : Nat → Int) (fcap : Option Nat) (t : Int) (erows : List (List AV)) (ecap : Option Nat) (vl : Nat → Vl) (K : AV → Prop) : callPC CV con45 { op := h48 8 vl, inl := inlV } (n+100) 48 [streamA sn srows scap, .ro 2 (rowsF fn fk 8 0 [fieldRow noneN 1]) fcap, eventA t erows ecap] [] (resZ K) =
  viewR (n+87) (streamC sn srows scap) fn erows vl 8 0 (at45 (n+87) (streamC sn srows scap) noneN fun i => decide (i ≥ 0) = false ∧ K (eventA t (rowsV vl 8 0 [[intN 0, intN 0, strN []]]) (some 9))) := by kernel_rfl

/-! ### Same -/

def h49 (d : Nat) : Option Hint := if d = 9 then some (.bit true) else none
def h76 (f d : Nat) : Option Hint := if f = 76 then (if d = 24 then some (.eqv false) else none) else none
def ne76 (v : Vl) : Prop := binA Try.prog .neq 23 (.tmp 19) (.tmp 23) v.av v.av = some (.sc (.bool false))

theorem tree49a (t : Int) (v w : Vl) (c c' : Option Nat) (K : CRes → Prop) : callP CV { op := h49, inl := inlV, sub := h76 } 100 49 [eventA t [v.row, w.row] c, eventA t [v.row, w.row] c'] [] (fun r _ => K r) = ((t == t) = true ∧ ne76 v ∧ ne76 w ∧ K (.ret (.sc (.bool true)))) := by kernel_rfl
theorem tree49b (t : Int) (v w x : Vl) (c c' : Option Nat) (K : CRes → Prop) : callP CV { op := h49, inl := inlV, sub := h76 } 100 49 [eventA t [v.row, w.row, x.row] c, eventA t [v.row, w.row, x.row] c'] [] (fun r _ => K r) = ((t == t) = true ∧ ne76 v ∧ ne76 w ∧ ne76 x ∧ K (.ret (.sc (.bool true)))) := by kernel_rfl

/-! ### one -/

def shortT (s : ByteArray) : Prop := s.data.toList.length ≤ 64
def h47 (lb : Nat → Int) (d : Nat) : Option Hint := if d = 29 then some (.idxN 8 fun k => [.sc (.int .u8 (lb k))]) else if d = 43 then some (.idxSP shortT) else none
def h47n (d : Nat) : Option Hint := if d = 24 then some (.bit false) else if d = 43 then some (.idxSP shortT) else none
def pick4 (i : Int) : Prop := ∃ z, (if i < 0 then none else ((([[], [97], [98], [97, 98]] : List (List UInt8)).map fun x => [AV.sc (.string ⟨⟨x⟩⟩)])[i.toNat]?).map fun row => AV.rp row 0) = some (AV.rp [AV.sc (.string z)] 0) ∧ shortT z

def valR (kd : Nat) (b : Int) (k : List AV → Prop) : Prop := match kd with
  | 1 => k [intN 1, intN (IntKind.i64.wrap (b - 100)), strN []]
  | 2 => k [intN 2, intN (b.tmod 2), strN []]
  | _ => pick4 (b.tmod 4) ∧ ∀ s : ByteArray, shortT s → k [intN 3, intN 0, .sc (.string s)]

def oneR (es : List (List AV)) (at_ : Int) (lb : Nat → Int) : List Nat → Nat → List (List AV) → (List (List AV) → Prop) → Prop
  | [], _, acc, K => K acc
  | kd :: fs, i, acc, K => bothQ (decide (IntKind.i64.wrap (at_ + i) < es.length)) (idxE es (IntKind.i64.wrap (at_ + i)) [.sc (.int .u8 (lb i))] ∧ valR kd (IntKind.i64.wrap (lb i)) fun row => oneR es at_ lb fs (i + 1) (acc ++ [row]) K)
      (valR kd 0 fun row => oneR es at_ lb fs (i + 1) (acc ++ [row]) K)
def oneN (at_ : Int) : List Nat → Nat → List (List AV) → (List (List AV) → Prop) → Prop
  | [], _, acc, K => K acc
  | kd :: fs, i, acc, K => decide (IntKind.i64.wrap (at_ + i) < ((0 : Nat) : Int)) = false ∧ valR kd 0 fun row => oneN at_ fs (i + 1) (acc ++ [row]) K

def kindsOf : List (List UInt8 × Nat) → List Nat := fun l => l.map (·.2)
def fieldsJ (j : Nat) : List (List UInt8 × Nat) := match j with
  | 0 => [([107], 1), ([120], 1)]
  | 1 => [([107], 1), ([121], 1), ([115], 3)]
  | _ => [([107], 1), ([120], 1), ([116], 2)]
def nameJ (j : Nat) : List UInt8 := match j with
  | 0 => [65]
  | 1 => [66]
  | _ => [67]
def rowsJ (j : Nat) : List (List AV) := (fieldsJ j).map fun p => fieldRow p.1 p.2
def streamJ (j : Nat) : AV := streamA (nameJ j) (rowsJ j) (some (fieldsJ j).length)

theorem tree47_0 (n : Nat) (es : List (List AV)) (cap : Option Nat) (at_ : Int) (lb : Nat → Int) (K : AV → Prop) : callPC CV (noCon CV) { op := h47 lb, inl := inlV } (n+100) 47 [streamJ 0, .ro 1 es cap, intN at_] [] (resZ K) = oneR es at_ lb (kindsOf (fieldsJ 0)) 0 [] (fun rows => K (eventA at_ rows none)) := by kernel_rfl
theorem tree47n_0 (n : Nat) (at_ : Int) (K : AV → Prop) : callPC CV (noCon CV) { op := h47n, inl := inlV } (n+100) 47 [streamJ 0, .sc (.slice none 0 0), intN at_] [] (resZ K) = oneN at_ (kindsOf (fieldsJ 0)) 0 [] (fun rows => K (eventA at_ rows none)) := by kernel_rfl
theorem tree47_1 (n : Nat) (es : List (List AV)) (cap : Option Nat) (at_ : Int) (lb : Nat → Int) (K : AV → Prop) : callPC CV (noCon CV) { op := h47 lb, inl := inlV } (n+100) 47 [streamJ 1, .ro 1 es cap, intN at_] [] (resZ K) = oneR es at_ lb (kindsOf (fieldsJ 1)) 0 [] (fun rows => K (eventA at_ rows none)) := by kernel_rfl
theorem tree47n_1 (n : Nat) (at_ : Int) (K : AV → Prop) : callPC CV (noCon CV) { op := h47n, inl := inlV } (n+100) 47 [streamJ 1, .sc (.slice none 0 0), intN at_] [] (resZ K) = oneN at_ (kindsOf (fieldsJ 1)) 0 [] (fun rows => K (eventA at_ rows none)) := by kernel_rfl
theorem tree47_2 (n : Nat) (es : List (List AV)) (cap : Option Nat) (at_ : Int) (lb : Nat → Int) (K : AV → Prop) : callPC CV (noCon CV) { op := h47 lb, inl := inlV } (n+100) 47 [streamJ 2, .ro 1 es cap, intN at_] [] (resZ K) = oneR es at_ lb (kindsOf (fieldsJ 2)) 0 [] (fun rows => K (eventA at_ rows none)) := by kernel_rfl
theorem tree47n_2 (n : Nat) (at_ : Int) (K : AV → Prop) : callPC CV (noCon CV) { op := h47n, inl := inlV } (n+100) 47 [streamJ 2, .sc (.slice none 0 0), intN at_] [] (resZ K) = oneN at_ (kindsOf (fieldsJ 2)) 0 [] (fun rows => K (eventA at_ rows none)) := by kernel_rfl

end Go.Ai
