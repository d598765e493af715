/-
  CheckCommon: slices.Contains, stream.At over lists of fields.
-/
import Derived.Test.YtndloeajkfajnaaAiCm0
set_option linter.unusedVariables false
set_option linter.unusedSimpArgs false
namespace Go.Ai.Cm
open Go.Proofs Go.RowKit

def h102 (f d : Nat) : Option Hint := if f = 102 then (if d = 16 then some (.eqvF eqF) else none) else none

/-- One after another: is it the same? -/
def hasR (f : List UInt8 × Int) : List (List UInt8 × Int) → (Bool → Prop) → Prop
  | [], K => K false
  | g :: fs, K => eq102 (fieldA f) (fieldA g) ∧ bothQ (eqF (fieldA f) (fieldA g)) (K true) (hasR f fs K)
/-- One after another: has it the name? -/
def atR (nm : List UInt8) : List (List UInt8 × Int) → Nat → (Int → Prop) → Prop
  | [], _, K => K (-1)
  | g :: fs, i, K => bothQ (eqBytes g.1 nm) (K i) (atR nm fs (i + 1) K)

theorem tree73_0 (f : List UInt8 × Int) (K : CRes → Prop) : callP CV { inl := inlV, sub := h102 } 100 73 [listC [], fieldA f] [] (fun r _ => K r) = hasR f [] (fun x => K (.ret (.sc (.bool x)))) := by kernel_rfl
theorem tree73_1 (f : List UInt8 × Int) (a : List UInt8 × Int) (K : CRes → Prop) : callP CV { inl := inlV, sub := h102 } 100 73 [listC [a], fieldA f] [] (fun r _ => K r) = hasR f [a] (fun x => K (.ret (.sc (.bool x)))) := by kernel_rfl
theorem tree73_2 (f : List UInt8 × Int) (a b : List UInt8 × Int) (K : CRes → Prop) : callP CV { inl := inlV, sub := h102 } 100 73 [listC [a, b], fieldA f] [] (fun r _ => K r) = hasR f [a, b] (fun x => K (.ret (.sc (.bool x)))) := by kernel_rfl
theorem tree73_3 (f : List UInt8 × Int) (a b c : List UInt8 × Int) (K : CRes → Prop) : callP CV { inl := inlV, sub := h102 } 100 73 [listC [a, b, c], fieldA f] [] (fun r _ => K r) = hasR f [a, b, c] (fun x => K (.ret (.sc (.bool x)))) := by kernel_rfl
theorem tree73_4 (f : List UInt8 × Int) (a b c d : List UInt8 × Int) (K : CRes → Prop) : callP CV { inl := inlV, sub := h102 } 100 73 [listC [a, b, c, d], fieldA f] [] (fun r _ => K r) = hasR f [a, b, c, d] (fun x => K (.ret (.sc (.bool x)))) := by kernel_rfl
theorem tree73_5 (f : List UInt8 × Int) (a b c d e : List UInt8 × Int) (K : CRes → Prop) : callP CV { inl := inlV, sub := h102 } 100 73 [listC [a, b, c, d, e], fieldA f] [] (fun r _ => K r) = hasR f [a, b, c, d, e] (fun x => K (.ret (.sc (.bool x)))) := by kernel_rfl
theorem tree73_6 (f : List UInt8 × Int) (a b c d e g : List UInt8 × Int) (K : CRes → Prop) : callP CV { inl := inlV, sub := h102 } 100 73 [listC [a, b, c, d, e, g], fieldA f] [] (fun r _ => K r) = hasR f [a, b, c, d, e, g] (fun x => K (.ret (.sc (.bool x)))) := by kernel_rfl
theorem tree45_0 (sn nm : List UInt8) (K : CRes → Prop) : callP CV { inl := inlV } 100 45 [.agg [strN sn, listC []], strN nm] [] (fun r _ => K r) = atR nm [] 0 (fun x => K (.ret (intN x))) := by kernel_rfl
theorem tree45_1 (sn nm : List UInt8) (a : List UInt8 × Int) (K : CRes → Prop) : callP CV { inl := inlV } 100 45 [.agg [strN sn, listC [a]], strN nm] [] (fun r _ => K r) = atR nm [a] 0 (fun x => K (.ret (intN x))) := by kernel_rfl
theorem tree45_2 (sn nm : List UInt8) (a b : List UInt8 × Int) (K : CRes → Prop) : callP CV { inl := inlV } 100 45 [.agg [strN sn, listC [a, b]], strN nm] [] (fun r _ => K r) = atR nm [a, b] 0 (fun x => K (.ret (intN x))) := by kernel_rfl
theorem tree45_3 (sn nm : List UInt8) (a b c : List UInt8 × Int) (K : CRes → Prop) : callP CV { inl := inlV } 100 45 [.agg [strN sn, listC [a, b, c]], strN nm] [] (fun r _ => K r) = atR nm [a, b, c] 0 (fun x => K (.ret (intN x))) := by kernel_rfl
theorem tree45_4 (sn nm : List UInt8) (a b c d : List UInt8 × Int) (K : CRes → Prop) : callP CV { inl := inlV } 100 45 [.agg [strN sn, listC [a, b, c, d]], strN nm] [] (fun r _ => K r) = atR nm [a, b, c, d] 0 (fun x => K (.ret (intN x))) := by kernel_rfl
theorem tree45_5 (sn nm : List UInt8) (a b c d e : List UInt8 × Int) (K : CRes → Prop) : callP CV { inl := inlV } 100 45 [.agg [strN sn, listC [a, b, c, d, e]], strN nm] [] (fun r _ => K r) = atR nm [a, b, c, d, e] 0 (fun x => K (.ret (intN x))) := by kernel_rfl
theorem tree45_6 (sn nm : List UInt8) (a b c d e g : List UInt8 × Int) (K : CRes → Prop) : callP CV { inl := inlV } 100 45 [.agg [strN sn, listC [a, b, c, d, e, g]], strN nm] [] (fun r _ => K r) = atR nm [a, b, c, d, e, g] 0 (fun x => K (.ret (intN x))) := by kernel_rfl

end Go.Ai.Cm
