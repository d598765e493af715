/-
  CheckKinds: An operation is of one kind just if its operands are of one kind, the one that it takes.
-/
import Derived.Test.YtndloeajkfajnaaAiKinds1
set_option linter.unusedVariables false
set_option linter.unusedSimpArgs false
namespace Go.Ai
open Go.Proofs Go.RowKit

theorem treeKinds (w a b r x y : Int) (n : Bool) (K : CRes → List Blk → Prop) (hr : r = 0 ∨ r = 1 ∨ r = 2 ∨ r = 3 ∨ r = 4 ∨ r = 5 ∨ r = 6 ∨ r = 7 ∨ r = 8 ∨ r = 9 ∨ r = 10 ∨ r = 11 ∨ r = 12)
    (hx : x = 1 ∨ x = 2 ∨ x = 3) (hy : y = 1 ∨ y = 2 ∨ y = 3) : callP C14 (scr [(37, .int r), (43, .int x), (47, .int y)]) 100 11 [.sc (.int .u8 w), .sc (.int .u8 a), .sc (.int .u8 b), .sc (.bool n)] [] K =
  (w.tmod 13 = r ∧ IntKind.i64.wrap (1 + IntKind.i64.wrap (a.tmod 3)) = x ∧ IntKind.i64.wrap (1 + IntKind.i64.wrap (b.tmod 3)) = y ∧ bothP n (K (.ret (.sc (.bool true))) []) (K (.ret (.sc (.bool true))) [])) := by
  rcases hr with rfl | rfl | rfl | rfl | rfl | rfl | rfl | rfl | rfl | rfl | rfl | rfl | rfl <;> rcases hx with rfl | rfl | rfl <;> rcases hy with rfl | rfl | rfl <;> kernel_rfl

theorem kinds (w a b : Int) (n : Bool) (hw : 0 ≤ w) (ha : 0 ≤ a) (hb : 0 ≤ b) : ∃ S, callP C14 S 100 11 [.sc (.int .u8 w), .sc (.int .u8 a), .sc (.int .u8 b), .sc (.bool n)] [] fun r _ => r = .ret (.sc (.bool true)) := by
  have e1 : w.tmod 13 = w % 13 := Int.tmod_eq_emod_of_nonneg hw
  have e2 : a.tmod 3 = a % 3 := Int.tmod_eq_emod_of_nonneg ha
  have e3 : b.tmod 3 = b % 3 := Int.tmod_eq_emod_of_nonneg hb
  refine ex_tree (treeKinds w a b (w % 13) (1 + a % 3) (1 + b % 3) n _ (by omega) (by omega) (by omega)) ⟨e1, ?_, ?_, ?_⟩
  · rw [e2, wrap_i64, wrap_i64]; omega
  · rw [e3, wrap_i64, wrap_i64]; omega
  · cases n <;> exact rfl

end Go.Ai
