/-
  EXPRESSIONS THAT ARE NOT KNOWN: what binds by bytes tell of their fields.
-/
import Derived.Test.YtndloeajkfajnaaAiXp6
set_option linter.unusedVariables false
set_option linter.unusedSimpArgs false
namespace Go.Ai
open Go.Proofs Go.RowKit

def fieldsA : AV := .ro 1 [[strA1 107], [strA1 120]] (some 2)
def fieldsB : AV := .ro 1 [[strA1 107], [strA1 121], [strA1 115], [strA1 116]] (some 4)
def rowsXY (X Y : AV) : List (List AV) := [[strA1 97, fieldsA, X], [strA1 98, fieldsB, Y]]
def lastA (t : Int) (v w : Vl) : List AV := [.sc (.int .i64 t), .ro 3 [v.row, w.row] (some 2)]
def lastB (t : Int) (v w x y : Vl) : List AV := [.sc (.int .i64 t), .ro 3 [v.row, w.row, x.row, y.row] (some 4)]
def upTo (n : Nat) (r1 r2 l : List AV) : AV := match n with
  | 0 => .ro 2 [l] none
  | 1 => .ro 2 [r1, l] none
  | _ => .ro 2 [r1, r2, l] none

theorem treeRAk (n : Nat) (hn : n = 0 ∨ n = 1 ∨ n = 2) (r1 r2 : List AV) (t : Int) (v w : Vl) (Y : AV) (K : CRes → Prop) : callPC CS con103 s58 240 58 [.agg (leafC 1 0 0 [] [97] [107]), .ro 3 (rowsXY (upTo n r1 r2 (lastA t v w)) Y) (some 2)] [] (fun r _ => K r) = (v.wf ∧ K (.ret v.av)) := by
  rcases hn with rfl | rfl | rfl <;> kernel_rfl
theorem treeRAx (n : Nat) (hn : n = 0 ∨ n = 1 ∨ n = 2) (r1 r2 : List AV) (t : Int) (v w : Vl) (Y : AV) (K : CRes → Prop) : callPC CS con103 s58 240 58 [.agg (leafC 1 0 0 [] [97] [120]), .ro 3 (rowsXY (upTo n r1 r2 (lastA t v w)) Y) (some 2)] [] (fun r _ => K r) = (w.wf ∧ K (.ret w.av)) := by
  rcases hn with rfl | rfl | rfl <;> kernel_rfl
theorem treeRBk (n : Nat) (hn : n = 0 ∨ n = 1 ∨ n = 2) (ea : List (List AV)) (r1 r2 : List AV) (t : Int) (v w x y : Vl) (K : CRes → Prop) : callPC CS con103 s58 240 58 [.agg (leafC 1 0 0 [] [98] [107]), .ro 3 (rowsXY (.ro 2 ea none) (upTo n r1 r2 (lastB t v w x y))) (some 2)] [] (fun r _ => K r) = (v.wf ∧ K (.ret v.av)) := by
  rcases hn with rfl | rfl | rfl <;> kernel_rfl
theorem treeRBy (n : Nat) (hn : n = 0 ∨ n = 1 ∨ n = 2) (ea : List (List AV)) (r1 r2 : List AV) (t : Int) (v w x y : Vl) (K : CRes → Prop) : callPC CS con103 s58 240 58 [.agg (leafC 1 0 0 [] [98] [121]), .ro 3 (rowsXY (.ro 2 ea none) (upTo n r1 r2 (lastB t v w x y))) (some 2)] [] (fun r _ => K r) = (w.wf ∧ K (.ret w.av)) := by
  rcases hn with rfl | rfl | rfl <;> kernel_rfl
theorem treeRBs (n : Nat) (hn : n = 0 ∨ n = 1 ∨ n = 2) (ea : List (List AV)) (r1 r2 : List AV) (t : Int) (v w x y : Vl) (K : CRes → Prop) : callPC CS con103 s58 240 58 [.agg (leafC 1 0 0 [] [98] [115]), .ro 3 (rowsXY (.ro 2 ea none) (upTo n r1 r2 (lastB t v w x y))) (some 2)] [] (fun r _ => K r) = (x.wf ∧ K (.ret x.av)) := by
  rcases hn with rfl | rfl | rfl <;> kernel_rfl
theorem treeRBt (n : Nat) (hn : n = 0 ∨ n = 1 ∨ n = 2) (ea : List (List AV)) (r1 r2 : List AV) (t : Int) (v w x y : Vl) (K : CRes → Prop) : callPC CS con103 s58 240 58 [.agg (leafC 1 0 0 [] [98] [116]), .ro 3 (rowsXY (.ro 2 ea none) (upTo n r1 r2 (lastB t v w x y))) (some 2)] [] (fun r _ => K r) = (y.wf ∧ K (.ret y.av)) := by
  rcases hn with rfl | rfl | rfl <;> kernel_rfl
theorem treeRB0 (f : UInt8) (hf : f = 107 ∨ f = 121 ∨ f = 115 ∨ f = 116) (ea : List (List AV)) (K : CRes → Prop) : callPC CS con103 s58 240 58 [.agg (leafC 1 0 0 [] [98] [f]), .ro 3 (rowsXY (.ro 2 ea none) (.sc (.slice none 0 0))) (some 2)] [] (fun r _ => K r) = K (.pan giveUp) := by
  rcases hf with rfl | rfl | rfl | rfl <;> kernel_rfl
theorem treeRBn (ea eb : List (List AV)) (K : CRes → Prop) : callPC CS con103 s58 240 58 [.agg (leafC 2 0 0 [] [98] []), .ro 3 (rowsXY (.ro 2 ea none) (.ro 2 eb none)) (some 2)] [] (fun r _ => K r) = K (.ret (avV 1 eb.length [])) := by kernel_rfl
theorem treeRBn0 (ea : List (List AV)) (K : CRes → Prop) : callPC CS con103 s58 240 58 [.agg (leafC 2 0 0 [] [98] []), .ro 3 (rowsXY (.ro 2 ea none) (.sc (.slice none 0 0))) (some 2)] [] (fun r _ => K r) = K (.ret (avV 1 0 [])) := by kernel_rfl

end Go.Ai
