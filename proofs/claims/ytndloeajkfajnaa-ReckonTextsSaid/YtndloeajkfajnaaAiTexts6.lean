/-
  ReckonTexts: what the law is told of its two loops.
-/
import Derived.Test.YtndloeajkfajnaaAiTexts5
set_option linter.unusedVariables false
set_option linter.unusedSimpArgs false
namespace Go.Ai
open Go.Proofs Go.RowKit

/-- The first loop, where something is left. -/
def TA (l xs : List UInt8) (long : Int) (k : Nat) (st : St) (K : Ex → St → Prop) : Prop :=
  entryX l long = st ∧ ∀ (i : Int) a b c d, K (.exit 0) (outX true i (.sl 0 0 0 k none) (rowsU l) (restX l long) [.cells 1 0 (rowsU xs) false] a b c d)

/-- The first loop, where nothing is left. -/
def TB (l : List UInt8) (long : Int) (st : St) (K : Ex → St → Prop) : Prop :=
  entryX l long = st ∧ (∀ a b c d, K (.exit 0) (outX false 0 (.sc (.slice none 0 0)) (rowsU l) (restX l long) [] a b c d)) ∧
    ∀ (i : Int) a b c d, K (.exit 0) (outX true i (.sc (.slice none 0 0)) (rowsU l) (restX l long) [] a b c d)

/-- The second loop, behind a block of the first. -/
def TC (xs : List UInt8) (q : Nat) (st : St) (K : Ex → St → Prop) : Prop := match st with
  | ⟨m, (p, .sc (.int .i64 z)) :: (p', .sl 1 0 0 a (some b)) :: R, [X, .cells 1 0 rows false], []⟩ =>
    m = 96 ∧ p = 10 ∧ z = 0 ∧ p' = 9 ∧ a = q ∧ b = q ∧ X = .cells 1 0 (rowsU xs) false ∧ rows = List.replicate q (byteRow 0) ∧ q ≤ 64 ∧ carried ((10, .sc (.int .i64 0)) :: (9, slY true q) :: R) (writes byy) [] = [10] ∧
      (q = 0 → K (.exit 2) ⟨96, (47, .sc (.bool false)) :: (46, .sc (.int .i64 q)) :: (45, slY true q) :: (44, .sc (.int .i64 0)) :: (10, .sc (.int .i64 0)) :: (9, slY true q) :: R, [.cells 1 0 (rowsU xs) false, .cells 1 0 [] false], []⟩) ∧
      ∀ i : Int, K (.exit 2) ⟨96, (47, .sc (.bool false)) :: (46, .sc (.int .i64 q)) :: (45, slY true q) :: (44, .sc (.int .i64 i)) :: (10, .sc (.int .i64 i)) :: (10, .sc (.int .i64 0)) :: (9, slY true q) :: R, [.cells 1 0 (rowsU xs) false, .cells 1 0 (List.replicate q (byteRow 121)) false], []⟩
  | _ => False

/-- The second loop, where nothing was left of the first. -/
def TD (q : Nat) (st : St) (K : Ex → St → Prop) : Prop := match st with
  | ⟨m, (p, .sc (.int .i64 z)) :: (p', .sl 0 0 0 a (some b)) :: R, [.cells 1 0 rows false], []⟩ =>
    m = 96 ∧ p = 10 ∧ z = 0 ∧ p' = 9 ∧ a = q ∧ b = q ∧ rows = List.replicate q (byteRow 0) ∧ q ≤ 64 ∧ carried ((10, .sc (.int .i64 0)) :: (9, slY false q) :: R) (writes byy) [] = [10] ∧
      (q = 0 → K (.exit 2) ⟨96, (47, .sc (.bool false)) :: (46, .sc (.int .i64 q)) :: (45, slY false q) :: (44, .sc (.int .i64 0)) :: (10, .sc (.int .i64 0)) :: (9, slY false q) :: R, [.cells 1 0 [] false], []⟩) ∧
      ∀ i : Int, K (.exit 2) ⟨96, (47, .sc (.bool false)) :: (46, .sc (.int .i64 q)) :: (45, slY false q) :: (44, .sc (.int .i64 i)) :: (10, .sc (.int .i64 i)) :: (10, .sc (.int .i64 0)) :: (9, slY false q) :: R, [.cells 1 0 (List.replicate q (byteRow 121)) false], []⟩
  | _ => False

theorem okA (n : Nat) (l : List UInt8) (long : Int) (h : kept l ≠ []) : LoopOK CT (n + 100) bx (TA l (kept l) long (kept l).length) := fun st K ⟨h1, h2⟩ =>
  loopX n l long st K ⟨h1.symm, fun _ _ _ _ hk => absurd hk h, fun _ _ _ _ _ hk => absurd hk h, fun i a b c d k _ hk => by rw [hk]; exact h2 i a b c d⟩

theorem okB (n : Nat) (l : List UInt8) (long : Int) (h : kept l = []) : LoopOK CT (n + 100) bx (TB l long) := fun st K ⟨h1, h2, h3⟩ =>
  loopX n l long st K ⟨h1.symm, fun a b c d _ => h2 a b c d, fun i a b c d _ => h3 i a b c d, fun _ _ _ _ _ _ hk => absurd h hk⟩

theorem okC (n : Nat) (xs : List UInt8) (q : Nat) : LoopOK CT (n + 100) byy (TC xs q) := fun st K h => by
  unfold TC at h
  split at h
  · rename_i m p z p' a b R X rows
    obtain ⟨rfl, rfl, rfl, rfl, rfl, rfl, rfl, rfl, hq, hc, h0, h1⟩ := h
    exact loopY n true _ (.cells 1 0 (rowsU xs) false) R _ K ⟨rfl, hq, hc, h0, h1⟩
  · exact h.elim

theorem okD (n : Nat) (q : Nat) : LoopOK CT (n + 100) byy (TD q) := fun st K h => by
  unfold TD at h
  split at h
  · rename_i m p z p' a b R rows
    obtain ⟨rfl, rfl, rfl, rfl, rfl, rfl, rfl, hq, hc, h0, h1⟩ := h
    exact loopY n false _ .res R _ K ⟨rfl, hq, hc, h0, h1⟩
  · exact h.elim

end Go.Ai
