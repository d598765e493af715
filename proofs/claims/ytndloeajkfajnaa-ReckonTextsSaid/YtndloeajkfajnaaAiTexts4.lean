/-
  ReckonTexts, its second loop: what it leaves.
-/
import Derived.Test.YtndloeajkfajnaaAiTexts3
set_option linter.unusedVariables false
set_option linter.unusedSimpArgs false
namespace Go.Ai
open Go.Proofs Go.RowKit

def byteRow (c : Int) : List AV := [.sc (.int .u8 c)]
def partY (q i : Nat) : List (List AV) := List.replicate i (byteRow 121) ++ List.replicate (q - i) (byteRow 0)

theorem partY_length {q i : Nat} (h : i ≤ q) : (partY q i).length = q := by
  unfold partY
  simp
  omega

theorem partY_get {q i : Nat} (h : i < q) : (partY q i)[i]? = some (byteRow 0) := by
  unfold partY
  rw [List.getElem?_append_right (by simp), List.length_replicate, Nat.sub_self, List.getElem?_replicate, if_pos (by omega)]

theorem partY_set {q i : Nat} (h : i < q) : (partY q i).set i (byteRow 121) = partY q (i + 1) := by
  unfold partY
  rw [List.set_append_right _ _ (by simp)]
  simp only [List.length_replicate, Nat.sub_self]
  obtain ⟨r, hr⟩ : ∃ r, q - i = r + 1 := ⟨q - i - 1, by omega⟩
  have hr2 : q - (i + 1) = r := by omega
  rw [hr, hr2, List.replicate_succ, List.set_cons_zero, List.replicate_succ']
  simp

/-- What is told of the loop. -/
def TY (two : Bool) (q : Nat) (X : Blk) (R : Tm) (st : St) (K : Ex → St → Prop) : Prop :=
  st = atY false two 0 q X (List.replicate q (byteRow 0)) R ∧ q ≤ 64 ∧ carried ((10, .sc (.int .i64 0)) :: (9, slY two q) :: R) (writes byy) [] = [10] ∧
  (q = 0 → K (.exit 2) (outY false two 0 q X [] R)) ∧ (∀ i : Int, K (.exit 2) (outY true two i q X (List.replicate q (byteRow 121)) R))

theorem loopY (n : Nat) (two : Bool) (q : Nat) (X : Blk) (R : Tm) : LoopOK CT (n + 100) byy (TY two q X R) := by
  refine loopOK_of fun st K hT => ?_
  obtain ⟨rfl, hq, hc, h0, hs⟩ := hT
  refine ⟨fun m st => ∃ (i : Nat) (pre : Bool), i ≤ q ∧ m = q - i ∧ (pre = false → i = 0) ∧ st = atY pre two i q X (partY q i) R, q, by omega, ⟨0, false, by omega, rfl, fun _ => rfl, by simp [partY]⟩, ?_⟩
  rintro m st ⟨i, pre, h1, rfl, hpre, rfl⟩
  by_cases hi : i < q
  · have hj : IntKind.i64.wrap ((i : Int) + 1) = ((i + 1 : Nat) : Int) := by rw [wrap_i64]; omega
    have hn : ((i : Int)).toNat = i := by omega
    have ha : addrY two i q X (partY q i) := by
      unfold addrY
      rw [if_neg (by omega), hn, partY_length h1, if_pos ⟨by trivial, by trivial, hi, by omega⟩]
      rfl
    have hst : storeY two i X (partY q i) (partY q (i + 1)) := by
      unfold storeY
      rw [hn, Nat.zero_add, partY_get hi]
      simp only
      rw [if_pos ⟨by trivial, by trivial, by simp [byteRow]⟩, show putRow (byteRow 0) 0 [AV.sc (.int .u8 121)] = byteRow 121 from rfl, partY_set hi]
      rfl
    have step := stepY (n + 80) pre two i ((i + 1 : Nat) : Int) q X (partY q i) (partY q (i + 1)) R
      (fun e st' => match e with | .normal => ∃ m', m' < q - i ∧ ∃ (i : Nat) (pre : Bool), i ≤ q ∧ m' = q - i ∧ (pre = false → i = 0) ∧ headOf byy (atY false two 0 q X (List.replicate q (byteRow 0)) R) st' = atY pre two i q X (partY q i) R | e => K e st')
    refine execP_tree step ⟨decide_eq_true (by omega), ha, hst, hj, q - (i + 1), by omega, i + 1, true, by omega, rfl, (fun h => by cases h), ?_⟩
    unfold headOf
    rw [show (atY false two 0 q X (List.replicate q (byteRow 0)) R).tmps = (10, .sc (.int .i64 0)) :: (9, slY two q) :: R from rfl, hc]
    cases two <;> rfl
  · have hiq : i = q := by omega
    have step := exitY (n + 80) pre two i q X (partY q i) R
      (fun e st' => match e with | .normal => ∃ m', m' < q - i ∧ ∃ (i : Nat) (pre : Bool), i ≤ q ∧ m' = q - i ∧ (pre = false → i = 0) ∧ headOf byy (atY false two 0 q X (List.replicate q (byteRow 0)) R) st' = atY pre two i q X (partY q i) R | e => K e st')
    refine execP_tree step ⟨decide_eq_false (by omega), ?_⟩
    have hp : partY q i = List.replicate q (byteRow 121) := by rw [hiq]; simp [partY]
    cases pre with
    | false =>
      have hz := hpre rfl
      have hq0 : q = 0 := by omega
      subst hz
      have := h0 hq0
      rw [hp, hq0]
      rw [hq0] at this
      exact this
    | true =>
      rw [hp]
      exact hs i

end Go.Ai
