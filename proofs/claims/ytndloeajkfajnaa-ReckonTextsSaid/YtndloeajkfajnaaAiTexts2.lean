/-
  ReckonTexts, its first loop: what it leaves.
-/
import Derived.Test.YtndloeajkfajnaaAiTexts1
set_option linter.unusedVariables false
set_option linter.unusedSimpArgs false
namespace Go.Ai
open Go.Proofs Go.RowKit

def keptAt (l : List UInt8) (i : Nat) : List UInt8 := (l.take i).filter fun b => b != 39
def kept (l : List UInt8) : List UInt8 := keptAt l 64

def XA : List UInt8 → AV
  | [] => .sc (.slice none 0 0)
  | x :: r => .sl 0 0 0 (x :: r).length none
def XH : List UInt8 → List Blk
  | [] => []
  | x :: r => [.cells 1 0 (rowsU (x :: r)) false]

theorem keptAt_succ {l : List UInt8} {i : Nat} {b : UInt8} (h : l[i]? = some b) : keptAt l (i + 1) = keptAt l i ++ (if b != 39 then [b] else []) := by
  unfold keptAt
  rw [List.take_add_one, h]
  simp only [Option.toList_some, List.filter_append]
  congr 1
  simp only [List.filter_cons, List.filter_nil]

theorem keptAt_le (l : List UInt8) (i : Nat) : (keptAt l i).length ≤ i := by
  unfold keptAt
  refine Nat.le_trans (List.length_filter_le _ _) ?_
  simp
  omega

theorem execP_tree {C : Ctx} {D : Con C} {S : Script} {n : Nat} {c : Code} {st : St} {K : Ex → St → Prop} {p : Prop} (h : execP C D n S c st K = p) (hp : p) : ∃ r, exec C n c st = some r ∧ K r.1 r.2 := by
  rw [← h] at hp
  exact execP_sound n S c st K hp

/-- What is told of the loop. -/
def TX (l : List UInt8) (long : Int) (st : St) (K : Ex → St → Prop) : Prop :=
  st = entryX l long ∧
  (∀ a b c d, kept l = [] → K (.exit 0) (outX false 0 (.sc (.slice none 0 0)) (rowsU l) (restX l long) [] a b c d)) ∧
  (∀ (i : Int) a b c d, kept l = [] → K (.exit 0) (outX true i (.sc (.slice none 0 0)) (rowsU l) (restX l long) [] a b c d)) ∧
  (∀ (i : Int) a b c d (k : Nat), kept l ≠ [] → k = (kept l).length → K (.exit 0) (outX true i (.sl 0 0 0 k none) (rowsU l) (restX l long) [.cells 1 0 (rowsU (kept l)) false] a b c d))

theorem head_at (l : List UInt8) (long : Int) (j : Int) (X : AV) (H : List Blk) : headX j X l long H = atX true j X (rowsU l) (restX l long) H := rfl

theorem readX_of {l : List UInt8} {i : Nat} {b : UInt8} (h : l[i]? = some b) (H : List Blk) : readX (rowsU l) i b.toNat H := by
  unfold readX
  rw [if_neg (by omega)]
  have : (rowsU l)[((i : Int)).toNat]? = some [AV.sc (.int .u8 b.toNat)] := by
    unfold rowsU
    simp [h]
  rw [this]
  rfl

theorem loopX (n : Nat) (l : List UInt8) (long : Int) : LoopOK CT (n + 100) bx (TX l long) := by
  refine loopOK_of fun st K hT => ?_
  obtain ⟨rfl, hf, hn, hs⟩ := hT
  refine ⟨fun m st => ∃ (i : Nat) (pre : Bool), i ≤ l.length ∧ i ≤ 64 ∧ m = 64 - i ∧ (pre = false → i = 0) ∧ st = atX pre i (XA (keptAt l i)) (rowsU l) (restX l long) (XH (keptAt l i)), 64, by omega,
    ⟨0, false, by omega, by omega, rfl, fun _ => rfl, rfl⟩, ?_⟩
  rintro m st ⟨i, pre, h1, h2, rfl, hpre, rfl⟩
  have hlen : ((rowsU l).length : Int) = l.length := by simp [rowsU]
  have out : ∀ a b c d, keptAt l i = kept l → K (.exit 0) (outX pre i (XA (keptAt l i)) (rowsU l) (restX l long) (XH (keptAt l i)) a b c d) := by
    intro a b c d hk
    rw [hk]
    cases hx : kept l with
    | nil =>
      cases pre with
      | false =>
        have := hpre rfl
        subst this
        exact hf a b c d hx
      | true => exact hn i a b c d hx
    | cons y r =>
      cases pre with
      | false =>
        have := hpre rfl
        subst this
        rw [← hk] at hx
        unfold keptAt at hx
        simp at hx
      | true =>
        have := hs i a b c d (kept l).length (by rw [hx]; simp) rfl
        rw [hx] at this
        exact this
  by_cases hi : i < l.length
  · by_cases h64 : i < 64
    · obtain ⟨b, hb⟩ : ∃ b, l[i]? = some b := ⟨l[i], List.getElem?_eq_getElem hi⟩
      have hj : IntKind.i64.wrap ((i : Int) + 1) = ((i + 1 : Nat) : Int) := by rw [wrap_i64]; omega
      have d1 : decide ((i : Int) < ((rowsU l).length : Int)) = true := decide_eq_true (by rw [hlen]; omega)
      have d2 : decide ((i : Int) < 64) = true := decide_eq_true (by omega)
      by_cases hq : b = 39
      · subst hq
        have hk : keptAt l (i + 1) = keptAt l i := by rw [keptAt_succ hb]; simp
        have step := skipX (n + 80) pre i ((i + 1 : Nat) : Int) ((39 : UInt8).toNat : Int) (XA (keptAt l i)) (rowsU l) (restX l long) (XH (keptAt l i))
          (fun e st' => match e with | .normal => ∃ m', m' < 64 - i ∧ ∃ (i : Nat) (pre : Bool), i ≤ l.length ∧ i ≤ 64 ∧ m' = 64 - i ∧ (pre = false → i = 0) ∧ headOf bx (entryX l long) st' = atX pre i (XA (keptAt l i)) (rowsU l) (restX l long) (XH (keptAt l i)) | e => K e st')
        have := execP_tree step (⟨d1, d2, readX_of hb _, rfl, hj, 64 - (i + 1), by omega, i + 1, true, by omega, by omega, rfl, (fun h => by cases h), by
          rw [hk]
          cases hx : keptAt l i with
          | nil => exact headOf_nil l long _ _ rfl rfl rfl rfl rfl
          | cons y r => exact headOf_sl l long _ (rowsU_plain _) _ rfl rfl rfl rfl rfl⟩)
        exact this
      · have hk : keptAt l (i + 1) = keptAt l i ++ [b] := by rw [keptAt_succ hb]; simp [hq]
        have hc : (((b.toNat : Nat) : Int) != 39) = true := by
          simp only [bne_iff_ne, ne_eq]
          intro e
          apply hq
          apply UInt8.toNat_inj.1
          have : b.toNat = 39 := by omega
          exact this
        cases hx : keptAt l i with
        | nil =>
          rw [hx] at hk
          have step := growN (n + 80) pre i ((i + 1 : Nat) : Int) (b.toNat : Int) (rowsU l) (restX l long)
            (fun e st' => match e with | .normal => ∃ m', m' < 64 - i ∧ ∃ (i : Nat) (pre : Bool), i ≤ l.length ∧ i ≤ 64 ∧ m' = 64 - i ∧ (pre = false → i = 0) ∧ headOf bx (entryX l long) st' = atX pre i (XA (keptAt l i)) (rowsU l) (restX l long) (XH (keptAt l i)) | e => K e st')
          have := execP_tree step (⟨d1, d2, readX_of hb _, hc, readX_of hb _, hj, 64 - (i + 1), by omega, i + 1, true, by omega, by omega, rfl, (fun h => by cases h), by
            rw [hk]
            exact headOf_sl l long _ (rowsU_plain [b]) _ rfl rfl rfl rfl rfl⟩)
          exact this
        | cons y r =>
          have hl := keptAt_le l i
          rw [hx] at hl hk
          have step := growS (n + 80) pre i ((i + 1 : Nat) : Int) (b.toNat : Int) (rowsU (y :: r)) (rowsU l) (rowsU (y :: r)).length (restX l long)
            (fun e st' => match e with | .normal => ∃ m', m' < 64 - i ∧ ∃ (i : Nat) (pre : Bool), i ≤ l.length ∧ i ≤ 64 ∧ m' = 64 - i ∧ (pre = false → i = 0) ∧ headOf bx (entryX l long) st' = atX pre i (XA (keptAt l i)) (rowsU l) (restX l long) (XH (keptAt l i)) | e => K e st')
          have hr : (rowsU (y :: r)).length = (y :: r).length := by simp [rowsU]
          have := execP_tree step (⟨d1, d2, readX_of hb _, hc, readX_of hb _, grow_ok _ _ (by rw [hr]; omega), hj, 64 - (i + 1), by omega, i + 1, true, by omega, by omega, rfl, (fun h => by cases h), by
            rw [hk]
            have e : rowsU (y :: r) ++ [[AV.sc (.int .u8 (b.toNat : Int))]] = rowsU (y :: r ++ [b]) := by simp [rowsU]
            rw [e]
            have e2 : XA (y :: r ++ [b]) = .sl 0 0 0 ((rowsU (y :: r)).length + 1) none := by simp [XA, hr]
            rw [e2]
            exact headOf_sl l long _ (rowsU_plain _) _ rfl rfl rfl rfl rfl⟩)
          rw [hr] at this
          exact this
    · have hi64 : i = 64 := by omega
      have step := exitX2 (n + 80) pre i (XA (keptAt l i)) (rowsU l) (restX l long) (XH (keptAt l i))
        (fun e st' => match e with | .normal => ∃ m', m' < 64 - i ∧ ∃ (i : Nat) (pre : Bool), i ≤ l.length ∧ i ≤ 64 ∧ m' = 64 - i ∧ (pre = false → i = 0) ∧ headOf bx (entryX l long) st' = atX pre i (XA (keptAt l i)) (rowsU l) (restX l long) (XH (keptAt l i)) | e => K e st')
      exact execP_tree step (⟨decide_eq_true (by rw [hlen]; omega), decide_eq_false (by omega), out _ _ _ _ (by rw [hi64]; rfl)⟩)
  · have step := exitX (n + 80) pre i (XA (keptAt l i)) (rowsU l) (restX l long) (XH (keptAt l i))
      (fun e st' => match e with | .normal => ∃ m', m' < 64 - i ∧ ∃ (i : Nat) (pre : Bool), i ≤ l.length ∧ i ≤ 64 ∧ m' = 64 - i ∧ (pre = false → i = 0) ∧ headOf bx (entryX l long) st' = atX pre i (XA (keptAt l i)) (rowsU l) (restX l long) (XH (keptAt l i)) | e => K e st')
    exact execP_tree step (⟨decide_eq_false (by rw [hlen]; omega), out _ _ _ _ (by
      have : i = l.length := by omega
      unfold kept keptAt
      rw [List.take_of_length_le (by omega), List.take_of_length_le (by omega)])⟩)

end Go.Ai
