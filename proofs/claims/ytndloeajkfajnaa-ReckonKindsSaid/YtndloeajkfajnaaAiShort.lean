/-
  ReckonShort: the run.
-/
import Derived.Test.YtndloeajkfajnaaAiXm4
set_option linter.unusedVariables false
set_option linter.unusedSimpArgs false
namespace Go.Ai
open Go.Proofs Go.RowKit

theorem plain16 : plainF 16 := ⟨rfl, rfl, rfl, rfl, rfl⟩
theorem plain15 : plainF 15 := ⟨rfl, rfl, rfl, rfl, rfl⟩

def T16 (n : Nat) (args : List AV) (H : List Blk) (K : ORes → Prop) : Prop := match args with
  | [m] => isData m = true ∧ ((∃ kd k i op s v f, ToEnd n 16 [m] (.ret (.agg (rowA kd k i op s v f false [] none))) ∧ K (.val (.agg (rowA kd k i op s v f false [] none)) H)) ∨
      (∃ kd k i op s v f rows cap, ToEnd n 16 [m] (.ret (.agg (rowA kd k i op s v f true rows cap))) ∧ K (.val (.agg (rowA kd k i op s v f true rows cap)) H)))
  | _ => False
def T15 (n : Nat) (args : List AV) (H : List Blk) (K : ORes → Prop) : Prop := match args with
  | [m] => isData m = true ∧ ∃ es, ToEnd n 15 [m] (.ret (.ro 3 es (some 2))) ∧ K (.val (.ro 3 es (some 2)) H)
  | _ => False
def T21 (n : Nat) (args : List AV) (H : List Blk) (K : ORes → Prop) : Prop := match args with
  | [.agg cs, .ro sz es cap] => isDataL cs = true ∧ ∃ b : Bool, ToEnd n 21 [.agg cs, .ro sz es cap] (.ret (.sc (.bool b))) ∧ K (.val (.sc (.bool b)) H)
  | _ => False

theorem T16_ok (n : Nat) (args : List AV) (H : List Blk) (K : ORes → Prop) (h : T16 n args H K) : ∃ q, callA CS (callW CS (exec CS n)) none 16 args H = some q ∧ K q := by
  unfold T16 at h
  split at h
  · obtain ⟨hd, ⟨kd, k, i, op, s, v, f, he, hk⟩ | ⟨kd, k, i, op, s, v, f, rows, cap, he, hk⟩⟩ := h
    · exact ⟨_, callA_ends plain16 (by simp [isDataL, hd]) rfl he, hk⟩
    · exact ⟨_, callA_ends plain16 (by simp [isDataL, hd]) rfl he, hk⟩
  · exact h.elim
theorem T15_ok (n : Nat) (args : List AV) (H : List Blk) (K : ORes → Prop) (h : T15 n args H K) : ∃ q, callA CS (callW CS (exec CS n)) none 15 args H = some q ∧ K q := by
  unfold T15 at h
  split at h
  · obtain ⟨hd, es, he, hk⟩ := h
    exact ⟨_, callA_ends plain15 (by simp [isDataL, hd]) rfl he, hk⟩
  · exact h.elim
theorem T21_ok (n : Nat) (args : List AV) (H : List Blk) (K : ORes → Prop) (h : T21 n args H K) : ∃ q, callA CS (callW CS (exec CS n)) none 21 args H = some q ∧ K q := by
  unfold T21 at h
  split at h
  · obtain ⟨hd, b, he, hk⟩ := h
    exact ⟨_, callA_ends plain21 (by simp [isDataL, isData, hd]) rfl he, hk⟩
  · exact h.elim

def conL : Con CS := addCon 16 T16 T16_ok (addCon 15 T15 T15_ok (addCon 17 T17 T17_ok (oneCon 21 T21 T21_ok)))

/-! ### words for what is left -/

def made16 (n : Nat) (m : AV) (p : List AV → Prop) : Prop := isData m = true ∧ ((∃ kd k i op s v f, ToEnd n 16 [m] (.ret (.agg (rowA kd k i op s v f false [] none))) ∧ p (rowA kd k i op s v f false [] none)) ∨
  (∃ kd k i op s v f rows cap, ToEnd n 16 [m] (.ret (.agg (rowA kd k i op s v f true rows cap))) ∧ p (rowA kd k i op s v f true rows cap)))
def bind15 (n : Nat) (m : AV) (p : List (List AV) → Prop) : Prop := isData m = true ∧ ∃ es, ToEnd n 15 [m] (.ret (.ro 3 es (some 2))) ∧ p es
def reck17 (n : Nat) (cs : List AV) (es : List (List AV)) (p : Vl → Bool → Prop) : Prop := isDataL cs = true ∧ ∃ (v : Vl) (b : Bool), ToEnd n 17 [.agg cs, .ro 3 es (some 2)] (.ret (pairV v b)) ∧ p v b
def hold21 (n : Nat) (cs : List AV) (es : List (List AV)) (p : Bool → Prop) : Prop := isDataL cs = true ∧ ∃ b : Bool, ToEnd n 21 [.agg cs, .ro 3 es (some 2)] (.ret (.sc (.bool b))) ∧ p b

def litC (k n : Int) : List AV := leafC 0 k n [] [] []
def twoC (op : List UInt8) (a b : List AV) : List AV := nodeC 4 op [a, b] 2
def badC : List AV := twoC [47] (litC 1 1) (litC 1 0)
def neV (a b : Nat) (v w : Vl) : Prop := binA Try.prog .neq 23 (.tmp a) (.tmp b) v.av w.av = some (.sc (.bool false))

/-- The end: five more. -/
def shortEnd (n : Nat) (cs : List AV) (es : List (List AV)) (p : Prop) : Prop :=
  reck17 (n+187) (twoC [38, 38] badC (litC 2 0)) es fun _ b1 => b1 = false ∧ reck17 (n+186) (twoC [38, 38] (litC 1 0) (litC 2 0)) es fun _ b2 => b2 = false ∧
    hold21 (n+185) (twoC [38, 38] (litC 2 0) cs) es fun b3 => b3 = false ∧ hold21 (n+185) (twoC [124, 124] (litC 2 1) cs) es fun b4 => b4 = true ∧ hold21 (n+185) (twoC [124, 124] (litC 2 1) badC) es fun b5 => b5 = true ∧ p

def shortR (n : Nat) (l m : AV) (ok kind : Bool) (t : Vl → Vl → Vl → Prop → Prop) (p : Prop) : Prop :=
  made16 (n+195) l fun cs => bind15 (n+194) m fun es => reck17 (n+192) cs es fun v b => b = ok ∧
    reck17 (n+191) (twoC [38, 38] (litC 2 1) cs) es fun w b1 => b1 = kind ∧ reck17 (n+190) (twoC [124, 124] (litC 2 0) cs) es fun x b2 => b2 = kind ∧
      t v w x (shortEnd n cs es p)

def h7 (ok kind : Bool) (d : Nat) : Option Hint := if d = 23 then some .keep else if d = 25 then some .keep else if d = 35 then some (.bit ok) else if d = 43 then some (.bit kind) else if d = 51 then some (.bit kind) else if d = 56 then some (.bit kind) else if d = 71 then some (.eqv false) else if d = 75 then some (.eqv false) else
  if d = 86 then some (.bit false) else if d = 94 then some (.bit false) else if d = 109 then some (.bit false) else if d = 117 then some (.bit true) else if d = 124 then some (.bit true) else none

theorem tree7b (n : Nat) (l m : AV) (K : CRes → Prop) : callPC CS conL { op := h7 true true, inl := fun f => inlS f } (n+200) 7 [l, m] [] (fun r _ => K r) =
  shortR n l m true true (fun v w x r => (v.k == 2) = true ∧ neV 69 70 w v ∧ neV 73 74 x v ∧ r) (K (.ret (.sc (.bool true)))) := by kernel_rfl
theorem tree7o (n : Nat) (l m : AV) (K : CRes → Prop) : callPC CS conL { op := h7 true false, inl := fun f => inlS f } (n+200) 7 [l, m] [] (fun r _ => K r) =
  shortR n l m true false (fun v w x r => (v.k == 2) = false ∧ r) (K (.ret (.sc (.bool true)))) := by kernel_rfl
theorem tree7n (n : Nat) (l m : AV) (K : CRes → Prop) : callPC CS conL { op := h7 false false, inl := fun f => inlS f } (n+200) 7 [l, m] [] (fun r _ => K r) =
  shortR n l m false false (fun v w x r => r) (K (.ret (.sc (.bool true)))) := by kernel_rfl

end Go.Ai
