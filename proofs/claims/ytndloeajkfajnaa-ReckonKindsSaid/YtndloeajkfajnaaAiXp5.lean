/-
  EXPRESSIONS THAT ARE NOT KNOWN: Reckon, Holds.
-/
import Derived.Test.YtndloeajkfajnaaAiXp4
set_option linter.unusedVariables false
set_option linter.unusedSimpArgs false
namespace Go.Ai
open Go.Proofs Go.RowKit

def conE : Con CS := addCon 57 T57 T57_ok (oneCon 58 T58 T58_ok)

def zeroV : Vl := ⟨0, 0, []⟩
def pairV (v : Vl) (b : Bool) : AV := .tup [v.av, .sc (.bool b)]

def T17 (n : Nat) (args : List AV) (H : List Blk) (K : ORes → Prop) : Prop := match args with
  | [.agg cs, .ro sz es cap] => isDataL cs = true ∧
    ∃ (v : Vl) (b : Bool), ToEnd n 17 [.agg cs, .ro sz es cap] (.ret (pairV v b)) ∧ K (.val (pairV v b) H)
  | _ => False

theorem T17_ok (n : Nat) (args : List AV) (H : List Blk) (K : ORes → Prop) (h : T17 n args H K) : ∃ q, callA CS (callW CS (exec CS n)) none 17 args H = some q ∧ K q := by
  unfold T17 at h
  split at h
  · obtain ⟨hd, v, b, he, hk⟩ := h
    exact ⟨_, callA_ends plain17 (by simp [isDataL, isData, hd]) rfl he, hk⟩
  · exact h.elim

def con17 : Con CS := oneCon 17 T17 T17_ok
def s21 (b : Bool) : Script := { inl := inlS, op := fun d => if d = 17 then some (.eqv b) else none }

theorem tree17t (k : Nat) (kd i n : Int) (op s v f : List UInt8) (rows : List (List AV)) (cap' : Option Nat) (sz : Nat) (es : List (List AV)) (cap : Option Nat) (K : CRes → Prop) : callPC CS conE s58 (k+100) 17 [.agg (rowA kd i n op s v f true rows cap'), .ro sz es cap] [] (fun r _ => K r) = ((isDataL (rowA kd i n op s v f true rows cap') = true ∧ ToEnd (k+96) 57 [.agg (rowA kd i n op s v f true rows cap')] (.ret (.sc (.bool true)))) ∧ worthR (k+95) (rowA kd i n op s v f true rows cap') (.ro sz es cap) (fun w => K (.ret (pairV w true))) (K (.ret (pairV zeroV false)))) := by kernel_rfl
theorem tree21tt (k : Nat) (kd i n : Int) (op s v f : List UInt8) (rows : List (List AV)) (cap' : Option Nat) (sz : Nat) (es : List (List AV)) (cap : Option Nat) (K : CRes → Prop) : callPC CS con17 (s21 true) (k+100) 21 [.agg (rowA kd i n op s v f true rows cap'), .ro sz es cap] [] (fun r _ => K r) = (isDataL (rowA kd i n op s v f true rows cap') = true ∧ ∃ (w : Vl) (b : Bool), ToEnd (k+97) 17 [.agg (rowA kd i n op s v f true rows cap'), .ro sz es cap] (.ret (pairV w b)) ∧ bothP b (binA Try.prog .eql 23 (.tmp 15) (.tmp 16) w.av (avV 2 1 []) = some (.sc (.bool true)) ∧ K (.ret (.sc (.bool true)))) (K (.ret (.sc (.bool false))))) := by kernel_rfl
theorem tree21tf (k : Nat) (kd i n : Int) (op s v f : List UInt8) (rows : List (List AV)) (cap' : Option Nat) (sz : Nat) (es : List (List AV)) (cap : Option Nat) (K : CRes → Prop) : callPC CS con17 (s21 false) (k+100) 21 [.agg (rowA kd i n op s v f true rows cap'), .ro sz es cap] [] (fun r _ => K r) = (isDataL (rowA kd i n op s v f true rows cap') = true ∧ ∃ (w : Vl) (b : Bool), ToEnd (k+97) 17 [.agg (rowA kd i n op s v f true rows cap'), .ro sz es cap] (.ret (pairV w b)) ∧ bothP b (binA Try.prog .eql 23 (.tmp 15) (.tmp 16) w.av (avV 2 1 []) = some (.sc (.bool false)) ∧ K (.ret (.sc (.bool false)))) (K (.ret (.sc (.bool false))))) := by kernel_rfl
theorem tree17f (k : Nat) (kd i n : Int) (op s v f : List UInt8) (rows : List (List AV)) (cap' : Option Nat) (sz : Nat) (es : List (List AV)) (cap : Option Nat) (K : CRes → Prop) : callPC CS conE s58 (k+100) 17 [.agg (rowA kd i n op s v f false rows cap'), .ro sz es cap] [] (fun r _ => K r) = ((isDataL (rowA kd i n op s v f false rows cap') = true ∧ ToEnd (k+96) 57 [.agg (rowA kd i n op s v f false rows cap')] (.ret (.sc (.bool true)))) ∧ worthR (k+95) (rowA kd i n op s v f false rows cap') (.ro sz es cap) (fun w => K (.ret (pairV w true))) (K (.ret (pairV zeroV false)))) := by kernel_rfl
theorem tree21ft (k : Nat) (kd i n : Int) (op s v f : List UInt8) (rows : List (List AV)) (cap' : Option Nat) (sz : Nat) (es : List (List AV)) (cap : Option Nat) (K : CRes → Prop) : callPC CS con17 (s21 true) (k+100) 21 [.agg (rowA kd i n op s v f false rows cap'), .ro sz es cap] [] (fun r _ => K r) = (isDataL (rowA kd i n op s v f false rows cap') = true ∧ ∃ (w : Vl) (b : Bool), ToEnd (k+97) 17 [.agg (rowA kd i n op s v f false rows cap'), .ro sz es cap] (.ret (pairV w b)) ∧ bothP b (binA Try.prog .eql 23 (.tmp 15) (.tmp 16) w.av (avV 2 1 []) = some (.sc (.bool true)) ∧ K (.ret (.sc (.bool true)))) (K (.ret (.sc (.bool false))))) := by kernel_rfl
theorem tree21ff (k : Nat) (kd i n : Int) (op s v f : List UInt8) (rows : List (List AV)) (cap' : Option Nat) (sz : Nat) (es : List (List AV)) (cap : Option Nat) (K : CRes → Prop) : callPC CS con17 (s21 false) (k+100) 21 [.agg (rowA kd i n op s v f false rows cap'), .ro sz es cap] [] (fun r _ => K r) = (isDataL (rowA kd i n op s v f false rows cap') = true ∧ ∃ (w : Vl) (b : Bool), ToEnd (k+97) 17 [.agg (rowA kd i n op s v f false rows cap'), .ro sz es cap] (.ret (pairV w b)) ∧ bothP b (binA Try.prog .eql 23 (.tmp 15) (.tmp 16) w.av (avV 2 1 []) = some (.sc (.bool false)) ∧ K (.ret (.sc (.bool false)))) (K (.ret (.sc (.bool false))))) := by kernel_rfl

def outP : Option Vl → AV
  | some v => pairV v true
  | none => pairV zeroV false
def holdsV : Option Vl → Bool
  | some v => (v.k == 2) && (v.n == 1)
  | none => false

section
variable {sz : Nat} {es : List (List AV)} {cap : Option Nat} {bd : UInt8 → UInt8 → Option Vl} {ct : Int}

theorem reckon_all (hB : BEnv sz es cap bd ct) (e : XT) (h : e.wf) : ToEnd (240 * e.depth + 400) 17 [.agg e.cells, .ro sz es cap] (.ret (outP (wv bd ct e))) := by
  have h1 := right_all e h
  have h2 := worth_all hB e h
  have hd := e.data
  obtain ⟨kd, i, n, op, s, v, f, b, rows, cap', he⟩ := e.cells_form
  rw [he] at h1 h2 hd ⊢
  have key : (isDataL (rowA kd i n op s v f b rows cap') = true ∧ ToEnd (240 * e.depth + 300 + 96) 57 [.agg (rowA kd i n op s v f b rows cap')] (.ret (.sc (.bool true)))) ∧
      worthR (240 * e.depth + 300 + 95) (rowA kd i n op s v f b rows cap') (.ro sz es cap) (fun w => CRes.ret (pairV w true) = .ret (outP (wv bd ct e))) (CRes.ret (pairV zeroV false) = .ret (outP (wv bd ct e))) := by
    refine ⟨⟨hd, h1.mono (by omega)⟩, worthR_of hd h2 (by omega) (fun w hw => ?_) fun hw => ?_⟩ <;> (rw [hw]; rfl)
  refine ToEnd.mono (n := 240 * e.depth + 300 + 100) ?_ (by omega)
  cases b with
  | true => exact ToEnd.ofC (tree17t _ kd i n op s v f rows cap' sz es cap _) key
  | false => exact ToEnd.ofC (tree17f _ kd i n op s v f rows cap' sz es cap _) key

theorem eq_truth {v : Vl} (h : v.wf) (o1 o2 : Operand) : binA Try.prog .eql 23 o1 o2 v.av (avV 2 1 []) = some (.sc (.bool ((v.k == 2) && (v.n == 1)))) := by
  have h1 := bin_equal v.k v.n 2 1 ⟨⟨v.s⟩⟩ ⟨⟨[]⟩⟩ o1 o2
  have e : ((v.k == 2) && ((v.n == 1) && ((⟨⟨v.s⟩⟩ : ByteArray) == ⟨⟨[]⟩⟩))) = ((v.k == 2) && (v.n == 1)) := by
    cases hk : (v.k == 2)
    · rfl
    · have hk : v.k = 2 := by simpa using hk
      have hs : v.s = [] := by
        rcases h with ⟨h, _⟩ | ⟨_, _, h⟩ | ⟨h, _⟩
        · omega
        · exact h
        · omega
      rw [hs, byteArr_same]
      simp
  rw [e] at h1
  exact h1

theorem holds_all (hB : BEnv sz es cap bd ct) (e : XT) (h : e.wf) : ToEnd (240 * e.depth + 500) 21 [.agg e.cells, .ro sz es cap] (.ret (.sc (.bool (holdsV (wv bd ct e))))) := by
  have h1 := reckon_all hB e h
  have hw := wv_wf hB e h
  have hd := e.data
  obtain ⟨kd, i, n, op, s, v, f, b, rows, cap', he⟩ := e.cells_form
  rw [he] at h1 hd ⊢
  have h1 := h1.mono (m := 240 * e.depth + 400 + 97) (by omega)
  refine ToEnd.mono (n := 240 * e.depth + 400 + 100) ?_ (by omega)
  cases hr : wv bd ct e with
  | none =>
    rw [hr] at h1
    cases b with
    | true => exact ToEnd.ofC (tree21tt _ kd i n op s v f rows cap' sz es cap _) ⟨hd, _, _, h1, rfl⟩
    | false => exact ToEnd.ofC (tree21ft _ kd i n op s v f rows cap' sz es cap _) ⟨hd, _, _, h1, rfl⟩
  | some w =>
    rw [hr] at h1
    have hq := eq_truth (hw w hr) (.tmp 15) (.tmp 16)
    simp only [holdsV]
    cases hv : ((w.k == 2) && (w.n == 1))
    · rw [hv] at hq
      cases b with
      | true => exact ToEnd.ofC (tree21tf _ kd i n op s v f rows cap' sz es cap _) ⟨hd, _, _, h1, hq, rfl⟩
      | false => exact ToEnd.ofC (tree21ff _ kd i n op s v f rows cap' sz es cap _) ⟨hd, _, _, h1, hq, rfl⟩
    · rw [hv] at hq
      cases b with
      | true => exact ToEnd.ofC (tree21tt _ kd i n op s v f rows cap' sz es cap _) ⟨hd, _, _, h1, hq, rfl⟩
      | false => exact ToEnd.ofC (tree21ft _ kd i n op s v f rows cap' sz es cap _) ⟨hd, _, _, h1, hq, rfl⟩
end

end Go.Ai
