/-
  CheckCommon: check.Common: its closures, what it deletes.
-/
import Derived.Test.YtndloeajkfajnaaAiCm1
set_option linter.unusedVariables false
set_option linter.unusedSimpArgs false
namespace Go.Ai.Cm
open Go.Proofs Go.RowKit

theorem plain70 : plainV 70 := ⟨rfl, rfl, rfl, rfl, rfl⟩
theorem plain72 : plainV 72 := ⟨rfl, rfl, rfl, rfl, rfl⟩
theorem plain73 : plainV 73 := ⟨rfl, rfl, rfl, rfl, rfl⟩
theorem plain44 : plainV 44 := ⟨rfl, rfl, rfl, rfl, rfl⟩

/-- Some truth comes of it. -/
def T73 (n : Nat) (args : List AV) (H : List Blk) (K : ORes → Prop) : Prop := match args with
  | [F, .agg cs] => (isData F = true ∧ isDataL cs = true) ∧ ∃ b : Bool, ToEndV n 73 [F, .agg cs] (.ret (.sc (.bool b))) ∧ K (.val (.sc (.bool b)) H)
  | _ => False
def T72 (n : Nat) (args : List AV) (H : List Blk) (K : ORes → Prop) : Prop := match args with
  | [.agg cs, .rp row 0] => isDataL cs = true ∧ ∃ b : Bool, ToEndV n 72 [.agg cs, .rp row 0] (.ret (.sc (.bool b))) ∧ K (.val (.sc (.bool b)) H)
  | _ => False
def T70 (n : Nat) (args : List AV) (H : List Blk) (K : ORes → Prop) : Prop := match args with
  | [.agg cs, .rp row 0] => isDataL cs = true ∧ ∃ b : Bool, ToEndV n 70 [.agg cs, .rp row 0] (.ret (.sc (.bool b))) ∧ K (.val (.sc (.bool b)) H)
  | _ => False

theorem T73_ok (n : Nat) (args : List AV) (H : List Blk) (K : ORes → Prop) (h : T73 n args H K) : ∃ q, callA CV (callW CV (exec CV n)) none 73 args H = some q ∧ K q := by
  unfold T73 at h
  split at h
  · obtain ⟨⟨h1, h2⟩, b, he, hk⟩ := h
    exact ⟨_, callA_endsV plain73 (by simp [isDataL, isData, h1, h2]) rfl he, hk⟩
  · exact h.elim
theorem T72_ok (n : Nat) (args : List AV) (H : List Blk) (K : ORes → Prop) (h : T72 n args H K) : ∃ q, callA CV (callW CV (exec CV n)) none 72 args H = some q ∧ K q := by
  unfold T72 at h
  split at h
  · obtain ⟨h1, b, he, hk⟩ := h
    exact ⟨_, callA_endsV plain72 (by simp [isDataL, isData, h1]) rfl he, hk⟩
  · exact h.elim
theorem T70_ok (n : Nat) (args : List AV) (H : List Blk) (K : ORes → Prop) (h : T70 n args H K) : ∃ q, callA CV (callW CV (exec CV n)) none 70 args H = some q ∧ K q := by
  unfold T70 at h
  split at h
  · obtain ⟨h1, b, he, hk⟩ := h
    exact ⟨_, callA_endsV plain70 (by simp [isDataL, isData, h1]) rfl he, hk⟩
  · exact h.elim

def con73 : Con CV := oneConV 73 T73 T73_ok
def con72 : Con CV := oneConV 72 T72 T72_ok
def con70 : Con CV := oneConV 70 T70 T70_ok

def has73 (n : Nat) (X : AV) (f : List AV) (p : Bool → Prop) : Prop := (isData X = true ∧ isDataL f = true) ∧ ∃ b : Bool, ToEndV n 73 [X, .agg f] (.ret (.sc (.bool b))) ∧ p b
def not72 (n : Nat) (s : List AV) (row : List AV) (p : Bool → Prop) : Prop := isDataL s = true ∧ ∃ b : Bool, ToEndV n 72 [.agg s, .rp row 0] (.ret (.sc (.bool b))) ∧ p b
def not70 (n : Nat) (f : List AV) (row : List AV) (p : Bool → Prop) : Prop := isDataL f = true ∧ ∃ b : Bool, ToEndV n 70 [.agg f, .rp row 0] (.ret (.sc (.bool b))) ∧ p b

theorem tree72a (n : Nat) (sn nm : List UInt8) (k : Int) (rows : List (List AV)) (cap : Option Nat) (K : CRes → Prop) : callPC CV con73 { inl := inlV } (n+40) 72 [.agg [strN sn, .ro 2 rows cap], .rp (fieldRow nm k) 0] [] (fun r _ => K r) =
  has73 (n+37) (.ro 2 rows cap) (fieldRow nm k) (fun b => bothQ b (K (.ret (.sc (.bool false)))) (K (.ret (.sc (.bool true))))) := by kernel_rfl
theorem tree72b (n : Nat) (sn nm : List UInt8) (k : Int) (K : CRes → Prop) : callPC CV con73 { inl := inlV } (n+40) 72 [.agg [strN sn, .sc (.slice none 0 0)], .rp (fieldRow nm k) 0] [] (fun r _ => K r) =
  has73 (n+37) (.sc (.slice none 0 0)) (fieldRow nm k) (fun b => bothQ b (K (.ret (.sc (.bool false)))) (K (.ret (.sc (.bool true))))) := by kernel_rfl

/-- Is it missing in one of the others? -/
def missR (n : Nat) (f : List AV) : List (List UInt8 × AV) → (Bool → Prop) → Prop
  | [], K => K false
  | s :: rest, K => not72 n [strN s.1, s.2] f fun b => bothQ b (K true) (missR n f rest K)
def rowS (s : List UInt8 × AV) : List AV := [strN s.1, s.2]

theorem tree70_1 (n : Nat) (nm : List UInt8) (k : Int) (a : List UInt8 × AV) (cap : Option Nat) (K : CRes → Prop) : callPC CV con72 { inl := inlV } (n+60) 70 [.agg (fieldRow nm k), .rp [.ro 2 [rowS a] cap] 0] [] (fun r _ => K r) =
  missR (n+42) (fieldRow nm k) [] (fun b => K (.ret (.sc (.bool b)))) := by kernel_rfl
theorem tree70_2 (n : Nat) (nm : List UInt8) (k : Int) (a b : List UInt8 × AV) (cap : Option Nat) (K : CRes → Prop) : callPC CV con72 { inl := inlV } (n+60) 70 [.agg (fieldRow nm k), .rp [.ro 2 [rowS a, rowS b] cap] 0] [] (fun r _ => K r) =
  missR (n+42) (fieldRow nm k) [b] (fun b => K (.ret (.sc (.bool b)))) := by kernel_rfl
theorem tree70_3 (n : Nat) (nm : List UInt8) (k : Int) (a b c : List UInt8 × AV) (cap : Option Nat) (K : CRes → Prop) : callPC CV con72 { inl := inlV } (n+60) 70 [.agg (fieldRow nm k), .rp [.ro 2 [rowS a, rowS b, rowS c] cap] 0] [] (fun r _ => K r) =
  missR (n+42) (fieldRow nm k) [b, c] (fun b => K (.ret (.sc (.bool b)))) := by kernel_rfl
theorem tree70_4 (n : Nat) (nm : List UInt8) (k : Int) (a b c d : List UInt8 × AV) (cap : Option Nat) (K : CRes → Prop) : callPC CV con72 { inl := inlV } (n+60) 70 [.agg (fieldRow nm k), .rp [.ro 2 [rowS a, rowS b, rowS c, rowS d] cap] 0] [] (fun r _ => K r) =
  missR (n+42) (fieldRow nm k) [b, c, d] (fun b => K (.ret (.sc (.bool b)))) := by kernel_rfl

/-- Deleted or kept, one after another; what is asked with another fuel once one was deleted. -/
def delR (n1 n2 : Nat) (cap0 : List AV) (K : List (List UInt8 × Int) → Prop) : List (List UInt8 × Int) → Bool → List (List UInt8 × Int) → Prop
  | [], _, kept => K kept
  | f :: rest, found, kept => not70 (match found with | true => n2 | false => n1) (fieldRow f.1 f.2) cap0 fun b => bothQ b (delR n1 n2 cap0 K rest true kept) (delR n1 n2 cap0 K rest found (kept ++ [f]))

def h44 (d : Nat) : Option Hint := if d = 5 then some (.bit false) else none

/-- What a run comes to, frozen, or a plain value. -/
def resY (K : AV → Prop) (r : CRes) (H : List Blk) : Prop := match r with
  | .ret u => match isScalar u with
    | true => K u
    | false => match frz H u with
      | some v => K v
      | none => False
  | .pan _ => False

theorem tree44_0 (n : Nat) (sn : List UInt8) (rest : List (List AV)) (cap : Option Nat) (K : AV → Prop) : callPC CV con70 { op := h44, inl := inlV } (n+100) 44 [.ro 2 ([strN sn, listC []] :: rest) cap] [] (resY K) =
  ((((rest.length + 1 : Nat) : Int) == 0) = false ∧ K (.sc (.slice none 0 0))) := by kernel_rfl
theorem tree44_1 (n : Nat) (sn : List UInt8) (a : List UInt8 × Int) (rest : List (List AV)) (cap : Option Nat) (K : AV → Prop) : callPC CV con70 { op := h44, inl := inlV } (n+100) 44 [.ro 2 ([strN sn, listC [a]] :: rest) cap] [] (resY K) =
  ((((rest.length + 1 : Nat) : Int) == 0) = false ∧ delR (n+81) (n+83) [.ro 2 ([strN sn, listC [a]] :: rest) cap] (fun kept => K (.ro 2 (rowsC kept) none)) [a] false []) := by kernel_rfl
theorem tree44_2 (n : Nat) (sn : List UInt8) (a b : List UInt8 × Int) (rest : List (List AV)) (cap : Option Nat) (K : AV → Prop) : callPC CV con70 { op := h44, inl := inlV } (n+100) 44 [.ro 2 ([strN sn, listC [a, b]] :: rest) cap] [] (resY K) =
  ((((rest.length + 1 : Nat) : Int) == 0) = false ∧ delR (n+81) (n+83) [.ro 2 ([strN sn, listC [a, b]] :: rest) cap] (fun kept => K (.ro 2 (rowsC kept) none)) [a, b] false []) := by kernel_rfl
theorem tree44_3 (n : Nat) (sn : List UInt8) (a b c : List UInt8 × Int) (rest : List (List AV)) (cap : Option Nat) (K : AV → Prop) : callPC CV con70 { op := h44, inl := inlV } (n+100) 44 [.ro 2 ([strN sn, listC [a, b, c]] :: rest) cap] [] (resY K) =
  ((((rest.length + 1 : Nat) : Int) == 0) = false ∧ delR (n+81) (n+83) [.ro 2 ([strN sn, listC [a, b, c]] :: rest) cap] (fun kept => K (.ro 2 (rowsC kept) none)) [a, b, c] false []) := by kernel_rfl
theorem tree44_4 (n : Nat) (sn : List UInt8) (a b c d : List UInt8 × Int) (rest : List (List AV)) (cap : Option Nat) (K : AV → Prop) : callPC CV con70 { op := h44, inl := inlV } (n+100) 44 [.ro 2 ([strN sn, listC [a, b, c, d]] :: rest) cap] [] (resY K) =
  ((((rest.length + 1 : Nat) : Int) == 0) = false ∧ delR (n+81) (n+83) [.ro 2 ([strN sn, listC [a, b, c, d]] :: rest) cap] (fun kept => K (.ro 2 (rowsC kept) none)) [a, b, c, d] false []) := by kernel_rfl
theorem tree44_5 (n : Nat) (sn : List UInt8) (a b c d e : List UInt8 × Int) (rest : List (List AV)) (cap : Option Nat) (K : AV → Prop) : callPC CV con70 { op := h44, inl := inlV } (n+100) 44 [.ro 2 ([strN sn, listC [a, b, c, d, e]] :: rest) cap] [] (resY K) =
  ((((rest.length + 1 : Nat) : Int) == 0) = false ∧ delR (n+81) (n+83) [.ro 2 ([strN sn, listC [a, b, c, d, e]] :: rest) cap] (fun kept => K (.ro 2 (rowsC kept) none)) [a, b, c, d, e] false []) := by kernel_rfl
theorem tree44_6 (n : Nat) (sn : List UInt8) (a b c d e g : List UInt8 × Int) (rest : List (List AV)) (cap : Option Nat) (K : AV → Prop) : callPC CV con70 { op := h44, inl := inlV } (n+100) 44 [.ro 2 ([strN sn, listC [a, b, c, d, e, g]] :: rest) cap] [] (resY K) =
  ((((rest.length + 1 : Nat) : Int) == 0) = false ∧ delR (n+81) (n+83) [.ro 2 ([strN sn, listC [a, b, c, d, e, g]] :: rest) cap] (fun kept => K (.ro 2 (rowsC kept) none)) [a, b, c, d, e, g] false []) := by kernel_rfl

end Go.Ai.Cm
