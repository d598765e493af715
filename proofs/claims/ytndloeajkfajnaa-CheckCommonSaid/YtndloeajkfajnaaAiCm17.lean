/-
  CheckCommon: over what came in.
-/
import Derived.Test.YtndloeajkfajnaaAiCm16
set_option linter.unusedVariables false
set_option linter.unusedSimpArgs false
namespace Go.Ai.Cm
open Go.Proofs Go.RowKit

theorem lw_0 (n : Nat) (es : List (List AV)) (cap : Option Nat) (K : CRes → Prop) : callPC CV (con44 true) { op := h12L 0 false (fun _ => []), inl := inlV } (n+400) 12 [.ro 1 es cap] [] (fun r _ => K r) =
  (decide (((0+1 : Nat) : Int) < es.length) = false ∧ ToEndY (n+393) 44 [.sc (.slice none 0 0)] (.sc (.slice none 0 0)) ∧ ((0 : Int) == 0) = true ∧ K (.ret (.sc (.bool true)))) := by kernel_rfl
theorem lw_n (n : Nat) (K : CRes → Prop) : callPC CV (con44 true) { op := h12L 0 false (fun _ => []), inl := inlV } (n+400) 12 [.sc (.slice none 0 0)] [] (fun r _ => K r) =
  (decide (IntKind.i64.wrap (0 + 1) < (0 : Int)) = false ∧ ToEndY (n+393) 44 [.sc (.slice none 0 0)] (.sc (.slice none 0 0)) ∧ ((0 : Int) == 0) = true ∧ K (.ret (.sc (.bool true)))) := by kernel_rfl

theorem common_nil : ToEndY 100 44 [.sc (.slice none 0 0)] (.sc (.slice none 0 0)) :=
  ToEndY.ofC (D := noCon CV) (S := { op := fun _ => none, inl := inlV }) (p := (.sc (.slice none 0 0) : AV) = .sc (.slice none 0 0)) (by kernel_rfl) rfl

section
variable {bm : List Int} (hb : bm.length ≤ 9223372036854775807) (cap : Option Nat) (n : Nat)

include hb in
theorem go_1t (hl : 1 < bm.length) (hg : ¬ 3 < bm.length) (h0 : hdF bm 0 :: tlF bm 0 = Fs bm 0) : ToEndV (n + 400) 12 [.ro 1 (mRows bm) cap] (.ret (.sc (.bool true))) := by
  have hlen : (mRows bm).length = bm.length := by simp [mRows]
  have hd : decide (((2+1 : Nat) : Int) < ((mRows bm).length : Nat)) = false := decide_eq_false (by rw [hlen]; omega)
  have hl : ∀ t ∈ ([] : List Strm), t.2.length ≤ 6 ∧ distinct t.2 := fun t ht => by cases ht
  exact ToEndV.ofC (lw_1t n (mRows bm) cap (mb bm) (hdF bm) (tlF bm) _) (oneS_of n hb cap _ 0 _ (by omega) h0 (endT n (s := strm (fsv [true] (hdF bm) (tlF bm) 0)) (rest := []) (mRows bm) cap (.bool false) (.bool false) (.tuple #[]) (.tuple #[]) hd (List.cons_ne_nil _ _) (strm_ok h0).1 (by simp) hl rfl))

include hb in
theorem go_1f (hl : 1 < bm.length) (hg : ¬ 3 < bm.length) (h0 : ([] : List Fld) = Fs bm 0) : ToEndV (n + 400) 12 [.ro 1 (mRows bm) cap] (.ret (.sc (.bool true))) := by
  have hlen : (mRows bm).length = bm.length := by simp [mRows]
  have hd : decide (((2+1 : Nat) : Int) < ((mRows bm).length : Nat)) = false := decide_eq_false (by rw [hlen]; omega)
  have hl : ∀ t ∈ ([] : List Strm), t.2.length ≤ 6 ∧ distinct t.2 := fun t ht => by cases ht
  exact ToEndV.ofC (lw_1f n (mRows bm) cap (mb bm) (hdF bm) (tlF bm) _) (oneS_of n hb cap _ 0 _ (by omega) h0 (endF n (s := strm (fsv [false] (hdF bm) (tlF bm) 0)) (rest := []) hd rfl (by simp) (fun t ht => (hl t ht).1) rfl))

include hb in
theorem go_2tt (hl : 3 < bm.length) (hg : ¬ 5 < bm.length) (h0 : hdF bm 0 :: tlF bm 0 = Fs bm 0) (h1 : hdF bm 1 :: tlF bm 1 = Fs bm 1) : ToEndV (n + 400) 12 [.ro 1 (mRows bm) cap] (.ret (.sc (.bool true))) := by
  have hlen : (mRows bm).length = bm.length := by simp [mRows]
  have hd : decide (((4+1 : Nat) : Int) < ((mRows bm).length : Nat)) = false := decide_eq_false (by rw [hlen]; omega)
  have hl : ∀ t ∈ ([strm (fsv [true, true] (hdF bm) (tlF bm) 1)] : List Strm), t.2.length ≤ 6 ∧ distinct t.2 := fun t ht => by
    simp only [List.mem_cons, List.not_mem_nil, or_false] at ht
    subst ht
    exact strm_ok h1
  exact ToEndV.ofC (lw_2tt n (mRows bm) cap (mb bm) (hdF bm) (tlF bm) _) (oneS_of n hb cap _ 0 _ (by omega) h0 (oneS_of n hb cap _ 1 _ (by omega) h1 (endT n (s := strm (fsv [true, true] (hdF bm) (tlF bm) 0)) (rest := [strm (fsv [true, true] (hdF bm) (tlF bm) 1)]) (mRows bm) cap (.bool false) (.bool false) (.tuple #[]) (.tuple #[]) hd (List.cons_ne_nil _ _) (strm_ok h0).1 (by simp) hl rfl)))

include hb in
theorem go_2tf (hl : 3 < bm.length) (hg : ¬ 5 < bm.length) (h0 : hdF bm 0 :: tlF bm 0 = Fs bm 0) (h1 : ([] : List Fld) = Fs bm 1) : ToEndV (n + 400) 12 [.ro 1 (mRows bm) cap] (.ret (.sc (.bool true))) := by
  have hlen : (mRows bm).length = bm.length := by simp [mRows]
  have hd : decide (((4+1 : Nat) : Int) < ((mRows bm).length : Nat)) = false := decide_eq_false (by rw [hlen]; omega)
  have hl : ∀ t ∈ ([strm (fsv [true, false] (hdF bm) (tlF bm) 1)] : List Strm), t.2.length ≤ 6 ∧ distinct t.2 := fun t ht => by
    simp only [List.mem_cons, List.not_mem_nil, or_false] at ht
    subst ht
    exact strm_ok h1
  exact ToEndV.ofC (lw_2tf n (mRows bm) cap (mb bm) (hdF bm) (tlF bm) _) (oneS_of n hb cap _ 0 _ (by omega) h0 (oneS_of n hb cap _ 1 _ (by omega) h1 (endT n (s := strm (fsv [true, false] (hdF bm) (tlF bm) 0)) (rest := [strm (fsv [true, false] (hdF bm) (tlF bm) 1)]) (mRows bm) cap (.bool false) (.bool false) (.tuple #[]) (.tuple #[]) hd (List.cons_ne_nil _ _) (strm_ok h0).1 (by simp) hl rfl)))

include hb in
theorem go_2ft (hl : 3 < bm.length) (hg : ¬ 5 < bm.length) (h0 : ([] : List Fld) = Fs bm 0) (h1 : hdF bm 1 :: tlF bm 1 = Fs bm 1) : ToEndV (n + 400) 12 [.ro 1 (mRows bm) cap] (.ret (.sc (.bool true))) := by
  have hlen : (mRows bm).length = bm.length := by simp [mRows]
  have hd : decide (((4+1 : Nat) : Int) < ((mRows bm).length : Nat)) = false := decide_eq_false (by rw [hlen]; omega)
  have hl : ∀ t ∈ ([strm (fsv [false, true] (hdF bm) (tlF bm) 1)] : List Strm), t.2.length ≤ 6 ∧ distinct t.2 := fun t ht => by
    simp only [List.mem_cons, List.not_mem_nil, or_false] at ht
    subst ht
    exact strm_ok h1
  exact ToEndV.ofC (lw_2ft n (mRows bm) cap (mb bm) (hdF bm) (tlF bm) _) (oneS_of n hb cap _ 0 _ (by omega) h0 (oneS_of n hb cap _ 1 _ (by omega) h1 (endF n (s := strm (fsv [false, true] (hdF bm) (tlF bm) 0)) (rest := [strm (fsv [false, true] (hdF bm) (tlF bm) 1)]) hd rfl (by simp) (fun t ht => (hl t ht).1) rfl)))

include hb in
theorem go_2ff (hl : 3 < bm.length) (hg : ¬ 5 < bm.length) (h0 : ([] : List Fld) = Fs bm 0) (h1 : ([] : List Fld) = Fs bm 1) : ToEndV (n + 400) 12 [.ro 1 (mRows bm) cap] (.ret (.sc (.bool true))) := by
  have hlen : (mRows bm).length = bm.length := by simp [mRows]
  have hd : decide (((4+1 : Nat) : Int) < ((mRows bm).length : Nat)) = false := decide_eq_false (by rw [hlen]; omega)
  have hl : ∀ t ∈ ([strm (fsv [false, false] (hdF bm) (tlF bm) 1)] : List Strm), t.2.length ≤ 6 ∧ distinct t.2 := fun t ht => by
    simp only [List.mem_cons, List.not_mem_nil, or_false] at ht
    subst ht
    exact strm_ok h1
  exact ToEndV.ofC (lw_2ff n (mRows bm) cap (mb bm) (hdF bm) (tlF bm) _) (oneS_of n hb cap _ 0 _ (by omega) h0 (oneS_of n hb cap _ 1 _ (by omega) h1 (endF n (s := strm (fsv [false, false] (hdF bm) (tlF bm) 0)) (rest := [strm (fsv [false, false] (hdF bm) (tlF bm) 1)]) hd rfl (by simp) (fun t ht => (hl t ht).1) rfl)))

include hb in
theorem go_3ttt (hl : 5 < bm.length) (hg : ¬ 7 < bm.length) (h0 : hdF bm 0 :: tlF bm 0 = Fs bm 0) (h1 : hdF bm 1 :: tlF bm 1 = Fs bm 1) (h2 : hdF bm 2 :: tlF bm 2 = Fs bm 2) : ToEndV (n + 400) 12 [.ro 1 (mRows bm) cap] (.ret (.sc (.bool true))) := by
  have hlen : (mRows bm).length = bm.length := by simp [mRows]
  have hd : decide (((6+1 : Nat) : Int) < ((mRows bm).length : Nat)) = false := decide_eq_false (by rw [hlen]; omega)
  have hl : ∀ t ∈ ([strm (fsv [true, true, true] (hdF bm) (tlF bm) 1), strm (fsv [true, true, true] (hdF bm) (tlF bm) 2)] : List Strm), t.2.length ≤ 6 ∧ distinct t.2 := fun t ht => by
    simp only [List.mem_cons, List.not_mem_nil, or_false] at ht
    rcases ht with rfl | rfl
    · exact strm_ok h1
    · exact strm_ok h2
  exact ToEndV.ofC (lw_3ttt n (mRows bm) cap (mb bm) (hdF bm) (tlF bm) _) (oneS_of n hb cap _ 0 _ (by omega) h0 (oneS_of n hb cap _ 1 _ (by omega) h1 (oneS_of n hb cap _ 2 _ (by omega) h2 (endT n (s := strm (fsv [true, true, true] (hdF bm) (tlF bm) 0)) (rest := [strm (fsv [true, true, true] (hdF bm) (tlF bm) 1), strm (fsv [true, true, true] (hdF bm) (tlF bm) 2)]) (mRows bm) cap (.bool false) (.bool false) (.tuple #[]) (.tuple #[]) hd (List.cons_ne_nil _ _) (strm_ok h0).1 (by simp) hl rfl))))

include hb in
theorem go_3ttf (hl : 5 < bm.length) (hg : ¬ 7 < bm.length) (h0 : hdF bm 0 :: tlF bm 0 = Fs bm 0) (h1 : hdF bm 1 :: tlF bm 1 = Fs bm 1) (h2 : ([] : List Fld) = Fs bm 2) : ToEndV (n + 400) 12 [.ro 1 (mRows bm) cap] (.ret (.sc (.bool true))) := by
  have hlen : (mRows bm).length = bm.length := by simp [mRows]
  have hd : decide (((6+1 : Nat) : Int) < ((mRows bm).length : Nat)) = false := decide_eq_false (by rw [hlen]; omega)
  have hl : ∀ t ∈ ([strm (fsv [true, true, false] (hdF bm) (tlF bm) 1), strm (fsv [true, true, false] (hdF bm) (tlF bm) 2)] : List Strm), t.2.length ≤ 6 ∧ distinct t.2 := fun t ht => by
    simp only [List.mem_cons, List.not_mem_nil, or_false] at ht
    rcases ht with rfl | rfl
    · exact strm_ok h1
    · exact strm_ok h2
  exact ToEndV.ofC (lw_3ttf n (mRows bm) cap (mb bm) (hdF bm) (tlF bm) _) (oneS_of n hb cap _ 0 _ (by omega) h0 (oneS_of n hb cap _ 1 _ (by omega) h1 (oneS_of n hb cap _ 2 _ (by omega) h2 (endT n (s := strm (fsv [true, true, false] (hdF bm) (tlF bm) 0)) (rest := [strm (fsv [true, true, false] (hdF bm) (tlF bm) 1), strm (fsv [true, true, false] (hdF bm) (tlF bm) 2)]) (mRows bm) cap (.bool false) (.bool false) (.tuple #[]) (.tuple #[]) hd (List.cons_ne_nil _ _) (strm_ok h0).1 (by simp) hl rfl))))

include hb in
theorem go_3tft (hl : 5 < bm.length) (hg : ¬ 7 < bm.length) (h0 : hdF bm 0 :: tlF bm 0 = Fs bm 0) (h1 : ([] : List Fld) = Fs bm 1) (h2 : hdF bm 2 :: tlF bm 2 = Fs bm 2) : ToEndV (n + 400) 12 [.ro 1 (mRows bm) cap] (.ret (.sc (.bool true))) := by
  have hlen : (mRows bm).length = bm.length := by simp [mRows]
  have hd : decide (((6+1 : Nat) : Int) < ((mRows bm).length : Nat)) = false := decide_eq_false (by rw [hlen]; omega)
  have hl : ∀ t ∈ ([strm (fsv [true, false, true] (hdF bm) (tlF bm) 1), strm (fsv [true, false, true] (hdF bm) (tlF bm) 2)] : List Strm), t.2.length ≤ 6 ∧ distinct t.2 := fun t ht => by
    simp only [List.mem_cons, List.not_mem_nil, or_false] at ht
    rcases ht with rfl | rfl
    · exact strm_ok h1
    · exact strm_ok h2
  exact ToEndV.ofC (lw_3tft n (mRows bm) cap (mb bm) (hdF bm) (tlF bm) _) (oneS_of n hb cap _ 0 _ (by omega) h0 (oneS_of n hb cap _ 1 _ (by omega) h1 (oneS_of n hb cap _ 2 _ (by omega) h2 (endT n (s := strm (fsv [true, false, true] (hdF bm) (tlF bm) 0)) (rest := [strm (fsv [true, false, true] (hdF bm) (tlF bm) 1), strm (fsv [true, false, true] (hdF bm) (tlF bm) 2)]) (mRows bm) cap (.bool false) (.bool false) (.tuple #[]) (.tuple #[]) hd (List.cons_ne_nil _ _) (strm_ok h0).1 (by simp) hl rfl))))

include hb in
theorem go_3tff (hl : 5 < bm.length) (hg : ¬ 7 < bm.length) (h0 : hdF bm 0 :: tlF bm 0 = Fs bm 0) (h1 : ([] : List Fld) = Fs bm 1) (h2 : ([] : List Fld) = Fs bm 2) : ToEndV (n + 400) 12 [.ro 1 (mRows bm) cap] (.ret (.sc (.bool true))) := by
  have hlen : (mRows bm).length = bm.length := by simp [mRows]
  have hd : decide (((6+1 : Nat) : Int) < ((mRows bm).length : Nat)) = false := decide_eq_false (by rw [hlen]; omega)
  have hl : ∀ t ∈ ([strm (fsv [true, false, false] (hdF bm) (tlF bm) 1), strm (fsv [true, false, false] (hdF bm) (tlF bm) 2)] : List Strm), t.2.length ≤ 6 ∧ distinct t.2 := fun t ht => by
    simp only [List.mem_cons, List.not_mem_nil, or_false] at ht
    rcases ht with rfl | rfl
    · exact strm_ok h1
    · exact strm_ok h2
  exact ToEndV.ofC (lw_3tff n (mRows bm) cap (mb bm) (hdF bm) (tlF bm) _) (oneS_of n hb cap _ 0 _ (by omega) h0 (oneS_of n hb cap _ 1 _ (by omega) h1 (oneS_of n hb cap _ 2 _ (by omega) h2 (endT n (s := strm (fsv [true, false, false] (hdF bm) (tlF bm) 0)) (rest := [strm (fsv [true, false, false] (hdF bm) (tlF bm) 1), strm (fsv [true, false, false] (hdF bm) (tlF bm) 2)]) (mRows bm) cap (.bool false) (.bool false) (.tuple #[]) (.tuple #[]) hd (List.cons_ne_nil _ _) (strm_ok h0).1 (by simp) hl rfl))))

include hb in
theorem go_3ftt (hl : 5 < bm.length) (hg : ¬ 7 < bm.length) (h0 : ([] : List Fld) = Fs bm 0) (h1 : hdF bm 1 :: tlF bm 1 = Fs bm 1) (h2 : hdF bm 2 :: tlF bm 2 = Fs bm 2) : ToEndV (n + 400) 12 [.ro 1 (mRows bm) cap] (.ret (.sc (.bool true))) := by
  have hlen : (mRows bm).length = bm.length := by simp [mRows]
  have hd : decide (((6+1 : Nat) : Int) < ((mRows bm).length : Nat)) = false := decide_eq_false (by rw [hlen]; omega)
  have hl : ∀ t ∈ ([strm (fsv [false, true, true] (hdF bm) (tlF bm) 1), strm (fsv [false, true, true] (hdF bm) (tlF bm) 2)] : List Strm), t.2.length ≤ 6 ∧ distinct t.2 := fun t ht => by
    simp only [List.mem_cons, List.not_mem_nil, or_false] at ht
    rcases ht with rfl | rfl
    · exact strm_ok h1
    · exact strm_ok h2
  exact ToEndV.ofC (lw_3ftt n (mRows bm) cap (mb bm) (hdF bm) (tlF bm) _) (oneS_of n hb cap _ 0 _ (by omega) h0 (oneS_of n hb cap _ 1 _ (by omega) h1 (oneS_of n hb cap _ 2 _ (by omega) h2 (endF n (s := strm (fsv [false, true, true] (hdF bm) (tlF bm) 0)) (rest := [strm (fsv [false, true, true] (hdF bm) (tlF bm) 1), strm (fsv [false, true, true] (hdF bm) (tlF bm) 2)]) hd rfl (by simp) (fun t ht => (hl t ht).1) rfl))))

include hb in
theorem go_3ftf (hl : 5 < bm.length) (hg : ¬ 7 < bm.length) (h0 : ([] : List Fld) = Fs bm 0) (h1 : hdF bm 1 :: tlF bm 1 = Fs bm 1) (h2 : ([] : List Fld) = Fs bm 2) : ToEndV (n + 400) 12 [.ro 1 (mRows bm) cap] (.ret (.sc (.bool true))) := by
  have hlen : (mRows bm).length = bm.length := by simp [mRows]
  have hd : decide (((6+1 : Nat) : Int) < ((mRows bm).length : Nat)) = false := decide_eq_false (by rw [hlen]; omega)
  have hl : ∀ t ∈ ([strm (fsv [false, true, false] (hdF bm) (tlF bm) 1), strm (fsv [false, true, false] (hdF bm) (tlF bm) 2)] : List Strm), t.2.length ≤ 6 ∧ distinct t.2 := fun t ht => by
    simp only [List.mem_cons, List.not_mem_nil, or_false] at ht
    rcases ht with rfl | rfl
    · exact strm_ok h1
    · exact strm_ok h2
  exact ToEndV.ofC (lw_3ftf n (mRows bm) cap (mb bm) (hdF bm) (tlF bm) _) (oneS_of n hb cap _ 0 _ (by omega) h0 (oneS_of n hb cap _ 1 _ (by omega) h1 (oneS_of n hb cap _ 2 _ (by omega) h2 (endF n (s := strm (fsv [false, true, false] (hdF bm) (tlF bm) 0)) (rest := [strm (fsv [false, true, false] (hdF bm) (tlF bm) 1), strm (fsv [false, true, false] (hdF bm) (tlF bm) 2)]) hd rfl (by simp) (fun t ht => (hl t ht).1) rfl))))

include hb in
theorem go_3fft (hl : 5 < bm.length) (hg : ¬ 7 < bm.length) (h0 : ([] : List Fld) = Fs bm 0) (h1 : ([] : List Fld) = Fs bm 1) (h2 : hdF bm 2 :: tlF bm 2 = Fs bm 2) : ToEndV (n + 400) 12 [.ro 1 (mRows bm) cap] (.ret (.sc (.bool true))) := by
  have hlen : (mRows bm).length = bm.length := by simp [mRows]
  have hd : decide (((6+1 : Nat) : Int) < ((mRows bm).length : Nat)) = false := decide_eq_false (by rw [hlen]; omega)
  have hl : ∀ t ∈ ([strm (fsv [false, false, true] (hdF bm) (tlF bm) 1), strm (fsv [false, false, true] (hdF bm) (tlF bm) 2)] : List Strm), t.2.length ≤ 6 ∧ distinct t.2 := fun t ht => by
    simp only [List.mem_cons, List.not_mem_nil, or_false] at ht
    rcases ht with rfl | rfl
    · exact strm_ok h1
    · exact strm_ok h2
  exact ToEndV.ofC (lw_3fft n (mRows bm) cap (mb bm) (hdF bm) (tlF bm) _) (oneS_of n hb cap _ 0 _ (by omega) h0 (oneS_of n hb cap _ 1 _ (by omega) h1 (oneS_of n hb cap _ 2 _ (by omega) h2 (endF n (s := strm (fsv [false, false, true] (hdF bm) (tlF bm) 0)) (rest := [strm (fsv [false, false, true] (hdF bm) (tlF bm) 1), strm (fsv [false, false, true] (hdF bm) (tlF bm) 2)]) hd rfl (by simp) (fun t ht => (hl t ht).1) rfl))))

include hb in
theorem go_3fff (hl : 5 < bm.length) (hg : ¬ 7 < bm.length) (h0 : ([] : List Fld) = Fs bm 0) (h1 : ([] : List Fld) = Fs bm 1) (h2 : ([] : List Fld) = Fs bm 2) : ToEndV (n + 400) 12 [.ro 1 (mRows bm) cap] (.ret (.sc (.bool true))) := by
  have hlen : (mRows bm).length = bm.length := by simp [mRows]
  have hd : decide (((6+1 : Nat) : Int) < ((mRows bm).length : Nat)) = false := decide_eq_false (by rw [hlen]; omega)
  have hl : ∀ t ∈ ([strm (fsv [false, false, false] (hdF bm) (tlF bm) 1), strm (fsv [false, false, false] (hdF bm) (tlF bm) 2)] : List Strm), t.2.length ≤ 6 ∧ distinct t.2 := fun t ht => by
    simp only [List.mem_cons, List.not_mem_nil, or_false] at ht
    rcases ht with rfl | rfl
    · exact strm_ok h1
    · exact strm_ok h2
  exact ToEndV.ofC (lw_3fff n (mRows bm) cap (mb bm) (hdF bm) (tlF bm) _) (oneS_of n hb cap _ 0 _ (by omega) h0 (oneS_of n hb cap _ 1 _ (by omega) h1 (oneS_of n hb cap _ 2 _ (by omega) h2 (endF n (s := strm (fsv [false, false, false] (hdF bm) (tlF bm) 0)) (rest := [strm (fsv [false, false, false] (hdF bm) (tlF bm) 1), strm (fsv [false, false, false] (hdF bm) (tlF bm) 2)]) hd rfl (by simp) (fun t ht => (hl t ht).1) rfl))))

include hb in
theorem go_4tttt (hl : 7 < bm.length) (hg : ¬ 9 < bm.length) (h0 : hdF bm 0 :: tlF bm 0 = Fs bm 0) (h1 : hdF bm 1 :: tlF bm 1 = Fs bm 1) (h2 : hdF bm 2 :: tlF bm 2 = Fs bm 2) (h3 : hdF bm 3 :: tlF bm 3 = Fs bm 3) : ToEndV (n + 400) 12 [.ro 1 (mRows bm) cap] (.ret (.sc (.bool true))) := by
  have hlen : (mRows bm).length = bm.length := by simp [mRows]
  have hd : decide (((8+1 : Nat) : Int) < ((mRows bm).length : Nat)) = false := decide_eq_false (by rw [hlen]; omega)
  have hl : ∀ t ∈ ([strm (fsv [true, true, true, true] (hdF bm) (tlF bm) 1), strm (fsv [true, true, true, true] (hdF bm) (tlF bm) 2), strm (fsv [true, true, true, true] (hdF bm) (tlF bm) 3)] : List Strm), t.2.length ≤ 6 ∧ distinct t.2 := fun t ht => by
    simp only [List.mem_cons, List.not_mem_nil, or_false] at ht
    rcases ht with rfl | rfl | rfl
    · exact strm_ok h1
    · exact strm_ok h2
    · exact strm_ok h3
  exact ToEndV.ofC (lw_4tttt n (mRows bm) cap (mb bm) (hdF bm) (tlF bm) _) (oneS_of n hb cap _ 0 _ (by omega) h0 (oneS_of n hb cap _ 1 _ (by omega) h1 (oneS_of n hb cap _ 2 _ (by omega) h2 (oneS_of n hb cap _ 3 _ (by omega) h3 (endT n (s := strm (fsv [true, true, true, true] (hdF bm) (tlF bm) 0)) (rest := [strm (fsv [true, true, true, true] (hdF bm) (tlF bm) 1), strm (fsv [true, true, true, true] (hdF bm) (tlF bm) 2), strm (fsv [true, true, true, true] (hdF bm) (tlF bm) 3)]) (mRows bm) cap (.bool false) (.bool false) (.tuple #[]) (.tuple #[]) hd (List.cons_ne_nil _ _) (strm_ok h0).1 (by simp) hl rfl)))))

include hb in
theorem go_4tttf (hl : 7 < bm.length) (hg : ¬ 9 < bm.length) (h0 : hdF bm 0 :: tlF bm 0 = Fs bm 0) (h1 : hdF bm 1 :: tlF bm 1 = Fs bm 1) (h2 : hdF bm 2 :: tlF bm 2 = Fs bm 2) (h3 : ([] : List Fld) = Fs bm 3) : ToEndV (n + 400) 12 [.ro 1 (mRows bm) cap] (.ret (.sc (.bool true))) := by
  have hlen : (mRows bm).length = bm.length := by simp [mRows]
  have hd : decide (((8+1 : Nat) : Int) < ((mRows bm).length : Nat)) = false := decide_eq_false (by rw [hlen]; omega)
  have hl : ∀ t ∈ ([strm (fsv [true, true, true, false] (hdF bm) (tlF bm) 1), strm (fsv [true, true, true, false] (hdF bm) (tlF bm) 2), strm (fsv [true, true, true, false] (hdF bm) (tlF bm) 3)] : List Strm), t.2.length ≤ 6 ∧ distinct t.2 := fun t ht => by
    simp only [List.mem_cons, List.not_mem_nil, or_false] at ht
    rcases ht with rfl | rfl | rfl
    · exact strm_ok h1
    · exact strm_ok h2
    · exact strm_ok h3
  exact ToEndV.ofC (lw_4tttf n (mRows bm) cap (mb bm) (hdF bm) (tlF bm) _) (oneS_of n hb cap _ 0 _ (by omega) h0 (oneS_of n hb cap _ 1 _ (by omega) h1 (oneS_of n hb cap _ 2 _ (by omega) h2 (oneS_of n hb cap _ 3 _ (by omega) h3 (endT n (s := strm (fsv [true, true, true, false] (hdF bm) (tlF bm) 0)) (rest := [strm (fsv [true, true, true, false] (hdF bm) (tlF bm) 1), strm (fsv [true, true, true, false] (hdF bm) (tlF bm) 2), strm (fsv [true, true, true, false] (hdF bm) (tlF bm) 3)]) (mRows bm) cap (.bool false) (.bool false) (.tuple #[]) (.tuple #[]) hd (List.cons_ne_nil _ _) (strm_ok h0).1 (by simp) hl rfl)))))

include hb in
theorem go_4ttft (hl : 7 < bm.length) (hg : ¬ 9 < bm.length) (h0 : hdF bm 0 :: tlF bm 0 = Fs bm 0) (h1 : hdF bm 1 :: tlF bm 1 = Fs bm 1) (h2 : ([] : List Fld) = Fs bm 2) (h3 : hdF bm 3 :: tlF bm 3 = Fs bm 3) : ToEndV (n + 400) 12 [.ro 1 (mRows bm) cap] (.ret (.sc (.bool true))) := by
  have hlen : (mRows bm).length = bm.length := by simp [mRows]
  have hd : decide (((8+1 : Nat) : Int) < ((mRows bm).length : Nat)) = false := decide_eq_false (by rw [hlen]; omega)
  have hl : ∀ t ∈ ([strm (fsv [true, true, false, true] (hdF bm) (tlF bm) 1), strm (fsv [true, true, false, true] (hdF bm) (tlF bm) 2), strm (fsv [true, true, false, true] (hdF bm) (tlF bm) 3)] : List Strm), t.2.length ≤ 6 ∧ distinct t.2 := fun t ht => by
    simp only [List.mem_cons, List.not_mem_nil, or_false] at ht
    rcases ht with rfl | rfl | rfl
    · exact strm_ok h1
    · exact strm_ok h2
    · exact strm_ok h3
  exact ToEndV.ofC (lw_4ttft n (mRows bm) cap (mb bm) (hdF bm) (tlF bm) _) (oneS_of n hb cap _ 0 _ (by omega) h0 (oneS_of n hb cap _ 1 _ (by omega) h1 (oneS_of n hb cap _ 2 _ (by omega) h2 (oneS_of n hb cap _ 3 _ (by omega) h3 (endT n (s := strm (fsv [true, true, false, true] (hdF bm) (tlF bm) 0)) (rest := [strm (fsv [true, true, false, true] (hdF bm) (tlF bm) 1), strm (fsv [true, true, false, true] (hdF bm) (tlF bm) 2), strm (fsv [true, true, false, true] (hdF bm) (tlF bm) 3)]) (mRows bm) cap (.bool false) (.bool false) (.tuple #[]) (.tuple #[]) hd (List.cons_ne_nil _ _) (strm_ok h0).1 (by simp) hl rfl)))))

include hb in
theorem go_4ttff (hl : 7 < bm.length) (hg : ¬ 9 < bm.length) (h0 : hdF bm 0 :: tlF bm 0 = Fs bm 0) (h1 : hdF bm 1 :: tlF bm 1 = Fs bm 1) (h2 : ([] : List Fld) = Fs bm 2) (h3 : ([] : List Fld) = Fs bm 3) : ToEndV (n + 400) 12 [.ro 1 (mRows bm) cap] (.ret (.sc (.bool true))) := by
  have hlen : (mRows bm).length = bm.length := by simp [mRows]
  have hd : decide (((8+1 : Nat) : Int) < ((mRows bm).length : Nat)) = false := decide_eq_false (by rw [hlen]; omega)
  have hl : ∀ t ∈ ([strm (fsv [true, true, false, false] (hdF bm) (tlF bm) 1), strm (fsv [true, true, false, false] (hdF bm) (tlF bm) 2), strm (fsv [true, true, false, false] (hdF bm) (tlF bm) 3)] : List Strm), t.2.length ≤ 6 ∧ distinct t.2 := fun t ht => by
    simp only [List.mem_cons, List.not_mem_nil, or_false] at ht
    rcases ht with rfl | rfl | rfl
    · exact strm_ok h1
    · exact strm_ok h2
    · exact strm_ok h3
  exact ToEndV.ofC (lw_4ttff n (mRows bm) cap (mb bm) (hdF bm) (tlF bm) _) (oneS_of n hb cap _ 0 _ (by omega) h0 (oneS_of n hb cap _ 1 _ (by omega) h1 (oneS_of n hb cap _ 2 _ (by omega) h2 (oneS_of n hb cap _ 3 _ (by omega) h3 (endT n (s := strm (fsv [true, true, false, false] (hdF bm) (tlF bm) 0)) (rest := [strm (fsv [true, true, false, false] (hdF bm) (tlF bm) 1), strm (fsv [true, true, false, false] (hdF bm) (tlF bm) 2), strm (fsv [true, true, false, false] (hdF bm) (tlF bm) 3)]) (mRows bm) cap (.bool false) (.bool false) (.tuple #[]) (.tuple #[]) hd (List.cons_ne_nil _ _) (strm_ok h0).1 (by simp) hl rfl)))))

include hb in
theorem go_4tftt (hl : 7 < bm.length) (hg : ¬ 9 < bm.length) (h0 : hdF bm 0 :: tlF bm 0 = Fs bm 0) (h1 : ([] : List Fld) = Fs bm 1) (h2 : hdF bm 2 :: tlF bm 2 = Fs bm 2) (h3 : hdF bm 3 :: tlF bm 3 = Fs bm 3) : ToEndV (n + 400) 12 [.ro 1 (mRows bm) cap] (.ret (.sc (.bool true))) := by
  have hlen : (mRows bm).length = bm.length := by simp [mRows]
  have hd : decide (((8+1 : Nat) : Int) < ((mRows bm).length : Nat)) = false := decide_eq_false (by rw [hlen]; omega)
  have hl : ∀ t ∈ ([strm (fsv [true, false, true, true] (hdF bm) (tlF bm) 1), strm (fsv [true, false, true, true] (hdF bm) (tlF bm) 2), strm (fsv [true, false, true, true] (hdF bm) (tlF bm) 3)] : List Strm), t.2.length ≤ 6 ∧ distinct t.2 := fun t ht => by
    simp only [List.mem_cons, List.not_mem_nil, or_false] at ht
    rcases ht with rfl | rfl | rfl
    · exact strm_ok h1
    · exact strm_ok h2
    · exact strm_ok h3
  exact ToEndV.ofC (lw_4tftt n (mRows bm) cap (mb bm) (hdF bm) (tlF bm) _) (oneS_of n hb cap _ 0 _ (by omega) h0 (oneS_of n hb cap _ 1 _ (by omega) h1 (oneS_of n hb cap _ 2 _ (by omega) h2 (oneS_of n hb cap _ 3 _ (by omega) h3 (endT n (s := strm (fsv [true, false, true, true] (hdF bm) (tlF bm) 0)) (rest := [strm (fsv [true, false, true, true] (hdF bm) (tlF bm) 1), strm (fsv [true, false, true, true] (hdF bm) (tlF bm) 2), strm (fsv [true, false, true, true] (hdF bm) (tlF bm) 3)]) (mRows bm) cap (.bool false) (.bool false) (.tuple #[]) (.tuple #[]) hd (List.cons_ne_nil _ _) (strm_ok h0).1 (by simp) hl rfl)))))

include hb in
theorem go_4tftf (hl : 7 < bm.length) (hg : ¬ 9 < bm.length) (h0 : hdF bm 0 :: tlF bm 0 = Fs bm 0) (h1 : ([] : List Fld) = Fs bm 1) (h2 : hdF bm 2 :: tlF bm 2 = Fs bm 2) (h3 : ([] : List Fld) = Fs bm 3) : ToEndV (n + 400) 12 [.ro 1 (mRows bm) cap] (.ret (.sc (.bool true))) := by
  have hlen : (mRows bm).length = bm.length := by simp [mRows]
  have hd : decide (((8+1 : Nat) : Int) < ((mRows bm).length : Nat)) = false := decide_eq_false (by rw [hlen]; omega)
  have hl : ∀ t ∈ ([strm (fsv [true, false, true, false] (hdF bm) (tlF bm) 1), strm (fsv [true, false, true, false] (hdF bm) (tlF bm) 2), strm (fsv [true, false, true, false] (hdF bm) (tlF bm) 3)] : List Strm), t.2.length ≤ 6 ∧ distinct t.2 := fun t ht => by
    simp only [List.mem_cons, List.not_mem_nil, or_false] at ht
    rcases ht with rfl | rfl | rfl
    · exact strm_ok h1
    · exact strm_ok h2
    · exact strm_ok h3
  exact ToEndV.ofC (lw_4tftf n (mRows bm) cap (mb bm) (hdF bm) (tlF bm) _) (oneS_of n hb cap _ 0 _ (by omega) h0 (oneS_of n hb cap _ 1 _ (by omega) h1 (oneS_of n hb cap _ 2 _ (by omega) h2 (oneS_of n hb cap _ 3 _ (by omega) h3 (endT n (s := strm (fsv [true, false, true, false] (hdF bm) (tlF bm) 0)) (rest := [strm (fsv [true, false, true, false] (hdF bm) (tlF bm) 1), strm (fsv [true, false, true, false] (hdF bm) (tlF bm) 2), strm (fsv [true, false, true, false] (hdF bm) (tlF bm) 3)]) (mRows bm) cap (.bool false) (.bool false) (.tuple #[]) (.tuple #[]) hd (List.cons_ne_nil _ _) (strm_ok h0).1 (by simp) hl rfl)))))

include hb in
theorem go_4tfft (hl : 7 < bm.length) (hg : ¬ 9 < bm.length) (h0 : hdF bm 0 :: tlF bm 0 = Fs bm 0) (h1 : ([] : List Fld) = Fs bm 1) (h2 : ([] : List Fld) = Fs bm 2) (h3 : hdF bm 3 :: tlF bm 3 = Fs bm 3) : ToEndV (n + 400) 12 [.ro 1 (mRows bm) cap] (.ret (.sc (.bool true))) := by
  have hlen : (mRows bm).length = bm.length := by simp [mRows]
  have hd : decide (((8+1 : Nat) : Int) < ((mRows bm).length : Nat)) = false := decide_eq_false (by rw [hlen]; omega)
  have hl : ∀ t ∈ ([strm (fsv [true, false, false, true] (hdF bm) (tlF bm) 1), strm (fsv [true, false, false, true] (hdF bm) (tlF bm) 2), strm (fsv [true, false, false, true] (hdF bm) (tlF bm) 3)] : List Strm), t.2.length ≤ 6 ∧ distinct t.2 := fun t ht => by
    simp only [List.mem_cons, List.not_mem_nil, or_false] at ht
    rcases ht with rfl | rfl | rfl
    · exact strm_ok h1
    · exact strm_ok h2
    · exact strm_ok h3
  exact ToEndV.ofC (lw_4tfft n (mRows bm) cap (mb bm) (hdF bm) (tlF bm) _) (oneS_of n hb cap _ 0 _ (by omega) h0 (oneS_of n hb cap _ 1 _ (by omega) h1 (oneS_of n hb cap _ 2 _ (by omega) h2 (oneS_of n hb cap _ 3 _ (by omega) h3 (endT n (s := strm (fsv [true, false, false, true] (hdF bm) (tlF bm) 0)) (rest := [strm (fsv [true, false, false, true] (hdF bm) (tlF bm) 1), strm (fsv [true, false, false, true] (hdF bm) (tlF bm) 2), strm (fsv [true, false, false, true] (hdF bm) (tlF bm) 3)]) (mRows bm) cap (.bool false) (.bool false) (.tuple #[]) (.tuple #[]) hd (List.cons_ne_nil _ _) (strm_ok h0).1 (by simp) hl rfl)))))

include hb in
theorem go_4tfff (hl : 7 < bm.length) (hg : ¬ 9 < bm.length) (h0 : hdF bm 0 :: tlF bm 0 = Fs bm 0) (h1 : ([] : List Fld) = Fs bm 1) (h2 : ([] : List Fld) = Fs bm 2) (h3 : ([] : List Fld) = Fs bm 3) : ToEndV (n + 400) 12 [.ro 1 (mRows bm) cap] (.ret (.sc (.bool true))) := by
  have hlen : (mRows bm).length = bm.length := by simp [mRows]
  have hd : decide (((8+1 : Nat) : Int) < ((mRows bm).length : Nat)) = false := decide_eq_false (by rw [hlen]; omega)
  have hl : ∀ t ∈ ([strm (fsv [true, false, false, false] (hdF bm) (tlF bm) 1), strm (fsv [true, false, false, false] (hdF bm) (tlF bm) 2), strm (fsv [true, false, false, false] (hdF bm) (tlF bm) 3)] : List Strm), t.2.length ≤ 6 ∧ distinct t.2 := fun t ht => by
    simp only [List.mem_cons, List.not_mem_nil, or_false] at ht
    rcases ht with rfl | rfl | rfl
    · exact strm_ok h1
    · exact strm_ok h2
    · exact strm_ok h3
  exact ToEndV.ofC (lw_4tfff n (mRows bm) cap (mb bm) (hdF bm) (tlF bm) _) (oneS_of n hb cap _ 0 _ (by omega) h0 (oneS_of n hb cap _ 1 _ (by omega) h1 (oneS_of n hb cap _ 2 _ (by omega) h2 (oneS_of n hb cap _ 3 _ (by omega) h3 (endT n (s := strm (fsv [true, false, false, false] (hdF bm) (tlF bm) 0)) (rest := [strm (fsv [true, false, false, false] (hdF bm) (tlF bm) 1), strm (fsv [true, false, false, false] (hdF bm) (tlF bm) 2), strm (fsv [true, false, false, false] (hdF bm) (tlF bm) 3)]) (mRows bm) cap (.bool false) (.bool false) (.tuple #[]) (.tuple #[]) hd (List.cons_ne_nil _ _) (strm_ok h0).1 (by simp) hl rfl)))))

include hb in
theorem go_4fttt (hl : 7 < bm.length) (hg : ¬ 9 < bm.length) (h0 : ([] : List Fld) = Fs bm 0) (h1 : hdF bm 1 :: tlF bm 1 = Fs bm 1) (h2 : hdF bm 2 :: tlF bm 2 = Fs bm 2) (h3 : hdF bm 3 :: tlF bm 3 = Fs bm 3) : ToEndV (n + 400) 12 [.ro 1 (mRows bm) cap] (.ret (.sc (.bool true))) := by
  have hlen : (mRows bm).length = bm.length := by simp [mRows]
  have hd : decide (((8+1 : Nat) : Int) < ((mRows bm).length : Nat)) = false := decide_eq_false (by rw [hlen]; omega)
  have hl : ∀ t ∈ ([strm (fsv [false, true, true, true] (hdF bm) (tlF bm) 1), strm (fsv [false, true, true, true] (hdF bm) (tlF bm) 2), strm (fsv [false, true, true, true] (hdF bm) (tlF bm) 3)] : List Strm), t.2.length ≤ 6 ∧ distinct t.2 := fun t ht => by
    simp only [List.mem_cons, List.not_mem_nil, or_false] at ht
    rcases ht with rfl | rfl | rfl
    · exact strm_ok h1
    · exact strm_ok h2
    · exact strm_ok h3
  exact ToEndV.ofC (lw_4fttt n (mRows bm) cap (mb bm) (hdF bm) (tlF bm) _) (oneS_of n hb cap _ 0 _ (by omega) h0 (oneS_of n hb cap _ 1 _ (by omega) h1 (oneS_of n hb cap _ 2 _ (by omega) h2 (oneS_of n hb cap _ 3 _ (by omega) h3 (endF n (s := strm (fsv [false, true, true, true] (hdF bm) (tlF bm) 0)) (rest := [strm (fsv [false, true, true, true] (hdF bm) (tlF bm) 1), strm (fsv [false, true, true, true] (hdF bm) (tlF bm) 2), strm (fsv [false, true, true, true] (hdF bm) (tlF bm) 3)]) hd rfl (by simp) (fun t ht => (hl t ht).1) rfl)))))

include hb in
theorem go_4fttf (hl : 7 < bm.length) (hg : ¬ 9 < bm.length) (h0 : ([] : List Fld) = Fs bm 0) (h1 : hdF bm 1 :: tlF bm 1 = Fs bm 1) (h2 : hdF bm 2 :: tlF bm 2 = Fs bm 2) (h3 : ([] : List Fld) = Fs bm 3) : ToEndV (n + 400) 12 [.ro 1 (mRows bm) cap] (.ret (.sc (.bool true))) := by
  have hlen : (mRows bm).length = bm.length := by simp [mRows]
  have hd : decide (((8+1 : Nat) : Int) < ((mRows bm).length : Nat)) = false := decide_eq_false (by rw [hlen]; omega)
  have hl : ∀ t ∈ ([strm (fsv [false, true, true, false] (hdF bm) (tlF bm) 1), strm (fsv [false, true, true, false] (hdF bm) (tlF bm) 2), strm (fsv [false, true, true, false] (hdF bm) (tlF bm) 3)] : List Strm), t.2.length ≤ 6 ∧ distinct t.2 := fun t ht => by
    simp only [List.mem_cons, List.not_mem_nil, or_false] at ht
    rcases ht with rfl | rfl | rfl
    · exact strm_ok h1
    · exact strm_ok h2
    · exact strm_ok h3
  exact ToEndV.ofC (lw_4fttf n (mRows bm) cap (mb bm) (hdF bm) (tlF bm) _) (oneS_of n hb cap _ 0 _ (by omega) h0 (oneS_of n hb cap _ 1 _ (by omega) h1 (oneS_of n hb cap _ 2 _ (by omega) h2 (oneS_of n hb cap _ 3 _ (by omega) h3 (endF n (s := strm (fsv [false, true, true, false] (hdF bm) (tlF bm) 0)) (rest := [strm (fsv [false, true, true, false] (hdF bm) (tlF bm) 1), strm (fsv [false, true, true, false] (hdF bm) (tlF bm) 2), strm (fsv [false, true, true, false] (hdF bm) (tlF bm) 3)]) hd rfl (by simp) (fun t ht => (hl t ht).1) rfl)))))

include hb in
theorem go_4ftft (hl : 7 < bm.length) (hg : ¬ 9 < bm.length) (h0 : ([] : List Fld) = Fs bm 0) (h1 : hdF bm 1 :: tlF bm 1 = Fs bm 1) (h2 : ([] : List Fld) = Fs bm 2) (h3 : hdF bm 3 :: tlF bm 3 = Fs bm 3) : ToEndV (n + 400) 12 [.ro 1 (mRows bm) cap] (.ret (.sc (.bool true))) := by
  have hlen : (mRows bm).length = bm.length := by simp [mRows]
  have hd : decide (((8+1 : Nat) : Int) < ((mRows bm).length : Nat)) = false := decide_eq_false (by rw [hlen]; omega)
  have hl : ∀ t ∈ ([strm (fsv [false, true, false, true] (hdF bm) (tlF bm) 1), strm (fsv [false, true, false, true] (hdF bm) (tlF bm) 2), strm (fsv [false, true, false, true] (hdF bm) (tlF bm) 3)] : List Strm), t.2.length ≤ 6 ∧ distinct t.2 := fun t ht => by
    simp only [List.mem_cons, List.not_mem_nil, or_false] at ht
    rcases ht with rfl | rfl | rfl
    · exact strm_ok h1
    · exact strm_ok h2
    · exact strm_ok h3
  exact ToEndV.ofC (lw_4ftft n (mRows bm) cap (mb bm) (hdF bm) (tlF bm) _) (oneS_of n hb cap _ 0 _ (by omega) h0 (oneS_of n hb cap _ 1 _ (by omega) h1 (oneS_of n hb cap _ 2 _ (by omega) h2 (oneS_of n hb cap _ 3 _ (by omega) h3 (endF n (s := strm (fsv [false, true, false, true] (hdF bm) (tlF bm) 0)) (rest := [strm (fsv [false, true, false, true] (hdF bm) (tlF bm) 1), strm (fsv [false, true, false, true] (hdF bm) (tlF bm) 2), strm (fsv [false, true, false, true] (hdF bm) (tlF bm) 3)]) hd rfl (by simp) (fun t ht => (hl t ht).1) rfl)))))

include hb in
theorem go_4ftff (hl : 7 < bm.length) (hg : ¬ 9 < bm.length) (h0 : ([] : List Fld) = Fs bm 0) (h1 : hdF bm 1 :: tlF bm 1 = Fs bm 1) (h2 : ([] : List Fld) = Fs bm 2) (h3 : ([] : List Fld) = Fs bm 3) : ToEndV (n + 400) 12 [.ro 1 (mRows bm) cap] (.ret (.sc (.bool true))) := by
  have hlen : (mRows bm).length = bm.length := by simp [mRows]
  have hd : decide (((8+1 : Nat) : Int) < ((mRows bm).length : Nat)) = false := decide_eq_false (by rw [hlen]; omega)
  have hl : ∀ t ∈ ([strm (fsv [false, true, false, false] (hdF bm) (tlF bm) 1), strm (fsv [false, true, false, false] (hdF bm) (tlF bm) 2), strm (fsv [false, true, false, false] (hdF bm) (tlF bm) 3)] : List Strm), t.2.length ≤ 6 ∧ distinct t.2 := fun t ht => by
    simp only [List.mem_cons, List.not_mem_nil, or_false] at ht
    rcases ht with rfl | rfl | rfl
    · exact strm_ok h1
    · exact strm_ok h2
    · exact strm_ok h3
  exact ToEndV.ofC (lw_4ftff n (mRows bm) cap (mb bm) (hdF bm) (tlF bm) _) (oneS_of n hb cap _ 0 _ (by omega) h0 (oneS_of n hb cap _ 1 _ (by omega) h1 (oneS_of n hb cap _ 2 _ (by omega) h2 (oneS_of n hb cap _ 3 _ (by omega) h3 (endF n (s := strm (fsv [false, true, false, false] (hdF bm) (tlF bm) 0)) (rest := [strm (fsv [false, true, false, false] (hdF bm) (tlF bm) 1), strm (fsv [false, true, false, false] (hdF bm) (tlF bm) 2), strm (fsv [false, true, false, false] (hdF bm) (tlF bm) 3)]) hd rfl (by simp) (fun t ht => (hl t ht).1) rfl)))))

include hb in
theorem go_4fftt (hl : 7 < bm.length) (hg : ¬ 9 < bm.length) (h0 : ([] : List Fld) = Fs bm 0) (h1 : ([] : List Fld) = Fs bm 1) (h2 : hdF bm 2 :: tlF bm 2 = Fs bm 2) (h3 : hdF bm 3 :: tlF bm 3 = Fs bm 3) : ToEndV (n + 400) 12 [.ro 1 (mRows bm) cap] (.ret (.sc (.bool true))) := by
  have hlen : (mRows bm).length = bm.length := by simp [mRows]
  have hd : decide (((8+1 : Nat) : Int) < ((mRows bm).length : Nat)) = false := decide_eq_false (by rw [hlen]; omega)
  have hl : ∀ t ∈ ([strm (fsv [false, false, true, true] (hdF bm) (tlF bm) 1), strm (fsv [false, false, true, true] (hdF bm) (tlF bm) 2), strm (fsv [false, false, true, true] (hdF bm) (tlF bm) 3)] : List Strm), t.2.length ≤ 6 ∧ distinct t.2 := fun t ht => by
    simp only [List.mem_cons, List.not_mem_nil, or_false] at ht
    rcases ht with rfl | rfl | rfl
    · exact strm_ok h1
    · exact strm_ok h2
    · exact strm_ok h3
  exact ToEndV.ofC (lw_4fftt n (mRows bm) cap (mb bm) (hdF bm) (tlF bm) _) (oneS_of n hb cap _ 0 _ (by omega) h0 (oneS_of n hb cap _ 1 _ (by omega) h1 (oneS_of n hb cap _ 2 _ (by omega) h2 (oneS_of n hb cap _ 3 _ (by omega) h3 (endF n (s := strm (fsv [false, false, true, true] (hdF bm) (tlF bm) 0)) (rest := [strm (fsv [false, false, true, true] (hdF bm) (tlF bm) 1), strm (fsv [false, false, true, true] (hdF bm) (tlF bm) 2), strm (fsv [false, false, true, true] (hdF bm) (tlF bm) 3)]) hd rfl (by simp) (fun t ht => (hl t ht).1) rfl)))))

include hb in
theorem go_4fftf (hl : 7 < bm.length) (hg : ¬ 9 < bm.length) (h0 : ([] : List Fld) = Fs bm 0) (h1 : ([] : List Fld) = Fs bm 1) (h2 : hdF bm 2 :: tlF bm 2 = Fs bm 2) (h3 : ([] : List Fld) = Fs bm 3) : ToEndV (n + 400) 12 [.ro 1 (mRows bm) cap] (.ret (.sc (.bool true))) := by
  have hlen : (mRows bm).length = bm.length := by simp [mRows]
  have hd : decide (((8+1 : Nat) : Int) < ((mRows bm).length : Nat)) = false := decide_eq_false (by rw [hlen]; omega)
  have hl : ∀ t ∈ ([strm (fsv [false, false, true, false] (hdF bm) (tlF bm) 1), strm (fsv [false, false, true, false] (hdF bm) (tlF bm) 2), strm (fsv [false, false, true, false] (hdF bm) (tlF bm) 3)] : List Strm), t.2.length ≤ 6 ∧ distinct t.2 := fun t ht => by
    simp only [List.mem_cons, List.not_mem_nil, or_false] at ht
    rcases ht with rfl | rfl | rfl
    · exact strm_ok h1
    · exact strm_ok h2
    · exact strm_ok h3
  exact ToEndV.ofC (lw_4fftf n (mRows bm) cap (mb bm) (hdF bm) (tlF bm) _) (oneS_of n hb cap _ 0 _ (by omega) h0 (oneS_of n hb cap _ 1 _ (by omega) h1 (oneS_of n hb cap _ 2 _ (by omega) h2 (oneS_of n hb cap _ 3 _ (by omega) h3 (endF n (s := strm (fsv [false, false, true, false] (hdF bm) (tlF bm) 0)) (rest := [strm (fsv [false, false, true, false] (hdF bm) (tlF bm) 1), strm (fsv [false, false, true, false] (hdF bm) (tlF bm) 2), strm (fsv [false, false, true, false] (hdF bm) (tlF bm) 3)]) hd rfl (by simp) (fun t ht => (hl t ht).1) rfl)))))

include hb in
theorem go_4ffft (hl : 7 < bm.length) (hg : ¬ 9 < bm.length) (h0 : ([] : List Fld) = Fs bm 0) (h1 : ([] : List Fld) = Fs bm 1) (h2 : ([] : List Fld) = Fs bm 2) (h3 : hdF bm 3 :: tlF bm 3 = Fs bm 3) : ToEndV (n + 400) 12 [.ro 1 (mRows bm) cap] (.ret (.sc (.bool true))) := by
  have hlen : (mRows bm).length = bm.length := by simp [mRows]
  have hd : decide (((8+1 : Nat) : Int) < ((mRows bm).length : Nat)) = false := decide_eq_false (by rw [hlen]; omega)
  have hl : ∀ t ∈ ([strm (fsv [false, false, false, true] (hdF bm) (tlF bm) 1), strm (fsv [false, false, false, true] (hdF bm) (tlF bm) 2), strm (fsv [false, false, false, true] (hdF bm) (tlF bm) 3)] : List Strm), t.2.length ≤ 6 ∧ distinct t.2 := fun t ht => by
    simp only [List.mem_cons, List.not_mem_nil, or_false] at ht
    rcases ht with rfl | rfl | rfl
    · exact strm_ok h1
    · exact strm_ok h2
    · exact strm_ok h3
  exact ToEndV.ofC (lw_4ffft n (mRows bm) cap (mb bm) (hdF bm) (tlF bm) _) (oneS_of n hb cap _ 0 _ (by omega) h0 (oneS_of n hb cap _ 1 _ (by omega) h1 (oneS_of n hb cap _ 2 _ (by omega) h2 (oneS_of n hb cap _ 3 _ (by omega) h3 (endF n (s := strm (fsv [false, false, false, true] (hdF bm) (tlF bm) 0)) (rest := [strm (fsv [false, false, false, true] (hdF bm) (tlF bm) 1), strm (fsv [false, false, false, true] (hdF bm) (tlF bm) 2), strm (fsv [false, false, false, true] (hdF bm) (tlF bm) 3)]) hd rfl (by simp) (fun t ht => (hl t ht).1) rfl)))))

include hb in
theorem go_4ffff (hl : 7 < bm.length) (hg : ¬ 9 < bm.length) (h0 : ([] : List Fld) = Fs bm 0) (h1 : ([] : List Fld) = Fs bm 1) (h2 : ([] : List Fld) = Fs bm 2) (h3 : ([] : List Fld) = Fs bm 3) : ToEndV (n + 400) 12 [.ro 1 (mRows bm) cap] (.ret (.sc (.bool true))) := by
  have hlen : (mRows bm).length = bm.length := by simp [mRows]
  have hd : decide (((8+1 : Nat) : Int) < ((mRows bm).length : Nat)) = false := decide_eq_false (by rw [hlen]; omega)
  have hl : ∀ t ∈ ([strm (fsv [false, false, false, false] (hdF bm) (tlF bm) 1), strm (fsv [false, false, false, false] (hdF bm) (tlF bm) 2), strm (fsv [false, false, false, false] (hdF bm) (tlF bm) 3)] : List Strm), t.2.length ≤ 6 ∧ distinct t.2 := fun t ht => by
    simp only [List.mem_cons, List.not_mem_nil, or_false] at ht
    rcases ht with rfl | rfl | rfl
    · exact strm_ok h1
    · exact strm_ok h2
    · exact strm_ok h3
  exact ToEndV.ofC (lw_4ffff n (mRows bm) cap (mb bm) (hdF bm) (tlF bm) _) (oneS_of n hb cap _ 0 _ (by omega) h0 (oneS_of n hb cap _ 1 _ (by omega) h1 (oneS_of n hb cap _ 2 _ (by omega) h2 (oneS_of n hb cap _ 3 _ (by omega) h3 (endF n (s := strm (fsv [false, false, false, false] (hdF bm) (tlF bm) 0)) (rest := [strm (fsv [false, false, false, false] (hdF bm) (tlF bm) 1), strm (fsv [false, false, false, false] (hdF bm) (tlF bm) 2), strm (fsv [false, false, false, false] (hdF bm) (tlF bm) 3)]) hd rfl (by simp) (fun t ht => (hl t ht).1) rfl)))))

include hb in
theorem go_4gtttt (hl : 7 < bm.length) (hg : 9 < bm.length) (h0 : hdF bm 0 :: tlF bm 0 = Fs bm 0) (h1 : hdF bm 1 :: tlF bm 1 = Fs bm 1) (h2 : hdF bm 2 :: tlF bm 2 = Fs bm 2) (h3 : hdF bm 3 :: tlF bm 3 = Fs bm 3) : ToEndV (n + 400) 12 [.ro 1 (mRows bm) cap] (.ret (.sc (.bool true))) := by
  have hlen : (mRows bm).length = bm.length := by simp [mRows]
  have hd : decide (((8+1 : Nat) : Int) < ((mRows bm).length : Nat)) = true := decide_eq_true (by rw [hlen]; omega)
  have hl : ∀ t ∈ ([strm (fsv [true, true, true, true] (hdF bm) (tlF bm) 1), strm (fsv [true, true, true, true] (hdF bm) (tlF bm) 2), strm (fsv [true, true, true, true] (hdF bm) (tlF bm) 3)] : List Strm), t.2.length ≤ 6 ∧ distinct t.2 := fun t ht => by
    simp only [List.mem_cons, List.not_mem_nil, or_false] at ht
    rcases ht with rfl | rfl | rfl
    · exact strm_ok h1
    · exact strm_ok h2
    · exact strm_ok h3
  exact ToEndV.ofC (lw_4gtttt n (mRows bm) cap (mb bm) (hdF bm) (tlF bm) _) (oneS_of n hb cap _ 0 _ (by omega) h0 (oneS_of n hb cap _ 1 _ (by omega) h1 (oneS_of n hb cap _ 2 _ (by omega) h2 (oneS_of n hb cap _ 3 _ (by omega) h3 (endT n (s := strm (fsv [true, true, true, true] (hdF bm) (tlF bm) 0)) (rest := [strm (fsv [true, true, true, true] (hdF bm) (tlF bm) 1), strm (fsv [true, true, true, true] (hdF bm) (tlF bm) 2), strm (fsv [true, true, true, true] (hdF bm) (tlF bm) 3)]) (mRows bm) cap (.bool true) (.bool true) (.int .i64 8) (.bool false) hd (List.cons_ne_nil _ _) (strm_ok h0).1 (by simp) hl rfl)))))

include hb in
theorem go_4gtttf (hl : 7 < bm.length) (hg : 9 < bm.length) (h0 : hdF bm 0 :: tlF bm 0 = Fs bm 0) (h1 : hdF bm 1 :: tlF bm 1 = Fs bm 1) (h2 : hdF bm 2 :: tlF bm 2 = Fs bm 2) (h3 : ([] : List Fld) = Fs bm 3) : ToEndV (n + 400) 12 [.ro 1 (mRows bm) cap] (.ret (.sc (.bool true))) := by
  have hlen : (mRows bm).length = bm.length := by simp [mRows]
  have hd : decide (((8+1 : Nat) : Int) < ((mRows bm).length : Nat)) = true := decide_eq_true (by rw [hlen]; omega)
  have hl : ∀ t ∈ ([strm (fsv [true, true, true, false] (hdF bm) (tlF bm) 1), strm (fsv [true, true, true, false] (hdF bm) (tlF bm) 2), strm (fsv [true, true, true, false] (hdF bm) (tlF bm) 3)] : List Strm), t.2.length ≤ 6 ∧ distinct t.2 := fun t ht => by
    simp only [List.mem_cons, List.not_mem_nil, or_false] at ht
    rcases ht with rfl | rfl | rfl
    · exact strm_ok h1
    · exact strm_ok h2
    · exact strm_ok h3
  exact ToEndV.ofC (lw_4gtttf n (mRows bm) cap (mb bm) (hdF bm) (tlF bm) _) (oneS_of n hb cap _ 0 _ (by omega) h0 (oneS_of n hb cap _ 1 _ (by omega) h1 (oneS_of n hb cap _ 2 _ (by omega) h2 (oneS_of n hb cap _ 3 _ (by omega) h3 (endT n (s := strm (fsv [true, true, true, false] (hdF bm) (tlF bm) 0)) (rest := [strm (fsv [true, true, true, false] (hdF bm) (tlF bm) 1), strm (fsv [true, true, true, false] (hdF bm) (tlF bm) 2), strm (fsv [true, true, true, false] (hdF bm) (tlF bm) 3)]) (mRows bm) cap (.bool true) (.bool true) (.int .i64 8) (.bool false) hd (List.cons_ne_nil _ _) (strm_ok h0).1 (by simp) hl rfl)))))

include hb in
theorem go_4gttft (hl : 7 < bm.length) (hg : 9 < bm.length) (h0 : hdF bm 0 :: tlF bm 0 = Fs bm 0) (h1 : hdF bm 1 :: tlF bm 1 = Fs bm 1) (h2 : ([] : List Fld) = Fs bm 2) (h3 : hdF bm 3 :: tlF bm 3 = Fs bm 3) : ToEndV (n + 400) 12 [.ro 1 (mRows bm) cap] (.ret (.sc (.bool true))) := by
  have hlen : (mRows bm).length = bm.length := by simp [mRows]
  have hd : decide (((8+1 : Nat) : Int) < ((mRows bm).length : Nat)) = true := decide_eq_true (by rw [hlen]; omega)
  have hl : ∀ t ∈ ([strm (fsv [true, true, false, true] (hdF bm) (tlF bm) 1), strm (fsv [true, true, false, true] (hdF bm) (tlF bm) 2), strm (fsv [true, true, false, true] (hdF bm) (tlF bm) 3)] : List Strm), t.2.length ≤ 6 ∧ distinct t.2 := fun t ht => by
    simp only [List.mem_cons, List.not_mem_nil, or_false] at ht
    rcases ht with rfl | rfl | rfl
    · exact strm_ok h1
    · exact strm_ok h2
    · exact strm_ok h3
  exact ToEndV.ofC (lw_4gttft n (mRows bm) cap (mb bm) (hdF bm) (tlF bm) _) (oneS_of n hb cap _ 0 _ (by omega) h0 (oneS_of n hb cap _ 1 _ (by omega) h1 (oneS_of n hb cap _ 2 _ (by omega) h2 (oneS_of n hb cap _ 3 _ (by omega) h3 (endT n (s := strm (fsv [true, true, false, true] (hdF bm) (tlF bm) 0)) (rest := [strm (fsv [true, true, false, true] (hdF bm) (tlF bm) 1), strm (fsv [true, true, false, true] (hdF bm) (tlF bm) 2), strm (fsv [true, true, false, true] (hdF bm) (tlF bm) 3)]) (mRows bm) cap (.bool true) (.bool true) (.int .i64 8) (.bool false) hd (List.cons_ne_nil _ _) (strm_ok h0).1 (by simp) hl rfl)))))

include hb in
theorem go_4gttff (hl : 7 < bm.length) (hg : 9 < bm.length) (h0 : hdF bm 0 :: tlF bm 0 = Fs bm 0) (h1 : hdF bm 1 :: tlF bm 1 = Fs bm 1) (h2 : ([] : List Fld) = Fs bm 2) (h3 : ([] : List Fld) = Fs bm 3) : ToEndV (n + 400) 12 [.ro 1 (mRows bm) cap] (.ret (.sc (.bool true))) := by
  have hlen : (mRows bm).length = bm.length := by simp [mRows]
  have hd : decide (((8+1 : Nat) : Int) < ((mRows bm).length : Nat)) = true := decide_eq_true (by rw [hlen]; omega)
  have hl : ∀ t ∈ ([strm (fsv [true, true, false, false] (hdF bm) (tlF bm) 1), strm (fsv [true, true, false, false] (hdF bm) (tlF bm) 2), strm (fsv [true, true, false, false] (hdF bm) (tlF bm) 3)] : List Strm), t.2.length ≤ 6 ∧ distinct t.2 := fun t ht => by
    simp only [List.mem_cons, List.not_mem_nil, or_false] at ht
    rcases ht with rfl | rfl | rfl
    · exact strm_ok h1
    · exact strm_ok h2
    · exact strm_ok h3
  exact ToEndV.ofC (lw_4gttff n (mRows bm) cap (mb bm) (hdF bm) (tlF bm) _) (oneS_of n hb cap _ 0 _ (by omega) h0 (oneS_of n hb cap _ 1 _ (by omega) h1 (oneS_of n hb cap _ 2 _ (by omega) h2 (oneS_of n hb cap _ 3 _ (by omega) h3 (endT n (s := strm (fsv [true, true, false, false] (hdF bm) (tlF bm) 0)) (rest := [strm (fsv [true, true, false, false] (hdF bm) (tlF bm) 1), strm (fsv [true, true, false, false] (hdF bm) (tlF bm) 2), strm (fsv [true, true, false, false] (hdF bm) (tlF bm) 3)]) (mRows bm) cap (.bool true) (.bool true) (.int .i64 8) (.bool false) hd (List.cons_ne_nil _ _) (strm_ok h0).1 (by simp) hl rfl)))))

include hb in
theorem go_4gtftt (hl : 7 < bm.length) (hg : 9 < bm.length) (h0 : hdF bm 0 :: tlF bm 0 = Fs bm 0) (h1 : ([] : List Fld) = Fs bm 1) (h2 : hdF bm 2 :: tlF bm 2 = Fs bm 2) (h3 : hdF bm 3 :: tlF bm 3 = Fs bm 3) : ToEndV (n + 400) 12 [.ro 1 (mRows bm) cap] (.ret (.sc (.bool true))) := by
  have hlen : (mRows bm).length = bm.length := by simp [mRows]
  have hd : decide (((8+1 : Nat) : Int) < ((mRows bm).length : Nat)) = true := decide_eq_true (by rw [hlen]; omega)
  have hl : ∀ t ∈ ([strm (fsv [true, false, true, true] (hdF bm) (tlF bm) 1), strm (fsv [true, false, true, true] (hdF bm) (tlF bm) 2), strm (fsv [true, false, true, true] (hdF bm) (tlF bm) 3)] : List Strm), t.2.length ≤ 6 ∧ distinct t.2 := fun t ht => by
    simp only [List.mem_cons, List.not_mem_nil, or_false] at ht
    rcases ht with rfl | rfl | rfl
    · exact strm_ok h1
    · exact strm_ok h2
    · exact strm_ok h3
  exact ToEndV.ofC (lw_4gtftt n (mRows bm) cap (mb bm) (hdF bm) (tlF bm) _) (oneS_of n hb cap _ 0 _ (by omega) h0 (oneS_of n hb cap _ 1 _ (by omega) h1 (oneS_of n hb cap _ 2 _ (by omega) h2 (oneS_of n hb cap _ 3 _ (by omega) h3 (endT n (s := strm (fsv [true, false, true, true] (hdF bm) (tlF bm) 0)) (rest := [strm (fsv [true, false, true, true] (hdF bm) (tlF bm) 1), strm (fsv [true, false, true, true] (hdF bm) (tlF bm) 2), strm (fsv [true, false, true, true] (hdF bm) (tlF bm) 3)]) (mRows bm) cap (.bool true) (.bool true) (.int .i64 8) (.bool false) hd (List.cons_ne_nil _ _) (strm_ok h0).1 (by simp) hl rfl)))))

include hb in
theorem go_4gtftf (hl : 7 < bm.length) (hg : 9 < bm.length) (h0 : hdF bm 0 :: tlF bm 0 = Fs bm 0) (h1 : ([] : List Fld) = Fs bm 1) (h2 : hdF bm 2 :: tlF bm 2 = Fs bm 2) (h3 : ([] : List Fld) = Fs bm 3) : ToEndV (n + 400) 12 [.ro 1 (mRows bm) cap] (.ret (.sc (.bool true))) := by
  have hlen : (mRows bm).length = bm.length := by simp [mRows]
  have hd : decide (((8+1 : Nat) : Int) < ((mRows bm).length : Nat)) = true := decide_eq_true (by rw [hlen]; omega)
  have hl : ∀ t ∈ ([strm (fsv [true, false, true, false] (hdF bm) (tlF bm) 1), strm (fsv [true, false, true, false] (hdF bm) (tlF bm) 2), strm (fsv [true, false, true, false] (hdF bm) (tlF bm) 3)] : List Strm), t.2.length ≤ 6 ∧ distinct t.2 := fun t ht => by
    simp only [List.mem_cons, List.not_mem_nil, or_false] at ht
    rcases ht with rfl | rfl | rfl
    · exact strm_ok h1
    · exact strm_ok h2
    · exact strm_ok h3
  exact ToEndV.ofC (lw_4gtftf n (mRows bm) cap (mb bm) (hdF bm) (tlF bm) _) (oneS_of n hb cap _ 0 _ (by omega) h0 (oneS_of n hb cap _ 1 _ (by omega) h1 (oneS_of n hb cap _ 2 _ (by omega) h2 (oneS_of n hb cap _ 3 _ (by omega) h3 (endT n (s := strm (fsv [true, false, true, false] (hdF bm) (tlF bm) 0)) (rest := [strm (fsv [true, false, true, false] (hdF bm) (tlF bm) 1), strm (fsv [true, false, true, false] (hdF bm) (tlF bm) 2), strm (fsv [true, false, true, false] (hdF bm) (tlF bm) 3)]) (mRows bm) cap (.bool true) (.bool true) (.int .i64 8) (.bool false) hd (List.cons_ne_nil _ _) (strm_ok h0).1 (by simp) hl rfl)))))

include hb in
theorem go_4gtfft (hl : 7 < bm.length) (hg : 9 < bm.length) (h0 : hdF bm 0 :: tlF bm 0 = Fs bm 0) (h1 : ([] : List Fld) = Fs bm 1) (h2 : ([] : List Fld) = Fs bm 2) (h3 : hdF bm 3 :: tlF bm 3 = Fs bm 3) : ToEndV (n + 400) 12 [.ro 1 (mRows bm) cap] (.ret (.sc (.bool true))) := by
  have hlen : (mRows bm).length = bm.length := by simp [mRows]
  have hd : decide (((8+1 : Nat) : Int) < ((mRows bm).length : Nat)) = true := decide_eq_true (by rw [hlen]; omega)
  have hl : ∀ t ∈ ([strm (fsv [true, false, false, true] (hdF bm) (tlF bm) 1), strm (fsv [true, false, false, true] (hdF bm) (tlF bm) 2), strm (fsv [true, false, false, true] (hdF bm) (tlF bm) 3)] : List Strm), t.2.length ≤ 6 ∧ distinct t.2 := fun t ht => by
    simp only [List.mem_cons, List.not_mem_nil, or_false] at ht
    rcases ht with rfl | rfl | rfl
    · exact strm_ok h1
    · exact strm_ok h2
    · exact strm_ok h3
  exact ToEndV.ofC (lw_4gtfft n (mRows bm) cap (mb bm) (hdF bm) (tlF bm) _) (oneS_of n hb cap _ 0 _ (by omega) h0 (oneS_of n hb cap _ 1 _ (by omega) h1 (oneS_of n hb cap _ 2 _ (by omega) h2 (oneS_of n hb cap _ 3 _ (by omega) h3 (endT n (s := strm (fsv [true, false, false, true] (hdF bm) (tlF bm) 0)) (rest := [strm (fsv [true, false, false, true] (hdF bm) (tlF bm) 1), strm (fsv [true, false, false, true] (hdF bm) (tlF bm) 2), strm (fsv [true, false, false, true] (hdF bm) (tlF bm) 3)]) (mRows bm) cap (.bool true) (.bool true) (.int .i64 8) (.bool false) hd (List.cons_ne_nil _ _) (strm_ok h0).1 (by simp) hl rfl)))))

include hb in
theorem go_4gtfff (hl : 7 < bm.length) (hg : 9 < bm.length) (h0 : hdF bm 0 :: tlF bm 0 = Fs bm 0) (h1 : ([] : List Fld) = Fs bm 1) (h2 : ([] : List Fld) = Fs bm 2) (h3 : ([] : List Fld) = Fs bm 3) : ToEndV (n + 400) 12 [.ro 1 (mRows bm) cap] (.ret (.sc (.bool true))) := by
  have hlen : (mRows bm).length = bm.length := by simp [mRows]
  have hd : decide (((8+1 : Nat) : Int) < ((mRows bm).length : Nat)) = true := decide_eq_true (by rw [hlen]; omega)
  have hl : ∀ t ∈ ([strm (fsv [true, false, false, false] (hdF bm) (tlF bm) 1), strm (fsv [true, false, false, false] (hdF bm) (tlF bm) 2), strm (fsv [true, false, false, false] (hdF bm) (tlF bm) 3)] : List Strm), t.2.length ≤ 6 ∧ distinct t.2 := fun t ht => by
    simp only [List.mem_cons, List.not_mem_nil, or_false] at ht
    rcases ht with rfl | rfl | rfl
    · exact strm_ok h1
    · exact strm_ok h2
    · exact strm_ok h3
  exact ToEndV.ofC (lw_4gtfff n (mRows bm) cap (mb bm) (hdF bm) (tlF bm) _) (oneS_of n hb cap _ 0 _ (by omega) h0 (oneS_of n hb cap _ 1 _ (by omega) h1 (oneS_of n hb cap _ 2 _ (by omega) h2 (oneS_of n hb cap _ 3 _ (by omega) h3 (endT n (s := strm (fsv [true, false, false, false] (hdF bm) (tlF bm) 0)) (rest := [strm (fsv [true, false, false, false] (hdF bm) (tlF bm) 1), strm (fsv [true, false, false, false] (hdF bm) (tlF bm) 2), strm (fsv [true, false, false, false] (hdF bm) (tlF bm) 3)]) (mRows bm) cap (.bool true) (.bool true) (.int .i64 8) (.bool false) hd (List.cons_ne_nil _ _) (strm_ok h0).1 (by simp) hl rfl)))))

include hb in
theorem go_4gfttt (hl : 7 < bm.length) (hg : 9 < bm.length) (h0 : ([] : List Fld) = Fs bm 0) (h1 : hdF bm 1 :: tlF bm 1 = Fs bm 1) (h2 : hdF bm 2 :: tlF bm 2 = Fs bm 2) (h3 : hdF bm 3 :: tlF bm 3 = Fs bm 3) : ToEndV (n + 400) 12 [.ro 1 (mRows bm) cap] (.ret (.sc (.bool true))) := by
  have hlen : (mRows bm).length = bm.length := by simp [mRows]
  have hd : decide (((8+1 : Nat) : Int) < ((mRows bm).length : Nat)) = true := decide_eq_true (by rw [hlen]; omega)
  have hl : ∀ t ∈ ([strm (fsv [false, true, true, true] (hdF bm) (tlF bm) 1), strm (fsv [false, true, true, true] (hdF bm) (tlF bm) 2), strm (fsv [false, true, true, true] (hdF bm) (tlF bm) 3)] : List Strm), t.2.length ≤ 6 ∧ distinct t.2 := fun t ht => by
    simp only [List.mem_cons, List.not_mem_nil, or_false] at ht
    rcases ht with rfl | rfl | rfl
    · exact strm_ok h1
    · exact strm_ok h2
    · exact strm_ok h3
  exact ToEndV.ofC (lw_4gfttt n (mRows bm) cap (mb bm) (hdF bm) (tlF bm) _) (oneS_of n hb cap _ 0 _ (by omega) h0 (oneS_of n hb cap _ 1 _ (by omega) h1 (oneS_of n hb cap _ 2 _ (by omega) h2 (oneS_of n hb cap _ 3 _ (by omega) h3 (endF n (s := strm (fsv [false, true, true, true] (hdF bm) (tlF bm) 0)) (rest := [strm (fsv [false, true, true, true] (hdF bm) (tlF bm) 1), strm (fsv [false, true, true, true] (hdF bm) (tlF bm) 2), strm (fsv [false, true, true, true] (hdF bm) (tlF bm) 3)]) hd rfl (by simp) (fun t ht => (hl t ht).1) rfl)))))

include hb in
theorem go_4gfttf (hl : 7 < bm.length) (hg : 9 < bm.length) (h0 : ([] : List Fld) = Fs bm 0) (h1 : hdF bm 1 :: tlF bm 1 = Fs bm 1) (h2 : hdF bm 2 :: tlF bm 2 = Fs bm 2) (h3 : ([] : List Fld) = Fs bm 3) : ToEndV (n + 400) 12 [.ro 1 (mRows bm) cap] (.ret (.sc (.bool true))) := by
  have hlen : (mRows bm).length = bm.length := by simp [mRows]
  have hd : decide (((8+1 : Nat) : Int) < ((mRows bm).length : Nat)) = true := decide_eq_true (by rw [hlen]; omega)
  have hl : ∀ t ∈ ([strm (fsv [false, true, true, false] (hdF bm) (tlF bm) 1), strm (fsv [false, true, true, false] (hdF bm) (tlF bm) 2), strm (fsv [false, true, true, false] (hdF bm) (tlF bm) 3)] : List Strm), t.2.length ≤ 6 ∧ distinct t.2 := fun t ht => by
    simp only [List.mem_cons, List.not_mem_nil, or_false] at ht
    rcases ht with rfl | rfl | rfl
    · exact strm_ok h1
    · exact strm_ok h2
    · exact strm_ok h3
  exact ToEndV.ofC (lw_4gfttf n (mRows bm) cap (mb bm) (hdF bm) (tlF bm) _) (oneS_of n hb cap _ 0 _ (by omega) h0 (oneS_of n hb cap _ 1 _ (by omega) h1 (oneS_of n hb cap _ 2 _ (by omega) h2 (oneS_of n hb cap _ 3 _ (by omega) h3 (endF n (s := strm (fsv [false, true, true, false] (hdF bm) (tlF bm) 0)) (rest := [strm (fsv [false, true, true, false] (hdF bm) (tlF bm) 1), strm (fsv [false, true, true, false] (hdF bm) (tlF bm) 2), strm (fsv [false, true, true, false] (hdF bm) (tlF bm) 3)]) hd rfl (by simp) (fun t ht => (hl t ht).1) rfl)))))

include hb in
theorem go_4gftft (hl : 7 < bm.length) (hg : 9 < bm.length) (h0 : ([] : List Fld) = Fs bm 0) (h1 : hdF bm 1 :: tlF bm 1 = Fs bm 1) (h2 : ([] : List Fld) = Fs bm 2) (h3 : hdF bm 3 :: tlF bm 3 = Fs bm 3) : ToEndV (n + 400) 12 [.ro 1 (mRows bm) cap] (.ret (.sc (.bool true))) := by
  have hlen : (mRows bm).length = bm.length := by simp [mRows]
  have hd : decide (((8+1 : Nat) : Int) < ((mRows bm).length : Nat)) = true := decide_eq_true (by rw [hlen]; omega)
  have hl : ∀ t ∈ ([strm (fsv [false, true, false, true] (hdF bm) (tlF bm) 1), strm (fsv [false, true, false, true] (hdF bm) (tlF bm) 2), strm (fsv [false, true, false, true] (hdF bm) (tlF bm) 3)] : List Strm), t.2.length ≤ 6 ∧ distinct t.2 := fun t ht => by
    simp only [List.mem_cons, List.not_mem_nil, or_false] at ht
    rcases ht with rfl | rfl | rfl
    · exact strm_ok h1
    · exact strm_ok h2
    · exact strm_ok h3
  exact ToEndV.ofC (lw_4gftft n (mRows bm) cap (mb bm) (hdF bm) (tlF bm) _) (oneS_of n hb cap _ 0 _ (by omega) h0 (oneS_of n hb cap _ 1 _ (by omega) h1 (oneS_of n hb cap _ 2 _ (by omega) h2 (oneS_of n hb cap _ 3 _ (by omega) h3 (endF n (s := strm (fsv [false, true, false, true] (hdF bm) (tlF bm) 0)) (rest := [strm (fsv [false, true, false, true] (hdF bm) (tlF bm) 1), strm (fsv [false, true, false, true] (hdF bm) (tlF bm) 2), strm (fsv [false, true, false, true] (hdF bm) (tlF bm) 3)]) hd rfl (by simp) (fun t ht => (hl t ht).1) rfl)))))

include hb in
theorem go_4gftff (hl : 7 < bm.length) (hg : 9 < bm.length) (h0 : ([] : List Fld) = Fs bm 0) (h1 : hdF bm 1 :: tlF bm 1 = Fs bm 1) (h2 : ([] : List Fld) = Fs bm 2) (h3 : ([] : List Fld) = Fs bm 3) : ToEndV (n + 400) 12 [.ro 1 (mRows bm) cap] (.ret (.sc (.bool true))) := by
  have hlen : (mRows bm).length = bm.length := by simp [mRows]
  have hd : decide (((8+1 : Nat) : Int) < ((mRows bm).length : Nat)) = true := decide_eq_true (by rw [hlen]; omega)
  have hl : ∀ t ∈ ([strm (fsv [false, true, false, false] (hdF bm) (tlF bm) 1), strm (fsv [false, true, false, false] (hdF bm) (tlF bm) 2), strm (fsv [false, true, false, false] (hdF bm) (tlF bm) 3)] : List Strm), t.2.length ≤ 6 ∧ distinct t.2 := fun t ht => by
    simp only [List.mem_cons, List.not_mem_nil, or_false] at ht
    rcases ht with rfl | rfl | rfl
    · exact strm_ok h1
    · exact strm_ok h2
    · exact strm_ok h3
  exact ToEndV.ofC (lw_4gftff n (mRows bm) cap (mb bm) (hdF bm) (tlF bm) _) (oneS_of n hb cap _ 0 _ (by omega) h0 (oneS_of n hb cap _ 1 _ (by omega) h1 (oneS_of n hb cap _ 2 _ (by omega) h2 (oneS_of n hb cap _ 3 _ (by omega) h3 (endF n (s := strm (fsv [false, true, false, false] (hdF bm) (tlF bm) 0)) (rest := [strm (fsv [false, true, false, false] (hdF bm) (tlF bm) 1), strm (fsv [false, true, false, false] (hdF bm) (tlF bm) 2), strm (fsv [false, true, false, false] (hdF bm) (tlF bm) 3)]) hd rfl (by simp) (fun t ht => (hl t ht).1) rfl)))))

include hb in
theorem go_4gfftt (hl : 7 < bm.length) (hg : 9 < bm.length) (h0 : ([] : List Fld) = Fs bm 0) (h1 : ([] : List Fld) = Fs bm 1) (h2 : hdF bm 2 :: tlF bm 2 = Fs bm 2) (h3 : hdF bm 3 :: tlF bm 3 = Fs bm 3) : ToEndV (n + 400) 12 [.ro 1 (mRows bm) cap] (.ret (.sc (.bool true))) := by
  have hlen : (mRows bm).length = bm.length := by simp [mRows]
  have hd : decide (((8+1 : Nat) : Int) < ((mRows bm).length : Nat)) = true := decide_eq_true (by rw [hlen]; omega)
  have hl : ∀ t ∈ ([strm (fsv [false, false, true, true] (hdF bm) (tlF bm) 1), strm (fsv [false, false, true, true] (hdF bm) (tlF bm) 2), strm (fsv [false, false, true, true] (hdF bm) (tlF bm) 3)] : List Strm), t.2.length ≤ 6 ∧ distinct t.2 := fun t ht => by
    simp only [List.mem_cons, List.not_mem_nil, or_false] at ht
    rcases ht with rfl | rfl | rfl
    · exact strm_ok h1
    · exact strm_ok h2
    · exact strm_ok h3
  exact ToEndV.ofC (lw_4gfftt n (mRows bm) cap (mb bm) (hdF bm) (tlF bm) _) (oneS_of n hb cap _ 0 _ (by omega) h0 (oneS_of n hb cap _ 1 _ (by omega) h1 (oneS_of n hb cap _ 2 _ (by omega) h2 (oneS_of n hb cap _ 3 _ (by omega) h3 (endF n (s := strm (fsv [false, false, true, true] (hdF bm) (tlF bm) 0)) (rest := [strm (fsv [false, false, true, true] (hdF bm) (tlF bm) 1), strm (fsv [false, false, true, true] (hdF bm) (tlF bm) 2), strm (fsv [false, false, true, true] (hdF bm) (tlF bm) 3)]) hd rfl (by simp) (fun t ht => (hl t ht).1) rfl)))))

include hb in
theorem go_4gfftf (hl : 7 < bm.length) (hg : 9 < bm.length) (h0 : ([] : List Fld) = Fs bm 0) (h1 : ([] : List Fld) = Fs bm 1) (h2 : hdF bm 2 :: tlF bm 2 = Fs bm 2) (h3 : ([] : List Fld) = Fs bm 3) : ToEndV (n + 400) 12 [.ro 1 (mRows bm) cap] (.ret (.sc (.bool true))) := by
  have hlen : (mRows bm).length = bm.length := by simp [mRows]
  have hd : decide (((8+1 : Nat) : Int) < ((mRows bm).length : Nat)) = true := decide_eq_true (by rw [hlen]; omega)
  have hl : ∀ t ∈ ([strm (fsv [false, false, true, false] (hdF bm) (tlF bm) 1), strm (fsv [false, false, true, false] (hdF bm) (tlF bm) 2), strm (fsv [false, false, true, false] (hdF bm) (tlF bm) 3)] : List Strm), t.2.length ≤ 6 ∧ distinct t.2 := fun t ht => by
    simp only [List.mem_cons, List.not_mem_nil, or_false] at ht
    rcases ht with rfl | rfl | rfl
    · exact strm_ok h1
    · exact strm_ok h2
    · exact strm_ok h3
  exact ToEndV.ofC (lw_4gfftf n (mRows bm) cap (mb bm) (hdF bm) (tlF bm) _) (oneS_of n hb cap _ 0 _ (by omega) h0 (oneS_of n hb cap _ 1 _ (by omega) h1 (oneS_of n hb cap _ 2 _ (by omega) h2 (oneS_of n hb cap _ 3 _ (by omega) h3 (endF n (s := strm (fsv [false, false, true, false] (hdF bm) (tlF bm) 0)) (rest := [strm (fsv [false, false, true, false] (hdF bm) (tlF bm) 1), strm (fsv [false, false, true, false] (hdF bm) (tlF bm) 2), strm (fsv [false, false, true, false] (hdF bm) (tlF bm) 3)]) hd rfl (by simp) (fun t ht => (hl t ht).1) rfl)))))

include hb in
theorem go_4gffft (hl : 7 < bm.length) (hg : 9 < bm.length) (h0 : ([] : List Fld) = Fs bm 0) (h1 : ([] : List Fld) = Fs bm 1) (h2 : ([] : List Fld) = Fs bm 2) (h3 : hdF bm 3 :: tlF bm 3 = Fs bm 3) : ToEndV (n + 400) 12 [.ro 1 (mRows bm) cap] (.ret (.sc (.bool true))) := by
  have hlen : (mRows bm).length = bm.length := by simp [mRows]
  have hd : decide (((8+1 : Nat) : Int) < ((mRows bm).length : Nat)) = true := decide_eq_true (by rw [hlen]; omega)
  have hl : ∀ t ∈ ([strm (fsv [false, false, false, true] (hdF bm) (tlF bm) 1), strm (fsv [false, false, false, true] (hdF bm) (tlF bm) 2), strm (fsv [false, false, false, true] (hdF bm) (tlF bm) 3)] : List Strm), t.2.length ≤ 6 ∧ distinct t.2 := fun t ht => by
    simp only [List.mem_cons, List.not_mem_nil, or_false] at ht
    rcases ht with rfl | rfl | rfl
    · exact strm_ok h1
    · exact strm_ok h2
    · exact strm_ok h3
  exact ToEndV.ofC (lw_4gffft n (mRows bm) cap (mb bm) (hdF bm) (tlF bm) _) (oneS_of n hb cap _ 0 _ (by omega) h0 (oneS_of n hb cap _ 1 _ (by omega) h1 (oneS_of n hb cap _ 2 _ (by omega) h2 (oneS_of n hb cap _ 3 _ (by omega) h3 (endF n (s := strm (fsv [false, false, false, true] (hdF bm) (tlF bm) 0)) (rest := [strm (fsv [false, false, false, true] (hdF bm) (tlF bm) 1), strm (fsv [false, false, false, true] (hdF bm) (tlF bm) 2), strm (fsv [false, false, false, true] (hdF bm) (tlF bm) 3)]) hd rfl (by simp) (fun t ht => (hl t ht).1) rfl)))))

include hb in
theorem go_4gffff (hl : 7 < bm.length) (hg : 9 < bm.length) (h0 : ([] : List Fld) = Fs bm 0) (h1 : ([] : List Fld) = Fs bm 1) (h2 : ([] : List Fld) = Fs bm 2) (h3 : ([] : List Fld) = Fs bm 3) : ToEndV (n + 400) 12 [.ro 1 (mRows bm) cap] (.ret (.sc (.bool true))) := by
  have hlen : (mRows bm).length = bm.length := by simp [mRows]
  have hd : decide (((8+1 : Nat) : Int) < ((mRows bm).length : Nat)) = true := decide_eq_true (by rw [hlen]; omega)
  have hl : ∀ t ∈ ([strm (fsv [false, false, false, false] (hdF bm) (tlF bm) 1), strm (fsv [false, false, false, false] (hdF bm) (tlF bm) 2), strm (fsv [false, false, false, false] (hdF bm) (tlF bm) 3)] : List Strm), t.2.length ≤ 6 ∧ distinct t.2 := fun t ht => by
    simp only [List.mem_cons, List.not_mem_nil, or_false] at ht
    rcases ht with rfl | rfl | rfl
    · exact strm_ok h1
    · exact strm_ok h2
    · exact strm_ok h3
  exact ToEndV.ofC (lw_4gffff n (mRows bm) cap (mb bm) (hdF bm) (tlF bm) _) (oneS_of n hb cap _ 0 _ (by omega) h0 (oneS_of n hb cap _ 1 _ (by omega) h1 (oneS_of n hb cap _ 2 _ (by omega) h2 (oneS_of n hb cap _ 3 _ (by omega) h3 (endF n (s := strm (fsv [false, false, false, false] (hdF bm) (tlF bm) 0)) (rest := [strm (fsv [false, false, false, false] (hdF bm) (tlF bm) 1), strm (fsv [false, false, false, false] (hdF bm) (tlF bm) 2), strm (fsv [false, false, false, false] (hdF bm) (tlF bm) 3)]) hd rfl (by simp) (fun t ht => (hl t ht).1) rfl)))))
end

theorem common_run {bm : List Int} {m : AV} (hm : IsM bm m) : ∃ n H1, call CV n 12 [m] [] = some (.ret (.sc (.bool true)), H1) := by
  suffices t : ToEndV (0 + 400) 12 [m] (.ret (.sc (.bool true))) from ⟨_, t.ex⟩
  have hc := common_nil.mono (m := 0 + 393) (by omega)
  have hb := hm.size
  rcases hm.form with ⟨cap, rfl⟩ | ⟨_, rfl⟩
  · have hlen : (mRows bm).length = bm.length := by simp [mRows]
    rcases Nat.lt_or_ge 1 bm.length with g1 | g1
    rotate_left
    · exact ToEndV.ofC (lw_0 0 (mRows bm) cap _) ⟨decide_eq_false (by rw [hlen]; omega), hc, rfl, rfl⟩
    by_cases g2 : 3 < bm.length
    rotate_left
    · rcases sh_of bm 0 with ⟨_, _, h0⟩ | ⟨_, _, h0⟩
      · exact go_1t hb cap 0 (by omega) g2 h0
      · exact go_1f hb cap 0 (by omega) g2 h0
    by_cases g3 : 5 < bm.length
    rotate_left
    · rcases sh_of bm 0 with ⟨_, _, h0⟩ | ⟨_, _, h0⟩
      · rcases sh_of bm 1 with ⟨_, _, h1⟩ | ⟨_, _, h1⟩
        · exact go_2tt hb cap 0 (by omega) g3 h0 h1
        · exact go_2tf hb cap 0 (by omega) g3 h0 h1
      · rcases sh_of bm 1 with ⟨_, _, h1⟩ | ⟨_, _, h1⟩
        · exact go_2ft hb cap 0 (by omega) g3 h0 h1
        · exact go_2ff hb cap 0 (by omega) g3 h0 h1
    by_cases g4 : 7 < bm.length
    rotate_left
    · rcases sh_of bm 0 with ⟨_, _, h0⟩ | ⟨_, _, h0⟩
      · rcases sh_of bm 1 with ⟨_, _, h1⟩ | ⟨_, _, h1⟩
        · rcases sh_of bm 2 with ⟨_, _, h2⟩ | ⟨_, _, h2⟩
          · exact go_3ttt hb cap 0 (by omega) g4 h0 h1 h2
          · exact go_3ttf hb cap 0 (by omega) g4 h0 h1 h2
        · rcases sh_of bm 2 with ⟨_, _, h2⟩ | ⟨_, _, h2⟩
          · exact go_3tft hb cap 0 (by omega) g4 h0 h1 h2
          · exact go_3tff hb cap 0 (by omega) g4 h0 h1 h2
      · rcases sh_of bm 1 with ⟨_, _, h1⟩ | ⟨_, _, h1⟩
        · rcases sh_of bm 2 with ⟨_, _, h2⟩ | ⟨_, _, h2⟩
          · exact go_3ftt hb cap 0 (by omega) g4 h0 h1 h2
          · exact go_3ftf hb cap 0 (by omega) g4 h0 h1 h2
        · rcases sh_of bm 2 with ⟨_, _, h2⟩ | ⟨_, _, h2⟩
          · exact go_3fft hb cap 0 (by omega) g4 h0 h1 h2
          · exact go_3fff hb cap 0 (by omega) g4 h0 h1 h2
    by_cases g5 : 9 < bm.length
    · rcases sh_of bm 0 with ⟨_, _, h0⟩ | ⟨_, _, h0⟩
      · rcases sh_of bm 1 with ⟨_, _, h1⟩ | ⟨_, _, h1⟩
        · rcases sh_of bm 2 with ⟨_, _, h2⟩ | ⟨_, _, h2⟩
          · rcases sh_of bm 3 with ⟨_, _, h3⟩ | ⟨_, _, h3⟩
            · exact go_4gtttt hb cap 0 (by omega) g5 h0 h1 h2 h3
            · exact go_4gtttf hb cap 0 (by omega) g5 h0 h1 h2 h3
          · rcases sh_of bm 3 with ⟨_, _, h3⟩ | ⟨_, _, h3⟩
            · exact go_4gttft hb cap 0 (by omega) g5 h0 h1 h2 h3
            · exact go_4gttff hb cap 0 (by omega) g5 h0 h1 h2 h3
        · rcases sh_of bm 2 with ⟨_, _, h2⟩ | ⟨_, _, h2⟩
          · rcases sh_of bm 3 with ⟨_, _, h3⟩ | ⟨_, _, h3⟩
            · exact go_4gtftt hb cap 0 (by omega) g5 h0 h1 h2 h3
            · exact go_4gtftf hb cap 0 (by omega) g5 h0 h1 h2 h3
          · rcases sh_of bm 3 with ⟨_, _, h3⟩ | ⟨_, _, h3⟩
            · exact go_4gtfft hb cap 0 (by omega) g5 h0 h1 h2 h3
            · exact go_4gtfff hb cap 0 (by omega) g5 h0 h1 h2 h3
      · rcases sh_of bm 1 with ⟨_, _, h1⟩ | ⟨_, _, h1⟩
        · rcases sh_of bm 2 with ⟨_, _, h2⟩ | ⟨_, _, h2⟩
          · rcases sh_of bm 3 with ⟨_, _, h3⟩ | ⟨_, _, h3⟩
            · exact go_4gfttt hb cap 0 (by omega) g5 h0 h1 h2 h3
            · exact go_4gfttf hb cap 0 (by omega) g5 h0 h1 h2 h3
          · rcases sh_of bm 3 with ⟨_, _, h3⟩ | ⟨_, _, h3⟩
            · exact go_4gftft hb cap 0 (by omega) g5 h0 h1 h2 h3
            · exact go_4gftff hb cap 0 (by omega) g5 h0 h1 h2 h3
        · rcases sh_of bm 2 with ⟨_, _, h2⟩ | ⟨_, _, h2⟩
          · rcases sh_of bm 3 with ⟨_, _, h3⟩ | ⟨_, _, h3⟩
            · exact go_4gfftt hb cap 0 (by omega) g5 h0 h1 h2 h3
            · exact go_4gfftf hb cap 0 (by omega) g5 h0 h1 h2 h3
          · rcases sh_of bm 3 with ⟨_, _, h3⟩ | ⟨_, _, h3⟩
            · exact go_4gffft hb cap 0 (by omega) g5 h0 h1 h2 h3
            · exact go_4gffff hb cap 0 (by omega) g5 h0 h1 h2 h3
    · rcases sh_of bm 0 with ⟨_, _, h0⟩ | ⟨_, _, h0⟩
      · rcases sh_of bm 1 with ⟨_, _, h1⟩ | ⟨_, _, h1⟩
        · rcases sh_of bm 2 with ⟨_, _, h2⟩ | ⟨_, _, h2⟩
          · rcases sh_of bm 3 with ⟨_, _, h3⟩ | ⟨_, _, h3⟩
            · exact go_4tttt hb cap 0 (by omega) g5 h0 h1 h2 h3
            · exact go_4tttf hb cap 0 (by omega) g5 h0 h1 h2 h3
          · rcases sh_of bm 3 with ⟨_, _, h3⟩ | ⟨_, _, h3⟩
            · exact go_4ttft hb cap 0 (by omega) g5 h0 h1 h2 h3
            · exact go_4ttff hb cap 0 (by omega) g5 h0 h1 h2 h3
        · rcases sh_of bm 2 with ⟨_, _, h2⟩ | ⟨_, _, h2⟩
          · rcases sh_of bm 3 with ⟨_, _, h3⟩ | ⟨_, _, h3⟩
            · exact go_4tftt hb cap 0 (by omega) g5 h0 h1 h2 h3
            · exact go_4tftf hb cap 0 (by omega) g5 h0 h1 h2 h3
          · rcases sh_of bm 3 with ⟨_, _, h3⟩ | ⟨_, _, h3⟩
            · exact go_4tfft hb cap 0 (by omega) g5 h0 h1 h2 h3
            · exact go_4tfff hb cap 0 (by omega) g5 h0 h1 h2 h3
      · rcases sh_of bm 1 with ⟨_, _, h1⟩ | ⟨_, _, h1⟩
        · rcases sh_of bm 2 with ⟨_, _, h2⟩ | ⟨_, _, h2⟩
          · rcases sh_of bm 3 with ⟨_, _, h3⟩ | ⟨_, _, h3⟩
            · exact go_4fttt hb cap 0 (by omega) g5 h0 h1 h2 h3
            · exact go_4fttf hb cap 0 (by omega) g5 h0 h1 h2 h3
          · rcases sh_of bm 3 with ⟨_, _, h3⟩ | ⟨_, _, h3⟩
            · exact go_4ftft hb cap 0 (by omega) g5 h0 h1 h2 h3
            · exact go_4ftff hb cap 0 (by omega) g5 h0 h1 h2 h3
        · rcases sh_of bm 2 with ⟨_, _, h2⟩ | ⟨_, _, h2⟩
          · rcases sh_of bm 3 with ⟨_, _, h3⟩ | ⟨_, _, h3⟩
            · exact go_4fftt hb cap 0 (by omega) g5 h0 h1 h2 h3
            · exact go_4fftf hb cap 0 (by omega) g5 h0 h1 h2 h3
          · rcases sh_of bm 3 with ⟨_, _, h3⟩ | ⟨_, _, h3⟩
            · exact go_4ffft hb cap 0 (by omega) g5 h0 h1 h2 h3
            · exact go_4ffff hb cap 0 (by omega) g5 h0 h1 h2 h3
  · exact ToEndV.ofC (lw_n 0 _) ⟨rfl, hc, rfl, rfl⟩

/-- A row of bytes that came in. -/
def InRowC (w : World) (a : Option Addr) (len cap : Nat) (zs : List Int) : Prop := (a = none ∧ len = 0 ∧ cap = 0 ∧ zs = []) ∨
    ∃ x, a = some x ∧ len ≤ cap ∧ cap ≤ maxLen ∧ zs.length = cap ∧ (∀ i, i < zs.length → w.cell? (x.add i) = some (.int .u8 (zs.getD i 0))) ∧ ∀ n ∈ zs, (Lit.int .u8 n).wf = true

theorem common_law {w : World} {a1 : Option Addr} {len1 cap1 : Nat} {z1 : List Int} (h1 : InRowC w a1 len1 cap1 z1) :
    Calls Try.prog 12 #[.slice a1 len1 cap1] w fun e w' => e = .returned (.bool true) ∧ Below w.heap.size w w' := by
  obtain ⟨v1, hv1, hm1⟩ := isM_rowV h1
  have hvl : VL (Im noX noE [] w) w [v1] noE [.slice a1 len1 cap1] := by
    simp only [VL]
    exact ⟨_, _, rfl, hv1, rfl⟩
  obtain ⟨n, hn⟩ := common_run hm1
  exact law_below toldCV CV_P hn rfl hvl

end Go.Ai.Cm
