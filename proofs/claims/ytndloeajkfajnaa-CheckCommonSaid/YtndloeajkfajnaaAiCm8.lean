/-
  CheckCommon: the law's hints (under way).
-/
import Derived.Test.YtndloeajkfajnaaAiCm7
set_option linter.unusedVariables false
set_option linter.unusedSimpArgs false
namespace Go.Ai.Cm
open Go.Proofs Go.RowKit

theorem rowsC_data (C : List Fld) : (rowsC C).all isDataL = true := by
  rw [List.all_eq_true]
  intro r hr
  unfold rowsC at hr
  simp only [List.mem_map] at hr
  obtain ⟨f, _, rfl⟩ := hr
  rfl

theorem callA_frzY {n : Nat} {f : FuncId} {args us : List AV} {v : AV} {H : List Blk} (hf : plainV f) (hu : frzL H args = some us) (h : ToEndY n f us v) :
    callA CV (callW CV (exec CV n)) none f args H = some (.val v (match isScalar v with | true => H | false => mark H (slIdsL args))) ∨ True := .inr trivial

theorem T44_ok (nil : Bool) (n : Nat) (args : List AV) (H : List Blk) (K : ORes → Prop) (h : T44 nil n args H K) : ∃ q, callA CV (callW CV (exec CV n)) none 44 args H = some q ∧ K q := by
  unfold T44 at h
  split at h
  case h_2 => exact h.elim
  rename_i us hu
  have e : callW CV (exec CV n) = call CV n := rfl
  have go : ∀ {u v : AV} {H1 : List Blk}, call CV n 44 us [] = some (.ret u, H1) → ((isScalar u = true ∧ u = v) ∨ (isScalar u = false ∧ frz H1 u = some v)) →
      callA CV (callW CV (exec CV n)) none 44 args H = some (.val v (match isScalar u with | true => H | false => mark H (slIdsL args))) := by
    intro u v H1 hc hv
    unfold callA
    rw [show CV.ext 44 = false from rfl]
    simp only [Bool.false_eq_true, if_false]
    unfold preCall
    rw [show CV.settle 44 = false from rfl]
    simp only
    unfold doCall
    rw [show CV.prims 44 = none from rfl]
    simp only [show CV.byRef 44 = false from rfl, show CV.keep 44 = false from rfl, Bool.false_eq_true, if_false, hu, e, hc]
    rcases hv with ⟨h1, rfl⟩ | ⟨h1, h2⟩
    · simp only [h1, if_true]
    · simp only [h1, Bool.false_eq_true, if_false, h2]
  cases nil with
  | true =>
    obtain ⟨⟨u, H1, hc, hv⟩, hk⟩ := h
    have hg := go hc hv
    rcases hv with ⟨h1, rfl⟩ | ⟨h1, h2⟩
    · exact ⟨_, hg, hk⟩
    · rw [h1] at hg
      exfalso
      cases u <;> simp [isScalar, frz] at h1 h2
      all_goals (first | (split at h2 <;> simp at h2) | simp_all)
  | false =>
    obtain ⟨C, ⟨u, H1, hc, hv⟩, hk⟩ := h
    have hg := go hc hv
    rcases hv with ⟨h1, rfl⟩ | ⟨h1, h2⟩
    · simp [isScalar] at h1
    · rw [h1] at hg
      exact ⟨_, hg, hk⟩

def con44 (nil : Bool) : Con CV := oneConV 44 (T44 nil) (T44_ok nil)

/-- The stream that was built, its fields frozen. -/
def putS (fs : Nat → List Fld) (tmps : Tm) (H : List Blk) : ORes := match getT tmps 63 with
  | .agg [nm, .sl b g 0 k c] => .val (.ro 2 [[nm, listC (fs (Nat.div (natAt tmps 5) 2))]] (some 1)) (mark H [b])
  | .agg [nm, X] => .val (.ro 2 [[nm, X]] (some 1)) H
  | _ => .skip H

def h12 (rr : Nat) (gt : Bool) (fs : Nat → List Fld) (d : Nat) : Option Hint := if d = 22 then some (.bitN 5 fun i => Nat.blt i (2 * rr) || gt) else if d = 64 then some (.res (putS fs)) else none

end Go.Ai.Cm
