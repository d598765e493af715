/-
  ReckonShort: over what came in.
-/
import Derived.Test.YtndloeajkfajnaaAiShort2
import Derived.Test.YtndloeajkfajnaaAiBelow
set_option linter.unusedVariables false
set_option linter.unusedSimpArgs false
namespace Go.Ai
open Go.Proofs Go.RowKit

theorem isM_row {w : World} {a : Option Addr} {len cap : Nat} {zs : List Int} (h : (a = none ∧ len = 0 ∧ cap = 0 ∧ zs = []) ∨
    ∃ x, a = some x ∧ len ≤ cap ∧ cap ≤ maxLen ∧ zs.length = cap ∧ (∀ i, i < zs.length → w.cell? (x.add i) = some (.int .u8 (zs.getD i 0))) ∧ ∀ n ∈ zs, (Lit.int .u8 n).wf = true) :
    ∃ v, V (Im noX noE [] w) w v noE (.slice a len cap) ∧ IsM (zs.take len) v := by
  obtain ⟨v, hv, hf, hw, hl⟩ := V_row h
  refine ⟨v, hv, ?_, fun b hb => u8_wf (hw b hb), ?_⟩
  · rcases hf with ⟨h1, h2⟩ | h1
    · exact .inr ⟨h2, h1⟩
    · exact .inl ⟨_, h1⟩
  · have : maxLen = 9223372036854775807 := rfl
    omega

theorem short_law {w : World} {a0 a1 : Option Addr} {len0 cap0 len1 cap1 : Nat} {z0 z1 : List Int} (h0 : (a0 = none ∧ len0 = 0 ∧ cap0 = 0 ∧ z0 = []) ∨
    ∃ x, a0 = some x ∧ len0 ≤ cap0 ∧ cap0 ≤ maxLen ∧ z0.length = cap0 ∧ (∀ i, i < z0.length → w.cell? (x.add i) = some (.int .u8 (z0.getD i 0))) ∧ ∀ n ∈ z0, (Lit.int .u8 n).wf = true)
    (h1 : (a1 = none ∧ len1 = 0 ∧ cap1 = 0 ∧ z1 = []) ∨
    ∃ x, a1 = some x ∧ len1 ≤ cap1 ∧ cap1 ≤ maxLen ∧ z1.length = cap1 ∧ (∀ i, i < z1.length → w.cell? (x.add i) = some (.int .u8 (z1.getD i 0))) ∧ ∀ n ∈ z1, (Lit.int .u8 n).wf = true) :
    Calls Try.prog 7 #[.slice a0 len0 cap0, .slice a1 len1 cap1] w fun e w' => e = .returned (.bool true) ∧ Below w.heap.size w w' := by
  obtain ⟨v0, hv0, hm0⟩ := isM_row h0
  obtain ⟨v1, hv1, hm1⟩ := isM_row h1
  have hvl : VL (Im noX noE [] w) w [v0, v1] noE [.slice a0 len0 cap0, .slice a1 len1 cap1] := by
    simp only [VL]
    exact ⟨_, _, rfl, hv0, _, _, rfl, hv1, rfl⟩
  obtain ⟨n, hn⟩ := short_run hm0 hm1
  exact law_below toldCS CS_P hn rfl hvl

end Go.Ai
