/-
  ReckonLast: over what came in.
-/
import Derived.Test.YtndloeajkfajnaaAiLast
set_option linter.unusedVariables false
set_option linter.unusedSimpArgs false
namespace Go.Ai
open Go.Proofs Go.RowKit

theorem isM_of_row {w : World} {a : Option Addr} {len cap : Nat} {zs : List Int} (h : (a = none ∧ len = 0 ∧ cap = 0 ∧ zs = []) ∨
    ∃ x, a = some x ∧ len ≤ cap ∧ cap ≤ maxLen ∧ zs.length = cap ∧ (∀ i, i < zs.length → w.cell? (x.add i) = some (.int .u8 (zs.getD i 0))) ∧ ∀ n ∈ zs, (Lit.int .u8 n).wf = true) :
    ∃ v, V (Im noX noE [] w) w v noE (.slice a len cap) ∧ IsM (zs.take len) v := by
  obtain ⟨v, hv, hf, hw, hl⟩ := V_row h
  refine ⟨v, hv, ?_, fun b hb => u8_wf (hw b hb), ?_⟩
  · rcases hf with ⟨h1, h2⟩ | h1
    · exact .inr ⟨h2, h1⟩
    · exact .inl ⟨_, h1⟩
  · have : maxLen = 9223372036854775807 := rfl
    omega

theorem last_law {w : World} {a : Option Addr} {len cap : Nat} {zs : List Int} (h : (a = none ∧ len = 0 ∧ cap = 0 ∧ zs = []) ∨
    ∃ x, a = some x ∧ len ≤ cap ∧ cap ≤ maxLen ∧ zs.length = cap ∧ (∀ i, i < zs.length → w.cell? (x.add i) = some (.int .u8 (zs.getD i 0))) ∧ ∀ n ∈ zs, (Lit.int .u8 n).wf = true)
    (n k : Int) (hk : (Lit.int .u8 k).wf = true) : Calls Try.prog 8 #[.slice a len cap, .int .i64 n, .int .u8 k] w fun e w' => e = .returned (.bool true) ∧ Below w.heap.size w w' := by
  obtain ⟨v, hv, hm⟩ := isM_of_row h
  have hvl : VL (Im noX noE [] w) w [v, .sc (.int .i64 n), .sc (.int .u8 k)] noE [.slice a len cap, .int .i64 n, .int .u8 k] := by
    simp only [VL]
    exact ⟨_, _, rfl, hv, _, _, rfl, by simp [V], _, _, rfl, by simp [V], rfl⟩
  exact law_below toldC8 C8_P (last_run hm n k (u8_wf hk).1) rfl hvl

end Go.Ai
