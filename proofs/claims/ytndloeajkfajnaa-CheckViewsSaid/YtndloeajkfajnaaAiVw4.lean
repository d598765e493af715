/-
  CheckViews: over what came in.
-/
import Derived.Test.YtndloeajkfajnaaAiVw3
set_option linter.unusedVariables false
set_option linter.unusedSimpArgs false
namespace Go.Ai
open Go.Proofs Go.RowKit

/-- A row of bytes that came in. -/
def InRowV (w : World) (a : Option Addr) (len cap : Nat) (zs : List Int) : Prop := (a = none ∧ len = 0 ∧ cap = 0 ∧ zs = []) ∨
    ∃ x, a = some x ∧ len ≤ cap ∧ cap ≤ maxLen ∧ zs.length = cap ∧ (∀ i, i < zs.length → w.cell? (x.add i) = some (.int .u8 (zs.getD i 0))) ∧ ∀ n ∈ zs, (Lit.int .u8 n).wf = true

theorem views_law {w : World} {k : Int} {a1 a2 : Option Addr} {len1 cap1 len2 cap2 : Nat} {z1 z2 : List Int} (hk : (Lit.int .u8 k).wf = true) (h1 : InRowV w a1 len1 cap1 z1) (h2 : InRowV w a2 len2 cap2 z2) :
    Calls Try.prog 13 #[.int .u8 k, .slice a1 len1 cap1, .slice a2 len2 cap2] w fun e w' => e = .returned (.bool true) ∧ Below w.heap.size w w' := by
  obtain ⟨v1, hv1, hm1⟩ := isM_rowV h1
  obtain ⟨v2, hv2, hm2⟩ := isM_rowV h2
  have hvl : VL (Im noX noE [] w) w [.sc (.int .u8 k), v1, v2] noE [.int .u8 k, .slice a1 len1 cap1, .slice a2 len2 cap2] := by
    simp only [VL]
    exact ⟨_, _, rfl, by simp [V], _, _, rfl, hv1, _, _, rfl, hv2, rfl⟩
  obtain ⟨n, hn⟩ := views_run hm1 hm2 (u8_wf hk).1 (u8_wf hk).2
  exact law_below toldCV CV_P hn rfl hvl

end Go.Ai
