/-
  ReckonKinds: over what came in.
-/
import Derived.Test.YtndloeajkfajnaaAiKd2
import Derived.Test.YtndloeajkfajnaaAiShort3
set_option linter.unusedVariables false
set_option linter.unusedSimpArgs false
namespace Go.Ai
open Go.Proofs Go.RowKit

/-- A row of bytes that came in. -/
def InRow (w : World) (a : Option Addr) (len cap : Nat) (zs : List Int) : Prop := (a = none ∧ len = 0 ∧ cap = 0 ∧ zs = []) ∨
    ∃ x, a = some x ∧ len ≤ cap ∧ cap ≤ maxLen ∧ zs.length = cap ∧ (∀ i, i < zs.length → w.cell? (x.add i) = some (.int .u8 (zs.getD i 0))) ∧ ∀ n ∈ zs, (Lit.int .u8 n).wf = true

theorem kinds_law {w : World} {a0 a1 a2 : Option Addr} {len0 cap0 len1 cap1 len2 cap2 : Nat} {z0 z1 z2 : List Int} (h0 : InRow w a0 len0 cap0 z0) (h1 : InRow w a1 len1 cap1 z1) (h2 : InRow w a2 len2 cap2 z2) {k : Int} (hk : (Lit.int .u8 k).wf = true) :
    Calls Try.prog 9 #[.slice a0 len0 cap0, .slice a1 len1 cap1, .slice a2 len2 cap2, .int .u8 k] w fun e w' => e = .returned (.bool true) ∧ Below w.heap.size w w' := by
  obtain ⟨v0, hv0, hm0⟩ := isM_row h0
  obtain ⟨v1, hv1, hm1⟩ := isM_row h1
  obtain ⟨v2, hv2, hm2⟩ := isM_row h2
  have hvl : VL (Im noX noE [] w) w [v0, v1, v2, .sc (.int .u8 k)] noE [.slice a0 len0 cap0, .slice a1 len1 cap1, .slice a2 len2 cap2, .int .u8 k] := by
    simp only [VL]
    exact ⟨_, _, rfl, hv0, _, _, rfl, hv1, _, _, rfl, hv2, _, _, rfl, by simp [V], rfl⟩
  obtain ⟨n, hn⟩ := kinds_run hm0 hm1 hm2 (u8_wf hk).1 (u8_wf hk).2
  exact law_below toldCS CS_P hn rfl hvl

end Go.Ai
