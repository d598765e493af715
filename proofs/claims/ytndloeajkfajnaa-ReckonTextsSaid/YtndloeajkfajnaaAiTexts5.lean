/-
  ReckonTexts: plain words on texts.
-/
import Derived.Test.YtndloeajkfajnaaAiTexts4
import Derived.Test.YtndloeajkfajnaaAiByte
set_option linter.unusedVariables false
set_option linter.unusedSimpArgs false
namespace Go.Ai

theorem eqBytes_self : ∀ l : List UInt8, eqBytes l l = true
  | [] => rfl
  | a :: l => by
    unfold eqBytes
    rw [show Nat.beq a.toNat a.toNat = true from Nat.beq_refl _]
    exact eqBytes_self l

theorem eqBytes_one {c : UInt8} {l : List UInt8} (h : ∀ b ∈ l, b ≠ c) : eqBytes [c] l = false := by
  cases l with
  | nil => rfl
  | cons b r =>
    unfold eqBytes
    split
    · rename_i e
      have := UInt8.toNat_inj.1 (Nat.eq_of_beq_eq_true e)
      exact absurd this.symm (h b List.mem_cons_self)
    · rfl

theorem idxOf_not {c : UInt8} {l : List UInt8} (h : ∀ b ∈ l, b ≠ c) : idxOf l c = -1 := by
  have e : ((List.range l.length).find? fun i => (⟨⟨l⟩⟩ : ByteArray)[i]! == c) = none := by
    rw [List.find?_eq_none]
    intro i hi
    have hi' : i < l.length := List.mem_range.1 hi
    have hg : (⟨⟨l⟩⟩ : ByteArray)[i]! = l[i] := by
      rw [getElem!_pos (⟨⟨l⟩⟩ : ByteArray) i (by exact hi')]
      rfl
    rw [hg]
    simp only [beq_iff_eq]
    exact h _ (List.getElem_mem hi')
  unfold idxOf
  rw [e]

theorem hasByte_not {c : UInt8} {l : List UInt8} (h : ∀ b ∈ l, b ≠ c) : hasByte l c = false := by
  unfold hasByte
  rw [eqBytes_one h, idxOf_not h]
  rfl

theorem kept_not (l : List UInt8) : ∀ b ∈ kept l, b ≠ 39 := by
  intro b hb
  unfold kept keptAt at hb
  have := (List.mem_filter.1 hb).2
  simpa using this

end Go.Ai
