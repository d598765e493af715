/-
  ReckonKinds: plain words on the order of values.
-/
import Derived.Test.YtndloeajkfajnaaAiXp5
import Derived.Laws.Strings
set_option linter.unusedVariables false
set_option linter.unusedSimpArgs false
namespace Go.Ai
open Go.Proofs Go.RowKit

theorem bytesLess_self : ∀ l : List UInt8, Op.bytesLess l l = false
  | [] => rfl
  | a :: l => by
    unfold Op.bytesLess
    rw [bytesLess_self l]
    simp

theorem cmpI_zero (x y : Int) : (cmpI x y == 0) = (x == y) := by
  unfold cmpI
  by_cases h1 : x < y
  · rw [decide_eq_true h1]
    have : ¬ x = y := by omega
    simp [this]
  · rw [decide_eq_false h1]
    by_cases h2 : x > y
    · rw [decide_eq_true h2]
      have : ¬ x = y := by omega
      simp [this]
    · rw [decide_eq_false h2]
      have : x = y := by omega
      simp [this]

theorem cmpS_zero (s t : List UInt8) : (cmpS s t == 0) = ((⟨⟨s⟩⟩ : ByteArray) == ⟨⟨t⟩⟩) := by
  have e1 : (⟨⟨s⟩⟩ : ByteArray).toList = s := by rw [ByteArray.toList_eq]
  have e2 : (⟨⟨t⟩⟩ : ByteArray).toList = t := by rw [ByteArray.toList_eq]
  have e3 : ((⟨⟨s⟩⟩ : ByteArray) == ⟨⟨t⟩⟩) = (s == t) := by
    show ((⟨s⟩ : Array UInt8) == ⟨t⟩) = (s == t)
    simp
  unfold cmpS
  rw [e1, e2, e3]
  by_cases h : s = t
  · subst h
    rw [bytesLess_self]
    simp
  · have hb : (s == t) = false := by simpa using h
    rw [hb]
    cases Op.bytesLess s t <;> simp

theorem orI_zero (x y : Int) : (orI x y == 0) = ((x == 0) && (y == 0)) := by
  unfold orI
  cases h1 : (x == 0)
  · have h2 : (x != 0) = true := by simpa using h1
    rw [h2]
    exact h1
  · have h2 : (x != 0) = false := by simpa using h1
    rw [h2]
    cases h3 : (y == 0)
    · have h4 : (y != 0) = true := by simpa using h3
      rw [h4]
      exact h3
    · have h4 : (y != 0) = false := by simpa using h3
      rw [h4]
      rfl

theorem ord_zero {v w : Vl} (hk : v.k = w.k) : (ordV v w == 0) = ((v.k == w.k) && ((v.n == w.n) && ((⟨⟨v.s⟩⟩ : ByteArray) == ⟨⟨w.s⟩⟩))) := by
  have hb : (v.k != w.k) = false := by simpa using hk
  have hb2 : (v.k == w.k) = true := by simpa using hk
  unfold ordV
  rw [hb, hb2]
  simp only [cond_false]
  rw [orI_zero, cmpI_zero, cmpS_zero]
  simp

end Go.Ai
