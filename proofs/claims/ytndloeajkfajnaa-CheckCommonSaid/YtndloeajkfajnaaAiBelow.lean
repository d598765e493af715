/-
  A LAW OVER SLICES OF NUMBERS: what came in as data; nothing that was there is written.
-/
import Derived.Test.YtndloeajkfajnaaAiPrim
import Derived.Below
set_option linter.unusedVariables false
set_option linter.unusedSimpArgs false
namespace Go.Ai
open Go.RowKit

theorem law_below {C : Ctx} (T : Told C) {P : Program} (hP : C.P = P) {n : Nat} {f : FuncId} {args : List AV} (h : ∃ H1, call C n f args [] = some (.ret (.sc (.bool true)), H1)) {w : World} {vs : List Value} {av : Array Value}
    (ha : av = vs.toArray) (hv : VL (Im noX noE [] w) w args noE vs) : Calls P f av w fun e w' => e = .returned (.bool true) ∧ Below w.heap.size w w' := by
  subst hP
  subst ha
  obtain ⟨H1, h⟩ := h
  obtain ⟨_, hc⟩ := call_sound T n f args [] _ _ h
  refine (hc noX noE w vs (HRel_empty fun _ _ h => h.elim) hv).mono ?_
  rintro e w' ⟨x, rfl, E1, h1, h2, h3⟩
  simp only [V] at h3
  subst h3
  exact ⟨rfl, below_of_step h2⟩

def rowsK (k : IntKind) (bs : List Int) : List (List AV) := bs.map fun b => [AV.sc (.int k b)]

/-- A slice of numbers that came in is data. -/
theorem V_row {k : IntKind} {w : World} {a : Option Addr} {len cap : Nat} {zs : List Int} (h : (a = none ∧ len = 0 ∧ cap = 0 ∧ zs = []) ∨
    ∃ x, a = some x ∧ len ≤ cap ∧ cap ≤ maxLen ∧ zs.length = cap ∧ (∀ i, i < zs.length → w.cell? (x.add i) = some (.int k (zs.getD i 0))) ∧ ∀ n ∈ zs, (Lit.int k n).wf = true) :
    ∃ v, V (Im noX noE [] w) w v noE (.slice a len cap) ∧ ((v = .sc (.slice none 0 0) ∧ zs.take len = []) ∨ v = .ro 1 (rowsK k (zs.take len)) (some cap)) ∧
      (∀ n ∈ zs.take len, (Lit.int k n).wf = true) ∧ (zs.take len).length ≤ maxLen := by
  rcases h with ⟨rfl, rfl, rfl, rfl⟩ | ⟨x, rfl, h1, h2, h3, h4, h5⟩
  · exact ⟨.sc (.slice none 0 0), by simp [V], .inl ⟨rfl, rfl⟩, by simp, by simp⟩
  · refine ⟨_, ?_, .inr rfl, fun n hn => h5 n (List.mem_of_mem_take hn), by simp; omega⟩
    have hl : (zs.take len).length = len := by simp; omega
    simp only [V]
    refine ⟨x, cap, by simp [rowsK]; omega, by simp [rowsK]; omega, fun k hk => by cases hk; rfl, fun hne => ?_, ?_⟩
    · have h0 : 0 < zs.length := by
        rcases Nat.eq_zero_or_pos zs.length with h | h
        · exfalso
          apply hne
          have : zs = [] := List.eq_nil_of_length_eq_zero h
          rw [this]
          simp [rowsK]
        · exact h
      have := h4 0 h0
      unfold World.cell? at this
      split at this
      · split at this
        · cases this
        · rename_i hs
          simpa [Addr.add] using hs
      · cases this
    · refine VRR_of_get fun i r hr => ?_
      unfold rowsK at hr
      rw [List.getElem?_map] at hr
      simp only [Option.map_eq_some_iff] at hr
      obtain ⟨z, hz, rfl⟩ := hr
      refine ⟨rfl, VR_of_get fun j c hc => ?_⟩
      obtain ⟨hj, hc⟩ := List.getElem?_eq_some_iff.1 hc
      have hj0 : j = 0 := by simpa using hj
      subst hj0
      simp only [List.getElem_cons_zero] at hc
      subst hc
      have hi : i < zs.length ∧ zs.getD i 0 = z := by
        rw [List.getElem?_take] at hz
        split at hz
        · rw [List.getD_eq_getElem?_getD, hz]
          exact ⟨(List.getElem?_eq_some_iff.1 hz).1, rfl⟩
        · cases hz
      have hcell := h4 i hi.1
      rw [hi.2] at hcell
      have hcell' : w.cell? ⟨x.block, x.off + i * 1 + 0, none⟩ = some (.int k z) := by
        have e1 : (x.add i).block = x.block := by unfold Addr.add; split <;> rfl
        have e2 : (x.add i).off = x.off + i := by
          unfold Addr.add
          split
          · rename_i h0; rw [h0]; rfl
          · rfl
        unfold World.cell? at hcell ⊢
        rw [e1, e2] at hcell
        simp only [Nat.mul_one, Nat.add_zero]
        split at hcell
        · rename_i C t fr hh
          split at hcell
          · cases hcell
          · simpa using hcell
        · cases hcell
      refine ⟨⟨?_, fun hx => hx.elim, Wr_empty⟩, _, hcell', rfl, by simp [V]⟩
      unfold World.cell? at hcell'
      split at hcell'
      · rename_i C t fr hh
        exact (Array.getElem?_eq_some_iff.1 hh).1
      · cases hcell'

end Go.Ai
