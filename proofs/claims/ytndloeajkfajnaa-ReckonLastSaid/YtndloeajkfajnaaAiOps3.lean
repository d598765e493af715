/-
  PARTS OF SLICES, CONVERSIONS, LENGTHS, OPERATIONS OF TWO.
-/
import Derived.Test.YtndloeajkfajnaaAiOps2
set_option linter.unusedVariables false
set_option linter.unusedSimpArgs false
namespace Go.Ai
section
variable {P : Program} {X : Nat → Nat → Prop} {E : Env} {H : List Blk} {w : World} {im : Nat → Nat → Prop}

/-- Bounds that hold: an operand's value is that of the abstract one. -/
def VO (im : Nat → Nat → Prop) (w : World) (E : Env) : Option AV → Option Value → Prop
  | none, none => True
  | some a, some v => V im w a E v
  | _, _ => False

theorem run_sliceBound_in {a : AV} {v : Value} {y n d : Nat} (hv : V im w a E v) (hn : numA d (some a) = some n) (hle : n ≤ y) (code : BoundsCode) : (Instr.sliceBound v y code).run P w = .ok n w := by
  unfold numA at hn
  split at hn
  · cases ‹some a = none›
  · rename_i k i he
    cases he
    simp only [V] at hv
    subst hv
    split at hn
    · rename_i h0
      cases hn
      have hc : 0 ≤ i ∧ i ≤ (y : Int) := ⟨h0, by omega⟩
      simp [Instr.sliceBound, asIntOf, hc]
    · cases hn
  · cases hn

theorem boundsA_sound {len cc l h : Nat} {cap c : Option Nat} {lo hi mx : Option AV} {lv hv mv : Option Value} (hb : boundsA len cap lo hi mx = some (l, h, c)) (hlen : len ≤ cc)
    (h1 : VO im w E lo lv) (h2 : VO im w E hi hv) (h3 : VO im w E mx mv) (b : Bool) :
    ∃ m, (Instr.sliceBounds b len cc lv hv mv).run P w = .ok (l, h, m) w ∧ l ≤ h ∧ h ≤ len ∧ h ≤ m ∧ m ≤ cc ∧ (mx = none → m = cc ∧ c = cap.map (· - l)) ∧ (mx.isSome = true → c = some (m - l) ∧ m ≤ len) := by
  unfold boundsA at hb
  split at hb
  case h_2 => cases hb
  rename_i l0 h0 hl hh
  have hlow : ∀ (code : BoundsCode) (v : Value), lv = some v → l0 ≤ h0 → (Instr.sliceBound v h0 code).run P w = .ok l0 w := by
    intro code v he hle
    subst he
    cases lo with
    | none => exact h1.elim
    | some a => exact run_sliceBound_in h1 hl hle _
  have hlow0 : lv = none → l0 = 0 := by
    intro he
    subst he
    cases lo with
    | none => simp only [numA, Option.some.injEq] at hl; exact hl.symm
    | some a => exact h1.elim
  have hhi : ∀ (code : BoundsCode) (v : Value) (y : Nat), hv = some v → h0 ≤ y → (Instr.sliceBound v y code).run P w = .ok h0 w := by
    intro code v y he hle
    subst he
    cases hi with
    | none => exact h2.elim
    | some a => exact run_sliceBound_in h2 hh hle _
  have hhi0 : hv = none → h0 = len := by
    intro he
    subst he
    cases hi with
    | none => simp only [numA, Option.some.injEq] at hh; exact hh.symm
    | some a => exact h2.elim
  split at hb
  · split at hb
    · rename_i hq
      cases hb
      cases mv with
      | some v => exact h3.elim
      | none =>
        refine ⟨cc, ?_, hq.1, hq.2, by omega, Nat.le_refl _, fun _ => ⟨rfl, rfl⟩, fun h => by simp at h⟩
        unfold Instr.sliceBounds
        cases lv with
        | none =>
          have := hlow0 rfl
          subst this
          cases hv with
          | none =>
            have := hhi0 rfl
            subst this
            simp
          | some v => simp [hhi _ v cc rfl (by omega)]
        | some u =>
          cases hv with
          | none =>
            have := hhi0 rfl
            subst this
            simp [hlow _ u rfl hq.1]
          | some v => simp [hhi _ v cc rfl (by omega), hlow _ u rfl hq.1]
    · cases hb
  · split at hb
    · rename_i m hm
      split at hb
      · rename_i hq
        cases hb
        obtain ⟨hq1, hq2, hq3, hq4⟩ := hq
        cases mv with
        | none => exact h3.elim
        | some v =>
          refine ⟨m, ?_, hq1, by omega, hq2, by omega, fun h => by simp at h, fun _ => ⟨rfl, hq3⟩⟩
          have hmx := fun code => run_sliceBound_in (P := P) h3 hm (y := cc) (by omega) code
          unfold Instr.sliceBounds
          cases hv with
          | none =>
            cases hi with
            | none => simp at hq4
            | some a => exact h2.elim
          | some u =>
            cases lv with
            | none =>
              have := hlow0 rfl
              subst this
              simp [hmx, hhi _ u m rfl hq2]
            | some z => simp [hmx, hhi _ u m rfl hq2, hlow _ z rfl hq1]
      · cases hb
    · cases hb

end
end Go.Ai
