/-
  A VARIABLE COMES TO BE, whenever its turn is.
-/
import Derived.Test.YtndloeajkfajnaaAiSound
import Derived.Test.YtndloeajkfajnaaAiTrace
set_option linter.unusedVariables false
set_option linter.unusedSimpArgs false
namespace Go.Ai
section
variable {P : Program} {X : Nat → Nat → Prop} {E E' E0 : Env} {H H0 : List Blk} {w w0 : World} {im : Nat → Nat → Prop}

mutual
/-- The blocks that a value names are there. -/
theorem V_refs : ∀ {c : AV} {x : Value} {b : Nat}, V im w c E x → b ∈ refs 0 c → ∃ l, E b = some l
  | .undef, _, b, _, hb => by simp [refs] at hb
  | .sc _, _, b, _, hb => by simp [refs] at hb
  | .rp .., _, b, _, hb => by simp [refs] at hb
  | .ro .., _, b, _, hb => by simp [refs] at hb
  | .ptr b' g i o, x, b, h, hb => by
    simp [refs] at hb
    subst hb
    exact V_ptr_has h
  | .sl b' g s l c, x, b, h, hb => by
    simp [refs] at hb
    subst hb
    exact V_sl_has h
  | .mp b', x, b, h, hb => by
    simp [refs] at hb
    subst hb
    simp only [V] at h
    obtain ⟨l, _, h, _⟩ := h
    exact ⟨l, h⟩
  | .agg cs, x, b, h, hb => by
    simp only [refs] at hb
    simp only [V] at h
    obtain ⟨vs, _, h⟩ := h
    exact VL_refs h hb
  | .tup cs, x, b, h, hb => by
    simp only [refs] at hb
    simp only [V] at h
    obtain ⟨vs, _, h⟩ := h
    exact VL_refs h hb
  | .fn f cs, x, b, h, hb => by
    simp only [refs] at hb
    simp only [V] at h
    obtain ⟨vs, _, h⟩ := h
    exact VL_refs h hb
  | .ifc t v, x, b, h, hb => by
    simp only [refs] at hb
    simp only [V] at h
    obtain ⟨y, _, h⟩ := h
    exact V_refs h hb
theorem VL_refs : ∀ {cs : List AV} {xs : List Value} {b : Nat}, VL im w cs E xs → b ∈ refsL 0 cs → ∃ l, E b = some l
  | [], _, b, _, hb => by simp [refsL] at hb
  | c :: cs, xs, b, h, hb => by
    simp only [refsL, List.mem_append] at hb
    simp only [VL] at h
    obtain ⟨y, r, _, h1, h2⟩ := h
    rcases hb with hb | hb
    · exact V_refs h1 hb
    · exact VL_refs h2 hb
end

theorem mask_wr {b : Nat} {k : Blk} (hE : E b = none) {B o : Nat} : Wr E (H.set b k) B o ↔ Wr E H B o := by
  constructor
  · rintro ⟨b', l, hb, hl, hB, hz⟩
    have e : b' ≠ b := by rintro rfl; rw [hE] at hb; cases hb
    exact ⟨b', l, hb, hl, hB, fun s g es hk => hz s g es (by rw [List.getElem?_set_ne (Ne.symm e)]; exact hk)⟩
  · rintro ⟨b', l, hb, hl, hB, hz⟩
    have e : b' ≠ b := by rintro rfl; rw [hE] at hb; cases hb
    exact ⟨b', l, hb, hl, hB, fun s g es hk => hz s g es (by rw [List.getElem?_set_ne (Ne.symm e)] at hk; exact hk)⟩

theorem mask_im {b : Nat} {k : Blk} (hE : E b = none) {B o : Nat} : Im X E (H.set b k) w B o ↔ Im X E H w B o := by
  unfold Im
  rw [mask_wr hE]

/-- What nobody knows of may as well be kept free. -/
theorem HRel.mask (h : HRel X E H w) {b : Nat} (hE : E b = none) : HRel X E (H.set b .res) w := by
  refine ⟨?_, ?_, h.sep, h.xs, h.xlt⟩
  · intro x hx
    by_cases e : x = b
    · rw [e, hE]
    · exact h.dom x (by rw [List.getElem?_set_ne (Ne.symm e)] at hx; exact hx)
  · intro x k hk
    by_cases e : x = b
    · subst e
      have hlt : x < (H.set x .res).length := by
        rcases Nat.lt_or_ge x (H.set x .res).length with h9 | h9
        · exact h9
        · rw [List.getElem?_eq_none h9] at hk; cases hk
      rw [List.getElem?_set_self (by simpa using hlt)] at hk
      cases hk
      exact hE
    · rw [List.getElem?_set_ne (Ne.symm e)] at hk
      exact BRel_mono (fun B o hi => ⟨(mask_im hE).2 hi, rfl⟩) (Le.refl _) (fun _ _ _ => rfl) (h.blk x k hk)

theorem HRel.birth (h : HRel X E H w) (hs : Step X E0 H0 w0 E H w) {b n : Nat} {cs : List AV} {fz : Bool} (hb : H[b]? = some (.cells n 0 [cs] fz)) (hE : E b = none) (hb0 : H0.length ≤ b) {t : TypeId}
    (hz : (zeroT P t).bind (fun z => cellsA (absV z)) = some cs) (hn : szT P t = some n) (hl : cs.length = n) (u : Value) :
    ∃ x w' E', (Instr.alloc t true u).run P w = .ok x w' ∧ HRel X E' H w' ∧ Step X E0 H0 w0 E' H w' ∧ V (Im X E' H w') w' (.ptr b 0 0 0) E' x ∧
      (∀ B o, Im X E H w B o → Im X E' H w' B o ∧ w'.cell? ⟨B, o, none⟩ = w.cell? ⟨B, o, none⟩) ∧ Le E E' ∧ (∀ b', b' ≠ b → IsC H b' → E b' = none → E' b' = none) := by
  have hlt : b < H.length := by
    rcases Nat.lt_or_ge b H.length with h9 | h9
    · exact h9
    · rw [List.getElem?_eq_none h9] at hb; cases hb
  have hm := h.mask hE
  have hres : (H.set b .res)[b]? = some Blk.res := by rw [List.getElem?_set_self hlt]
  have ha : allocA P (H.set b .res) (some b) t = some (.ptr b 0 0 0, (H.set b .res).set b (.cells n 0 [cs] false)) := by
    simp only [allocA, hz, hn, hl, if_true, newAt, hres, Option.map_some]
  obtain ⟨x, w', hr, E', h1, hs1, hv⟩ := allocA_sound hm ha u
  have hfin : ∃ H2, H2 = H ∧ HRel X E' H2 w' ∧ Step X E (H.set b .res) w E' H2 w' ∧ V (Im X E' H2 w') w' (.ptr b 0 0 0) E' x := by
    cases fz with
    | false =>
      refine ⟨_, ?_, h1, hs1, hv⟩
      apply List.ext_getElem?
      intro i
      by_cases e : b = i
      · subst e
        rw [List.getElem?_set_self (by simpa using hlt), hb]
      · rw [List.getElem?_set_ne e, List.getElem?_set_ne e]
    | true =>
      obtain ⟨h2, hs2⟩ := h1.markOne b
      refine ⟨_, ?_, h2, hs1.trans hs2, hs2.V hv⟩
      have hg : ((H.set b .res).set b (.cells n 0 [cs] false))[b]? = some (.cells n 0 [cs] false) := by rw [List.getElem?_set_self (by simpa using hlt)]
      simp only [Ai.markOne, hg]
      apply List.ext_getElem?
      intro i
      by_cases e : b = i
      · subst e
        rw [List.getElem?_set_self (by simpa using hlt), hb]
      · rw [List.getElem?_set_ne e, List.getElem?_set_ne e, List.getElem?_set_ne e]
  obtain ⟨H2, rfl, h2, hs2, hv2⟩ := hfin
  have hsb : Step X E0 H0 w0 E (H2.set b .res) w :=
    { le := hs.le, size := hs.size, im := fun B o hi => ⟨(mask_im hE).2 (hs.im B o hi).1, (hs.im B o hi).2⟩, obj := hs.obj, new := hs.new, len := by simpa using hs.len, still := hs.still,
      nb := fun b' h3 h4 => by
        obtain ⟨⟨s, g, es, f, h5⟩, h6⟩ := hs.nb b' h3 h4
        have e : b' ≠ b := by
          rintro rfl
          obtain ⟨s', g', es', f', h7⟩ := h3
          rw [List.getElem?_eq_none hb0] at h7
          cases h7
        exact ⟨⟨s, g, es, f, by rw [List.getElem?_set_ne (Ne.symm e)]; exact h5⟩, h6⟩ }
  refine ⟨x, w', E', hr, h2, hsb.trans hs2, hv2, fun B o hi => hs2.im B o ((mask_im hE).2 hi), hs2.le, fun b' e hc he => ?_⟩
  obtain ⟨s, g, es, f, h5⟩ := hc
  exact (hs2.nb b' ⟨s, g, es, f, by rw [List.getElem?_set_ne (Ne.symm e)]; exact h5⟩ he).2

end
end Go.Ai
