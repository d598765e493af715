/-
  A CALL THAT SEES ONE BLOCK ALONE: all else of ours is as it was.
-/
import Derived.Test.YtndloeajkfajnaaAiMc
set_option linter.unusedVariables false
set_option linter.unusedSimpArgs false
namespace Go.Ai

theorem VL_data' {im : Nat → Nat → Prop} {w : World} {cs : List AV} {E E' : Env} {xs : List Value} (hd : isDataL cs = true) (h : VL im w cs E xs) : VL im w cs E' xs := VL_data hd h

theorem lone_sound {P : Program} {call : CallT} (hc : CallOK P call) : CallOK P (loneW call) := by
  intro f args H r H1 h
  unfold loneW at h
  split at h
  case h_2 => cases h
  rename_i b g rest
  split at h
  case h_2 => cases h
  rename_i size g' row hk
  split at h
  case h_2 => cases h
  rename_i e1 e2 e3
  split at h
  case h_2 => cases h
  rename_i v size' g1 row' tl hcl
  split at h
  case h_2 => cases h
  rename_i d1 d2 d3 d4
  cases h
  have e1 := Nat.eq_of_beq_eq_true e1
  have d3 := Nat.eq_of_beq_eq_true d3
  have d4 := Nat.eq_of_beq_eq_true d4
  subst e1 d3 d4
  obtain ⟨hb, hcall⟩ := hc _ _ _ _ _ hcl
  refine ⟨hb, fun X E w vs hR hv => ?_⟩
  simp only [VL] at hv
  obtain ⟨x0, rs, rfl, hx0, hrest⟩ := hv
  simp only [V] at hx0
  obtain ⟨l, a, hEb, hg, rfl, ha⟩ := hx0
  have hB := hR.blk b _ hk
  rw [hEb] at hB
  obtain hB | ⟨l', C, t, hl', hlive, hlg, hls, hlK, hhp, hsz, hrows⟩ := hB
  · cases hB
  cases hl'
  have ha := ha hlive hlg
  have hblt : b < H.length := by
    rcases Nat.lt_or_ge b H.length with h1 | h1
    · exact h1
    · rw [List.getElem?_eq_none h1] at hk; cases hk
  let E0 : Env := fun x => if x = 0 then some { l with g := 0 } else none
  have hE0 : ∀ x m, E0 x = some m → x = 0 ∧ m = { l with g := 0 } := by
    intro x m hm
    simp only [E0] at hm
    split at hm
    · rename_i hx; cases hm; exact ⟨hx, rfl⟩
    · cases hm
  have h00 : E0 0 = some { l with g := 0 } := rfl
  let X' : Nat → Nat → Prop := fun B o => X B o ∨ ∃ b' m, b' ≠ b ∧ E b' = some m ∧ m.live = true ∧ m.B = B ∧ ∀ size g es, H[b']? = some (.cells size g es true) → m.o + es.length * size ≤ o
  have hIm : ∀ B o, Im X E H w B o → Im X' E0 [.cells size 0 [row] false] w B o := by
    rintro B o ⟨h1, h2, h3⟩
    refine ⟨h1, ?_, ?_⟩
    · rintro (hx | ⟨b', m, _, hm, hml, hmB, hz⟩)
      · exact h2 hx
      · exact h3 ⟨b', m, hm, hml, hmB, hz⟩
    · rintro ⟨b0, l0, hb0, hl0, hB0, _⟩
      obtain ⟨_, rfl⟩ := hE0 _ _ hb0
      exact h3 ⟨b, l, hEb, hlive, hB0, fun size g es hh => by rw [hk] at hh; cases hh⟩
  have hR0 : HRel X' E0 [.cells size 0 [row] false] w := by
    refine ⟨fun b0 hb0 => ?_, fun b0 k hk0 => ?_, fun b0 b1 l0 l1 h0 h1 _ _ _ => ?_, fun b0 l0 h0 hl0 off => ?_, fun B off hx => ?_⟩
    · cases hq : E0 b0 with
      | none => rfl
      | some m =>
        obtain ⟨rfl, _⟩ := hE0 _ _ hq
        simp at hb0
    · have h0 : b0 = 0 := by
        rcases Nat.eq_zero_or_pos b0 with h0 | h0
        · exact h0
        · rw [List.getElem?_eq_none (by simp only [List.length_singleton]; omega)] at hk0; cases hk0
      subst h0
      simp only [List.getElem?_cons_zero, Option.some.injEq] at hk0
      subst hk0
      refine .inr ⟨{ l with g := 0 }, C, t, h00, hlive, rfl, hls, hlK, hhp, hsz, fun i r hr => ?_⟩
      obtain ⟨h1, h2⟩ := hrows i r hr
      refine ⟨h1, fun j c hcj => ?_⟩
      obtain ⟨x, h3, h4, h5⟩ := h2 j c hcj
      have hi : r = row := by
        cases i with
        | zero => simpa using hr.symm
        | succ i => simp at hr
      subst hi
      exact ⟨x, h3, h4, V_mono (w := w) (fun B o hi => ⟨hIm B o hi, rfl⟩) _ (Le.refl _) (V_data (isDataL_get e2 hcj) h5)⟩
    · rw [(hE0 _ _ h0).1, (hE0 _ _ h1).1]
    · obtain ⟨_, rfl⟩ := hE0 _ _ h0
      rintro (hx | ⟨b', m, hne, hm, hml, hmB, _⟩)
      · exact hR.xs b l hEb hlive off hx
      · exact hne (hR.sep b' b m l hm hEb hml hlive hmB)
    · rcases hx with hx | ⟨b', m, hne, hm, hml, hmB, _⟩
      · exact hR.xlt B off hx
      · rw [← hmB]; exact hR.lt hm hml
  have hv0 : VL (Im X' E0 [.cells size 0 [row] false] w) w (.ptr 0 0 0 0 :: rest) E0 (.pointer (some a) :: rs) := by
    simp only [VL]
    refine ⟨_, _, rfl, ?_, VL_mono (w := w) (fun B o hi => ⟨hIm B o hi, rfl⟩) _ (Le.refl _) (VL_data e3 hrest)⟩
    simp only [V]
    exact ⟨_, a, h00, Nat.le_refl _, rfl, fun _ _ => ha⟩
  refine (hcall X' E0 w _ hR0 hv0).mono ?_
  rintro e w' ⟨x, rfl, E1, h1, hs, hx⟩
  obtain ⟨l1, hE1, hg1, hl1⟩ := hs.le 0 _ h00
  have hB1 := h1.blk 0 _ rfl
  rw [hE1] at hB1
  obtain hB1 | ⟨l1', C1, t1, e, hlive1, hlg1, hls1, hlK1, hhp1, hsz1, hrows1⟩ := hB1
  · cases hB1
  cases e
  obtain ⟨_, q1, q2, q3, q4⟩ := hl1 hlive1 hlg1
  simp only at q1 q2 q3 q4
  have hget : ∀ x, x ≠ b → (H.set b (.cells size g [row'] false))[x]? = H[x]? := fun x hx => List.getElem?_set_ne (fun e => hx e.symm)
  have hgetb : (H.set b (.cells size g [row'] false))[b]? = some (.cells size g [row'] false) := by
    rw [List.getElem?_set_self hblt]
  have hback : ∀ B o, Im X' E1 (.cells size 0 [row'] false :: tl) w' B o → Im X E (H.set b (.cells size g [row'] false)) w' B o := by
    rintro B o ⟨i1, i2, i3⟩
    refine ⟨i1, fun hx => i2 (.inl hx), ?_⟩
    rintro ⟨b', m, hm, hml, hmB, hz⟩
    by_cases hne : b' = b
    · subst hne
      rw [hEb] at hm
      cases hm
      exact i3 ⟨0, l1, hE1, hlive1, q1.trans hmB, fun size g es hh => by simp at hh⟩
    · exact i2 (.inr ⟨b', m, hne, hm, hml, hmB, fun size g es hh => hz size g es (by rw [hget b' hne]; exact hh)⟩)
  have hfwd : ∀ B o, Im X E H w B o → Im X E (H.set b (.cells size g [row'] false)) w' B o ∧ w'.cell? ⟨B, o, none⟩ = w.cell? ⟨B, o, none⟩ :=
    fun B o hi => ⟨hback B o (hs.im B o (hIm B o hi)).1, (hs.im B o (hIm B o hi)).2⟩
  have hobj : ∀ B, B < w.heap.size → B ≠ l.B → w'.heap[B]? = w.heap[B]? := fun B hB hne => hs.obj B hB fun b0 l0 h0 _ => by
    obtain ⟨_, rfl⟩ := hE0 _ _ h0
    exact fun e => hne e.symm
  have hR2 : HRel X E (H.set b (.cells size g [row'] false)) w' := by
    refine ⟨fun y hy => ?_, fun y k hy => ?_, hR.sep, hR.xs, fun B off hx => Nat.lt_of_lt_of_le (hR.xlt B off hx) hs.size⟩
    · by_cases hyb : y = b
      · subst hyb; rw [hgetb] at hy; cases hy
      · exact hR.dom y (by rw [← hget y hyb]; exact hy)
    · by_cases hyb : y = b
      · subst hyb
        rw [hgetb] at hy
        cases hy
        refine .inr ⟨l, C1, t1, hEb, hlive, hlg, hls, hlK, by rw [← q1]; exact hhp1, by rw [← q2, ← q3]; exact hsz1, fun i r hr => ?_⟩
        obtain ⟨h3, h4⟩ := hrows1 i r hr
        refine ⟨h3, fun j c hcj => ?_⟩
        obtain ⟨y, h5, h6, h7⟩ := h4 j c hcj
        have hi : r = row' := by
          cases i with
          | zero => simpa using hr.symm
          | succ i => simp at hr
        subst hi
        exact ⟨y, by rw [← q2]; exact h5, h6, V_mono (w := w') (fun B o hi => ⟨hback B o hi, rfl⟩) _ (Le.refl _) (V_data (isDataL_get d2 hcj) h7)⟩
      · rw [hget y hyb] at hy
        exact BRel_mono hfwd (Le.refl E) (fun l0 he hl0 => hobj l0.B (hR.lt he hl0) fun eB => hyb (hR.sep y b l0 l he hEb hl0 hlive eB)) (hR.blk y k hy)
  have hS : Step X E H w E (H.set b (.cells size g [row'] false)) w' := by
    refine ⟨Le.refl E, hs.size, hfwd, fun B hB hn => hobj B hB fun e => hn b l hEb hlive e.symm, fun b0 l0 h0 hl0 => .inl ⟨b0, l0, h0, hl0, rfl⟩, by simp, fun y ⟨s1, g1, es1, fz1, hh⟩ hn => ?_, hs.still⟩
    by_cases hyb : y = b
    · subst hyb; rw [hEb] at hn; cases hn
    · exact ⟨⟨s1, g1, es1, fz1, by rw [hget y hyb]; exact hh⟩, hn⟩
  exact ⟨x, rfl, E, hR2, hS, V_mono (w := w') (fun B o hi => ⟨hback B o hi, rfl⟩) _ (Le.refl _) (V_data d1 hx)⟩

end Go.Ai
