/-
  WHAT IS WRITTEN NO MORE: a block is marked; a value that leads into own blocks becomes one of memory that is written no more.
-/
import Derived.Test.YtndloeajkfajnaaAiAppend
set_option linter.unusedVariables false
set_option linter.unusedSimpArgs false
namespace Go.Ai
section
variable {P : Program} {X : Nat → Nat → Prop} {E : Env} {H : List Blk} {w : World}

theorem markOne_get (H : List Blk) (b x : Nat) : (markOne H b)[x]? = match H[x]? with
    | some (.cells size g es fz) => some (.cells size g es (fz || x == b))
    | r => r := by
  unfold markOne
  split
  · rename_i size g es fz hb
    by_cases e : x = b
    · subst e
      have hlt : x < H.length := by
        rcases Nat.lt_or_ge x H.length with h1 | h1
        · exact h1
        · rw [List.getElem?_eq_none h1] at hb; cases hb
      rw [hb, List.getElem?_set_self hlt]
      simp
    · rw [List.getElem?_set_ne (Ne.symm e)]
      split <;> simp_all
  · rename_i hb
    split
    · rename_i size g es fz hx
      rw [hx]
      have : (x == b) = false := by
        rw [beq_eq_false_iff_ne]
        rintro rfl
        exact hb _ _ _ _ hx
      simp [this]
    · rfl

/-- A block that is not there yet may change. -/
theorem HRel.idleMark (h : HRel X E H w) {b size g : Nat} {es es' : List (List AV)} {fz fz' : Bool} (hk : H[b]? = some (.cells size g es fz)) (hE : E b = none) :
    HRel X E (H.set b (.cells size g es' fz')) w ∧ Step X E H w E (H.set b (.cells size g es' fz')) w := by
  have hP : Put H b (.cells size g es' fz') (H.set b (.cells size g es' fz')) := Put.set hk
  have hw : ∀ B o, Wr E (H.set b (.cells size g es' fz')) B o → Wr E H B o := by
    rintro B o ⟨b', l, hb, hl, hB, hz⟩
    refine ⟨b', l, hb, hl, hB, fun s g0 es0 hk0 => hz s g0 es0 ?_⟩
    rw [hP.2 b' (by rintro rfl; rw [hE] at hb; cases hb)]
    exact hk0
  have him : ∀ B o, Im X E H w B o → Im X E (H.set b (.cells size g es' fz')) w B o ∧ w.cell? ⟨B, o, none⟩ = w.cell? ⟨B, o, none⟩ :=
    fun B o ⟨h1, h2, h3⟩ => ⟨⟨h1, h2, fun hx => h3 (hw B o hx)⟩, rfl⟩
  refine ⟨⟨?_, ?_, h.sep, h.xs, h.xlt⟩, ⟨Le.refl _, Nat.le_refl _, him, fun _ _ _ => rfl, fun b l hb hl => .inl ⟨b, l, hb, hl, rfl⟩, by simp, ?_, Still.refl⟩⟩
  · intro x hx
    by_cases e : x = b
    · rw [e, hE]
    · exact h.dom x (by rw [← hP.2 x e]; exact hx)
  · intro x k hx
    by_cases e : x = b
    · subst e
      rw [hP.1] at hx
      cases hx
      exact .inl hE
    · exact BRel_mono him (Le.refl _) (fun _ _ _ => rfl) (h.blk x k (by rw [← hP.2 x e]; exact hx))
  · intro x h1 h2
    refine ⟨?_, h2⟩
    by_cases e : x = b
    · subst e; exact ⟨_, _, _, _, hP.1⟩
    · obtain ⟨s, g0, es0, fz0, hk0⟩ := h1
      exact ⟨s, g0, es0, fz0, by rw [hP.2 x e]; exact hk0⟩

theorem HRel.markOne (h : HRel X E H w) (b : Nat) : HRel X E (markOne H b) w ∧ Step X E H w E (markOne H b) w := by
  unfold Ai.markOne
  split
  · rename_i size g es fz hk
    cases hEb : E b with
    | none => exact h.idleMark hk hEb
    | some lb =>
    obtain ⟨l, C, t, hE, hl, hg, hs, hK, hh, hC, hR⟩ := h.own hk ⟨lb, hEb⟩
    have hT : Turn X E H w b (.cells size g es true) l w :=
      { live := hl, still := Still.refl, size := Nat.le_refl _, place := .inr ⟨l, hE, hl, rfl⟩, other := fun _ _ _ => rfl,
        ed := fun l0 h0 => (by rw [hE] at h0; cases h0; exact ⟨Nat.le_refl _, fun _ => ⟨hl, rfl, rfl, rfl, rfl⟩⟩),
        zone := fun l0 h0 _ size' g' es' hk' _ => (by rw [hE] at h0; cases h0; rw [hk] at hk'; cases hk'; exact ⟨_, _, _, rfl, Nat.le_refl _⟩),
        cell := fun _ _ _ _ _ _ _ _ _ => rfl }
    have hP : Put H b (.cells size g es true) (H.set b (.cells size g es true)) := Put.set hk
    have hres := h.turn hP hT (h.xs b l hE hl) (.inr ⟨l, C, t, rfl, hl, hg, hs, hK, hh, hC, RowsIn_mono (hT.im h hP) hT.le hR⟩) (fun _ => by rw [hE]; simp)
    rw [upd_self hE] at hres
    exact hres
  · exact ⟨h, Step.refl⟩

theorem HRel.mark : ∀ (ids : List Nat) {H : List Blk}, HRel X E H w → HRel X E (mark H ids) w ∧ Step X E H w E (mark H ids) w
  | [], H, h => ⟨h, Step.refl⟩
  | b :: ids, H, h => by
    obtain ⟨h1, h2⟩ := h.markOne b
    obtain ⟨h3, h4⟩ := HRel.mark ids h1
    exact ⟨h3, h2.trans h4⟩

theorem mark_get : ∀ (ids : List Nat) (H : List Blk) (x : Nat), (mark H ids)[x]? = match H[x]? with
    | some (.cells size g es fz) => some (.cells size g es (fz || ids.contains x))
    | r => r
  | [], H, x => by
    simp only [mark, List.foldl_nil, List.contains_nil, Bool.or_false]
    split <;> simp_all
  | b :: ids, H, x => by
    have ih := mark_get ids (markOne H b) x
    simp only [mark, List.foldl_cons] at ih ⊢
    rw [ih, markOne_get]
    cases hx : H[x]? with
    | none => rfl
    | some k =>
      cases k <;> simp
      rename_i size g es fz
      by_cases e : x = b
      · simp [e]
      · have e2 : (x == b) = false := by simpa using e
        simp [e, e2]

/-- Where such a value may lead to. -/
def Zone (im' : Nat → Nat → Prop) (E : Env) (H : List Blk) (ids : List Nat) : Prop :=
  ∀ b ∈ ids, ∀ l size g es fz, E b = some l → l.live = true → H[b]? = some (.cells size g es fz) → ∀ off, off < l.o + es.length * size → im' l.B off

theorem Zone.mono {im' : Nat → Nat → Prop} {ids ids' : List Nat} (h : Zone im' E H ids) (hs : ∀ b ∈ ids', b ∈ ids) : Zone im' E H ids' := fun b hb => h b (hs b hb)

mutual
theorem frz_sound {im' : Nat → Nat → Prop} (h : HRel X E H w) (hsub : ∀ B o, Im X E H w B o → im' B o) :
    ∀ {c c' : AV} {x : Value}, frz H c = some c' → Zone im' E H (slIds c) → V (Im X E H w) w c E x → V im' w c' noE x
  | .sc v, c', x, hf, _, hv => by
    simp only [frz, Option.some.injEq] at hf
    subst hf
    simpa [V] using hv
  | .rp cs o, c', x, hf, _, hv => by
    simp only [frz, Option.some.injEq] at hf
    subst hf
    exact V_mono (w' := w) (fun B o h => ⟨hsub B o h, rfl⟩) _ (Le.refl _) (V_data (c := .rp cs o) (E' := noE) rfl hv)
  | .ro sz es cap, c', x, hf, _, hv => by
    simp only [frz, Option.some.injEq] at hf
    subst hf
    exact V_mono (w' := w) (fun B o h => ⟨hsub B o h, rfl⟩) _ (Le.refl _) (V_data (c := .ro sz es cap) (E' := noE) rfl hv)
  | .agg cs, c', x, hf, hz, hv => by
    simp only [frz, Option.map_eq_some_iff] at hf
    obtain ⟨l, hl, rfl⟩ := hf
    simp only [V] at hv ⊢
    obtain ⟨vs, hx, hvs⟩ := hv
    exact ⟨vs, hx, frzL_sound h hsub hl (by simpa [slIds] using hz) hvs⟩
  | .tup cs, c', x, hf, hz, hv => by
    simp only [frz, Option.map_eq_some_iff] at hf
    obtain ⟨l, hl, rfl⟩ := hf
    simp only [V] at hv ⊢
    obtain ⟨vs, hx, hvs⟩ := hv
    exact ⟨vs, hx, frzL_sound h hsub hl (by simpa [slIds] using hz) hvs⟩
  | .fn f cs, c', x, hf, hz, hv => by
    simp only [frz, Option.map_eq_some_iff] at hf
    obtain ⟨l, hl, rfl⟩ := hf
    simp only [V] at hv ⊢
    obtain ⟨vs, hx, hvs⟩ := hv
    exact ⟨vs, hx, frzL_sound h hsub hl (by simpa [slIds] using hz) hvs⟩
  | .ifc t v, c', x, hf, hz, hv => by
    simp only [frz, Option.map_eq_some_iff] at hf
    obtain ⟨l, hl, rfl⟩ := hf
    simp only [V] at hv ⊢
    obtain ⟨y, hx, hvs⟩ := hv
    exact ⟨y, hx, frz_sound h hsub hl (by simpa [slIds] using hz) hvs⟩
  | .sl b g start len cap, c', x, hf, hz, hv => by
    simp only [frz] at hf
    split at hf
    · rename_i size g' es fz hk
      split at hf
      · rename_i hq
        obtain ⟨rfl, hle, hd⟩ := hq
        cases hf
        obtain ⟨l, C, t0, hE, hl, hg, hs, hK, hh, hC, hR⟩ := h.own hk (V_sl_has hv)
        obtain ⟨a, c, rfl, hlc, ha, _, hcs⟩ := V_slice_ok hv hE hl hg
        have hrl : ((es.drop start).take len).length = len := by simp; omega
        simp only [V]
        refine ⟨a, c, by rw [hrl], by rw [hrl]; exact hlc, hcs, fun hne => ?_, ?_⟩
        · rcases ha with h0 | ha
          · exact absurd (List.length_eq_zero_iff.1 (by rw [hrl]; omega)) hne
          · rw [ha]
        · by_cases hlen : len = 0
          · have : (es.drop start).take len = [] := by rw [hlen]; simp
            rw [this]
            simp [VRR]
          · have ha2 : a = ⟨l.B, l.o + start * l.size, none⟩ := by
              rcases ha with h0 | ha
              · omega
              · exact ha
            rw [ha2, hs]
            refine VRR_of_get fun i row hi => ?_
            have hsub2 := RowsIn_sub hR start len
            obtain ⟨h1, h2⟩ := hsub2 i row hi
            refine ⟨h1, VR_of_get fun j d hj => ?_⟩
            obtain ⟨y, hy, hy1, hyv⟩ := h2 j d hj
            have hil : i < len := by
              rcases Nat.lt_or_ge i ((es.drop start).take len).length with h3 | h3
              · omega
              · rw [List.getElem?_eq_none h3] at hi; cases hi
            have hjl : j < size := by
              rcases Nat.lt_or_ge j row.length with h3 | h3
              · omega
              · rw [List.getElem?_eq_none h3] at hj; cases hj
            refine ⟨hz b (by simp [slIds]) l size g es fz hE hl hk _ ?_, y, by simp [World.cell?, hh, hy], hy1, ?_⟩
            · have h4 : start * size + i * size + size ≤ es.length * size := by
                rw [← Nat.add_mul, ← Nat.succ_mul]
                exact Nat.mul_le_mul_right _ (by omega)
              show l.o + start * size + i * size + j < l.o + es.length * size
              omega
            · have hdr : isDataL row = true := List.all_eq_true.1 hd row (List.mem_of_getElem? hi)
              have hdd : isData d = true := isDataL_get hdr hj
              exact V_mono (w' := w) (fun B o h => ⟨hsub B o h, rfl⟩) _ (Le.refl _) (V_data (E' := noE) hdd hyv)
      · cases hf
    · cases hf
  | .undef, _, _, hf, _, _ => by simp [frz] at hf
  | .ptr .., _, _, hf, _, _ => by simp [frz] at hf
  | .mp _, _, _, hf, _, _ => by simp [frz] at hf
theorem frzL_sound {im' : Nat → Nat → Prop} (h : HRel X E H w) (hsub : ∀ B o, Im X E H w B o → im' B o) :
    ∀ {cs cs' : List AV} {xs : List Value}, frzL H cs = some cs' → Zone im' E H (slIdsL cs) → VL (Im X E H w) w cs E xs → VL im' w cs' noE xs
  | [], cs', xs, hf, _, hv => by
    simp only [frzL, Option.some.injEq] at hf
    subst hf
    simpa [VL] using hv
  | c :: cs, cs', xs, hf, hz, hv => by
    simp only [frzL] at hf
    simp only [VL] at hv
    obtain ⟨v, r, rfl, h1, h2⟩ := hv
    split at hf
    · rename_i v' vs' e1 e2
      cases hf
      simp only [VL]
      exact ⟨v, r, rfl, frz_sound h hsub e1 (hz.mono (by simp [slIdsL]; intro b hb; exact .inl hb)) h1, frzL_sound h hsub e2 (hz.mono (by simp [slIdsL]; intro b hb; exact .inr hb)) h2⟩
    · cases hf
end

end
end Go.Ai
