/-
  LITERALS OF SLICES.
-/
import Derived.Test.YtndloeajkfajnaaAiOps
set_option linter.unusedVariables false
set_option linter.unusedSimpArgs false
namespace Go.Ai
section
variable {P : Program} {X : Nat → Nat → Prop} {E : Env} {H : List Blk} {w : World}

theorem zone_mark (h : HRel X E H w) (ids : List Nat) : Zone (Im X E (mark H ids) w) E H ids := by
  intro b hb l size g es fz hE hl hk off hoff
  refine ⟨h.lt hE hl, h.xs b l hE hl off, ?_⟩
  rintro ⟨b', l', hE', hl', hB, hz⟩
  have hbb := h.sep b' b l' l hE' hE hl' hl hB
  subst hbb
  rw [hE] at hE'
  cases hE'
  have hm := mark_get ids H b'
  rw [hk] at hm
  have hc : ids.contains b' = true := by simpa using hb
  simp only [hc, Bool.or_true] at hm
  have := hz _ _ _ hm
  omega

theorem frzL_get {H : List Blk} : ∀ {cs cs' : List AV} {j : Nat} {c' : AV}, frzL H cs = some cs' → cs'[j]? = some c' → ∃ c, cs[j]? = some c ∧ frz H c = some c' ∧ ∀ b ∈ slIds c, b ∈ slIdsL cs
  | [], cs', j, c', h, e => by simp only [frzL, Option.some.injEq] at h; subst h; simp at e
  | c :: cs, cs', j, c', h, e => by
    simp only [frzL] at h
    split at h
    · rename_i v vs h1 h2
      cases h
      cases j with
      | zero =>
        simp only [List.getElem?_cons_zero, Option.some.injEq] at e
        subst e
        exact ⟨c, by simp, h1, fun b hb => by simp [slIdsL, hb]⟩
      | succ j =>
        obtain ⟨d, h3, h4, h5⟩ := frzL_get h2 (by simpa using e)
        exact ⟨d, by simpa using h3, h4, fun b hb => by simp [slIdsL, h5 b hb]⟩
    · cases h

theorem frzL_length {H : List Blk} : ∀ {cs cs' : List AV}, frzL H cs = some cs' → cs'.length = cs.length
  | [], cs', h => by simp only [frzL, Option.some.injEq] at h; subst h; rfl
  | c :: cs, cs', h => by
    simp only [frzL] at h
    split at h
    · rename_i v vs h1 h2
      cases h
      simp [frzL_length h2]
    · cases h

theorem frzRows_get {H : List Blk} : ∀ {rs rs' : List (List AV)} {i : Nat} {r' : List AV}, frzRows H rs = some rs' → rs'[i]? = some r' → ∃ r, rs[i]? = some r ∧ frzL H r = some r' ∧ ∀ b ∈ slIdsL r, b ∈ rs.flatMap slIdsL
  | [], rs', i, r', h, e => by simp only [frzRows, Option.some.injEq] at h; subst h; simp at e
  | r :: rs, rs', i, r', h, e => by
    simp only [frzRows] at h
    split at h
    · rename_i v vs h1 h2
      cases h
      cases i with
      | zero =>
        simp only [List.getElem?_cons_zero, Option.some.injEq] at e
        subst e
        exact ⟨r, by simp, h1, fun b hb => by simp [hb]⟩
      | succ i =>
        obtain ⟨d, h3, h4, h5⟩ := frzRows_get h2 (by simpa using e)
        refine ⟨d, by simpa using h3, h4, fun b hb => ?_⟩
        rw [List.flatMap_cons, List.mem_append]
        exact .inr (h5 b hb)
    · cases h

theorem frzRows_length {H : List Blk} : ∀ {rs rs' : List (List AV)}, frzRows H rs = some rs' → rs'.length = rs.length
  | [], rs', h => by simp only [frzRows, Option.some.injEq] at h; subst h; rfl
  | r :: rs, rs', h => by
    simp only [frzRows] at h
    split at h
    · rename_i v vs h1 h2
      cases h
      simp [frzRows_length h2]
    · cases h

theorem setRows_sound {im : Nat → Nat → Prop} {size : Nat} : ∀ {ps : List (Nat × AV)} {rows rows' : List (List AV)} {C : Array Value} {vs : List (Nat × Value)},
    setRows size rows ps = some rows' → RowsIn im w E C 0 size rows → C.size = rows.length * size → vs.map (·.1) = ps.map (·.1) → VL im w (ps.map (·.2)) E (vs.map (·.2)) →
    ∃ C', Instr.fill (fun i => some (i * size, size)) C vs = some C' ∧ RowsIn im w E C' 0 size rows' ∧ C'.size = rows'.length * size ∧ rows'.length = rows.length
  | [], rows, rows', C, vs, hf, hR, hC, hi, hv => by
    simp only [setRows, Option.some.injEq] at hf
    subst hf
    have : vs = [] := by simpa using hi
    subst this
    exact ⟨C, rfl, hR, hC, rfl⟩
  | (i, c) :: ps, rows, rows', C, vs, hf, hR, hC, hi, hv => by
    cases vs with
    | nil => simp at hi
    | cons p vs =>
      obtain ⟨i', y⟩ := p
      simp only [List.map_cons, List.cons.injEq] at hi
      obtain ⟨rfl, hi⟩ := hi
      simp only [List.map_cons, VL] at hv
      obtain ⟨y0, r, he, hy, hv⟩ := hv
      cases he
      simp only [setRows] at hf
      split at hf
      · rename_i cs hcs
        split at hf
        · rename_i hq
          obtain ⟨hq1, hq2⟩ := hq
          obtain ⟨hvl, hsg⟩ := V_cells hcs hy
          have hyl : y.cells.size = size := by have := VL_length hvl; simp at this; omega
          have hle : i' * size + size ≤ C.size := by
            have : (i' + 1) * size ≤ rows.length * size := Nat.mul_le_mul_right _ hq2
            rw [Nat.add_mul] at this
            omega
          have hput := fill_put (off := i' * size) (v := y) (cells := C) (by omega)
          have hlen : (C.toList.take (i' * size) ++ y.cells.toList ++ C.toList.drop (i' * size + y.cells.toList.length)).toArray.size = C.size := by
            simp; omega
          obtain ⟨C', h1, h2, h3, h4⟩ := setRows_sound (C := (C.toList.take (i' * size) ++ y.cells.toList ++ C.toList.drop (i' * size + y.cells.toList.length)).toArray) hf (by
            intro k row hk
            rw [List.getElem?_set] at hk
            simp only [List.getElem?_toArray]
            by_cases e : i' = k
            · subst e
              rw [if_pos rfl, if_pos hq2] at hk
              cases hk
              refine ⟨hq1, fun j d hj => ?_⟩
              obtain ⟨z, hz, hzv⟩ := VL_get hvl hj
              refine ⟨z, ?_, oneCell_of_single (hsg d (List.mem_of_getElem? hj)) hzv, hzv⟩
              have hjl : j < y.cells.toList.length := by
                rcases Nat.lt_or_ge j y.cells.toList.length with h9 | h9
                · exact h9
                · rw [List.getElem?_eq_none h9] at hz; cases hz
              rw [splice_get _ _ _ (by simp; omega), if_pos (by omega), show 0 + i' * size + j - i' * size = j from by omega]
              exact hz
            · rw [if_neg e] at hk
              obtain ⟨h5, h6⟩ := hR k row hk
              refine ⟨h5, fun j d hj => ?_⟩
              obtain ⟨z, hz, hz1, hzv⟩ := h6 j d hj
              refine ⟨z, ?_, hz1, hzv⟩
              have hjl : j < size := by
                rcases Nat.lt_or_ge j row.length with h9 | h9
                · omega
                · rw [List.getElem?_eq_none h9] at hj; cases hj
              rw [splice_get _ _ _ (by simp; omega), if_neg, Array.getElem?_toList]
              · exact hz
              · simp only [Array.length_toList, hyl]
                rcases Nat.lt_or_gt_of_ne e with h7 | h7
                · have : (i' + 1) * size ≤ k * size := Nat.mul_le_mul_right _ h7
                  rw [Nat.add_mul] at this
                  omega
                · have : (k + 1) * size ≤ i' * size := Nat.mul_le_mul_right _ h7
                  rw [Nat.add_mul] at this
                  omega) (by rw [hlen, hC]; simp) hi hv
          refine ⟨C', ?_, h2, h3, by rw [h4]; simp⟩
          simp only [Instr.fill]
          have hcond : ¬ ((decide (y.cells.size ≠ size) || decide (i' * size + y.cells.size > C.size)) = true) := by simp; omega
          rw [if_neg hcond, hput]
          exact h1
        · cases hf
      · cases hf

theorem HRel.settleOne (h : HRel X E H w) (b : Nat) : HRel X E (Ai.settleOne H b) w ∧ Step X E H w E (Ai.settleOne H b) w := by
  unfold Ai.settleOne
  split
  · rename_i size g es fz0 hk
    split
    · rename_i rows sz1 g1 es1 fz hf hk1
      obtain ⟨hm, hms⟩ := HRel.mark (es.flatMap slIdsL) h
      have hz := zone_mark h (es.flatMap slIdsL)
      have hk2 : (Ai.mark H (es.flatMap slIdsL))[b]? = some (.cells size g es fz) := by
        rw [mark_get, hk] at hk1 ⊢
        simp only [Option.some.injEq, Blk.cells.injEq] at hk1
        obtain ⟨rfl, rfl, rfl, h4⟩ := hk1
        simp only [h4]
      cases hEb : E b with
      | none =>
        obtain ⟨h1, h2⟩ := hm.idleMark (es' := rows) (fz' := fz) hk2 hEb
        exact ⟨h1, hms.trans h2⟩
      | some lb =>
      obtain ⟨l, C, t, hE, hl, hg, hs, hK, hh, hC, hR⟩ := h.own hk ⟨lb, hEb⟩
      have hlen : rows.length = es.length := frzRows_length hf
      have hT : Turn X E (Ai.mark H (es.flatMap slIdsL)) w b (.cells size g rows fz) l w :=
        { live := hl, still := Still.refl, size := Nat.le_refl _, place := .inr ⟨l, hE, hl, rfl⟩, other := fun _ _ _ => rfl,
          ed := fun l0 h0 => (by rw [hE] at h0; cases h0; exact ⟨Nat.le_refl _, fun _ => ⟨hl, rfl, rfl, rfl, rfl⟩⟩),
          zone := fun l0 h0 _ size' g' es' hk' _ => (by rw [hE] at h0; cases h0; rw [hk2] at hk'; cases hk'; exact ⟨_, _, _, rfl, by rw [hlen]; exact Nat.le_refl _⟩),
          cell := fun _ _ _ _ _ _ _ _ _ => rfl }
      have hP : Put (Ai.mark H (es.flatMap slIdsL)) b (.cells size g rows fz) ((Ai.mark H (es.flatMap slIdsL)).set b (.cells size g rows fz)) := Put.set hk2
      have hR1 : RowsIn (Im X E (Ai.mark H (es.flatMap slIdsL)) w) w E C l.o size rows := by
        intro i r' hr'
        obtain ⟨r, h5, h6, h7⟩ := frzRows_get hf hr'
        obtain ⟨h8, h9⟩ := hR i r h5
        refine ⟨by rw [frzL_length h6]; exact h8, fun j c' hc' => ?_⟩
        obtain ⟨c, h10, h11, h12⟩ := frzL_get h6 hc'
        obtain ⟨x, h13, h14, h15⟩ := h9 j c h10
        exact ⟨x, h13, h14, V_mono (w' := w) (fun B o hb => ⟨hb, rfl⟩) c' (Le.none _) (frz_sound h (fun B o hi => (hms.im B o hi).1) h11 (hz.mono fun b hb => h7 b (h12 b hb)) h15)⟩
      have hres := hm.turn hP hT (h.xs b l hE hl) (.inr ⟨l, C, t, rfl, hl, hg, hs, by rw [hlen]; exact hK, hh, hC, RowsIn_mono (hT.im hm hP) hT.le hR1⟩) (fun _ => by rw [hE]; simp)
      rw [upd_self hE] at hres
      exact ⟨hres.1, hms.trans hres.2⟩
    · exact ⟨h, Step.refl⟩
  · exact ⟨h, Step.refl⟩

theorem HRel.settleAll : ∀ (ids : List Nat) {H : List Blk}, HRel X E H w → HRel X E (Ai.settleAll H ids) w ∧ Step X E H w E (Ai.settleAll H ids) w
  | [], H, h => ⟨h, Step.refl⟩
  | b :: ids, H, h => by
    obtain ⟨h1, h2⟩ := h.settleOne b
    obtain ⟨h3, h4⟩ := HRel.settleAll ids h1
    exact ⟨h3, h2.trans h4⟩

theorem HRel.preCall (h : HRel X E H w) (C : Ctx) (f : FuncId) (args : List AV) : HRel X E (Ai.preCall C f args H) w ∧ Step X E H w E (Ai.preCall C f args H) w := by
  unfold Ai.preCall
  split
  · exact HRel.settleAll _ h
  · exact ⟨h, Step.refl⟩

theorem buildSliceA_sound {own : Bool} (h : HRel X E H w) {at_ : Option Nat} {t len : Nat} {ps : List (Nat × AV)} {vs : Array (Nat × Value)} {v : AV} {H' : List Blk}
    (hv : buildSliceA own P H at_ t len ps = some (v, H')) (hi : vs.toList.map (·.1) = ps.map (·.1))
    (hp : VL (Im X E H w) w (ps.map (·.2)) E (vs.toList.map (·.2))) : ∃ x w', (Instr.buildSlice t len vs).run P w = .ok x w' ∧ Good X E H w v H' x w' := by
  unfold buildSliceA at hv
  split at hv
  case h_2 => cases hv
  rename_i elem ht
  split at hv
  case h_2 => cases hv
  rename_i size zero hsz hz
  split at hv
  case isFalse => cases hv
  rename_i hq
  obtain ⟨hq1, hq2, hq3⟩ := hq
  split at hv
  case h_2 => cases hv
  rename_i rows hrows
  simp only [Option.bind_eq_some_iff] at hz
  obtain ⟨z, hz, hcs⟩ := hz
  obtain ⟨hvl, hsg⟩ := V_cells (im := Im X E H w) (w := w) (E := E) hcs (V_absV E z)
  have hzl : z.cells.size = size := by have := VL_length hvl; simp at this; omega
  have hR0 : RowsIn (Im X E H w) w E (madeCells z.cells (len * size)) 0 size (List.replicate len zero) := by
    intro k row hk
    rw [List.getElem?_replicate] at hk
    split at hk
    · rename_i hlt
      cases hk
      refine ⟨hq1, fun j d hj => ?_⟩
      obtain ⟨y, hy, hyv⟩ := VL_get hvl hj
      have hjl : j < size := by
        rcases Nat.lt_or_ge j zero.length with h9 | h9
        · omega
        · rw [List.getElem?_eq_none h9] at hj; cases hj
      refine ⟨y, ?_, oneCell_of_single (hsg d (List.mem_of_getElem? hj)) hyv, hyv⟩
      have hq : k * size + j < len * size := by
        have : (k + 1) * size ≤ len * size := Nat.mul_le_mul_right _ hlt
        rw [Nat.add_mul] at this
        omega
      rw [Nat.zero_add, madeCells_get _ _ _ hq (by omega), hzl, Nat.mul_comm k, Nat.mul_add_mod, Nat.mod_eq_of_lt hjl]
      simpa using hy
    · cases hk
  obtain ⟨C, h1, h2, h3, h4⟩ := setRows_sound hrows hR0 (by rw [size_madeCells]; simp) hi hp
  simp only [List.length_replicate] at h4
  have hrun : (Instr.buildSlice t len vs).run P w = .ok (.slice (some ⟨w.heap.size, 0, none⟩) len len) (w.alloc (.cells C elem)) := by
    have hn : ¬ (len * size > 2 ^ 24) := by omega
    by_cases h0 : len * size = 0
    · have hm : madeCells z.cells (len * size) = (Array.range (len * size)).map (fun x => (#[] : Array Value)[x % (#[] : Array Value).size]!) := by
        rw [h0]; simp [madeCells]
      rw [hm] at h1
      simp only [Instr.buildSlice, Sem.run_bind, run_underlying ht, Result.andThen_ok, run_sizeOf hsz, if_neg hn, if_pos h0, Sem.run_pure, h1, newRow, run_newObj, World.alloc_eq]
    · simp only [madeCells] at h1
      simp only [Instr.buildSlice, Sem.run_bind, run_underlying ht, Result.andThen_ok, run_sizeOf hsz, if_neg hn, if_neg h0, run_zeroValue hz, Sem.run_pure, h1, newRow, run_newObj, World.alloc_eq]
  refine ⟨_, _, hrun, ?_⟩
  split at hv
  · -- written no more
    rename_i rows' hfr
    cases hv
    replace hfr : frzRows H rows = some rows' := by
      cases own with
      | true => cases hfr
      | false => exact hfr
    obtain ⟨hm, hms⟩ := HRel.mark (rows.flatMap slIdsL) h
    have hz := zone_mark h (rows.flatMap slIdsL)
    obtain ⟨hd, hds⟩ := hm.idle (w' := w.alloc (.cells C elem)) (Still.push (o := .cells C elem) ⟨rfl, rfl⟩ rfl rfl rfl) (by simp) (fun B hB => heap_alloc_old w _ B hB)
    refine ⟨E, hd, hms.trans hds, ?_⟩
    have hl' : rows'.length = len := by rw [frzRows_length hfr, h4]
    simp only [V]
    refine ⟨⟨w.heap.size, 0, none⟩, len, by rw [hl'], by omega, fun k hk => by cases hk; rfl, fun _ => rfl, ?_⟩
    refine VRR_of_get fun i r' hr' => ?_
    obtain ⟨r, h5, h6, h7⟩ := frzRows_get hfr hr'
    obtain ⟨h8, h9⟩ := h2 i r h5
    refine ⟨by rw [frzL_length h6]; exact h8, VR_of_get fun j c' hc' => ?_⟩
    obtain ⟨c, h10, h11, h12⟩ := frzL_get h6 hc'
    obtain ⟨x, h13, h14, h15⟩ := h9 j c h10
    refine ⟨⟨by simp, fun hx => ?_, ?_⟩, x, ?_, h14, ?_⟩
    · have := hm.xlt _ _ hx
      exact absurd this (Nat.lt_irrefl _)
    · rintro ⟨b, l, hb, hl, hB, _⟩
      have := hm.lt hb hl
      rw [hB] at this
      exact absurd this (Nat.lt_irrefl _)
    · have := World.cell?_alloc_new w C elem (0 + i * size + j)
      show (w.alloc (.cells C elem)).cell? ⟨w.heap.size, 0 + i * size + j, none⟩ = some x
      rw [this]
      exact h13
    · exact V_mono hds.im c' (Le.refl _) (frz_sound h (fun B o hi => (hms.im B o hi).1) h11 (hz.mono fun b hb => h7 b (h12 b hb)) h15)
  · -- an own one
    simp only [Option.map_eq_some_iff] at hv
    obtain ⟨⟨b, H1⟩, hnew, he⟩ := hv
    cases he
    obtain ⟨h7, h8⟩ := h.lay hnew (o := .cells C elem) (w' := w.alloc (.cells C elem)) rfl
      (l := { live := true, g := 0, B := w.heap.size, o := 0, K := len, size := size }) rfl rfl (fun im' him hle ho => Or.inr <|
        ⟨_, C, elem, rfl, rfl, rfl, rfl, by rw [h4]; exact Nat.le_refl _, ho, by rw [h3, h4]; show 0 + len * size ≤ _; omega, RowsIn_mono him hle h2⟩)
    refine ⟨_, h7, h8, ?_⟩
    simp only [V]
    exact ⟨_, _, _, upd_same _ _ _, Nat.le_refl _, rfl, fun _ _ => ⟨Nat.le_refl _, .inr (by simp), rfl⟩⟩

end
end Go.Ai
