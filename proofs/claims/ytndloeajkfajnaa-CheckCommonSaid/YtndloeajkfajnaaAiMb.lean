/-
  OPERATIONS THAT BUILD: structs, literals of slices, slices that are made.
-/
import Derived.Test.YtndloeajkfajnaaAiMa
import Derived.Laws.BytesString
import Derived.Laws.BytesArg
import Derived.Laws.Strings
set_option linter.unusedVariables false
set_option linter.unusedSimpArgs false
namespace Go.Ai
section
variable {P : Program} {X : Nat → Nat → Prop} {E : Env} {H : List Blk} {w : World}

theorem madeCells_get (z : Array Value) (n q : Nat) (hq : q < n) (hz : 0 < z.size) : (madeCells z n)[q]? = z[q % z.size]? := by
  have hlt : q % z.size < z.size := Nat.mod_lt _ hz
  simp [madeCells, hq, hlt]

theorem makeSliceA_sound (h : HRel X E H w) {at_ : Option Nat} {t : Nat} {l c v : AV} {lv cv : Value} {H' : List Blk} (hl : V (Im X E H w) w l E lv) (hc : V (Im X E H w) w c E cv)
    (hv : makeSliceA P H at_ t l c = some (v, H')) : ∃ r w', (Instr.makeSlice t lv cv).run P w = .ok r w' ∧ Good X E H w v H' r w' := by
  unfold makeSliceA at hv
  split at hv
  case h_2 => cases hv
  rename_i elem l c ht
  split at hv
  case h_2 => cases hv
  rename_i size bytes zs hsz hby hzs
  split at hv
  case isFalse => cases hv
  rename_i hq
  obtain ⟨h1, h2, h3, h4, h5, h6⟩ := hq
  simp only [Option.map_eq_some_iff] at hv
  obtain ⟨⟨b, H1⟩, hnew, he⟩ := hv
  cases he
  simp only [V] at hl hc
  subst hl; subst hc
  obtain ⟨i, hi, hisz, hibytes⟩ : ∃ i, P.info? elem = some i ∧ i.size = size ∧ i.bytes = bytes := by
    simp only [szT, Option.map_eq_some_iff] at hsz hby
    obtain ⟨i, h2, h3⟩ := hsz
    obtain ⟨i', h4, h5⟩ := hby
    rw [h2] at h4
    cases h4
    exact ⟨i, h2, h3, h5⟩
  simp only [Option.bind_eq_some_iff] at hzs
  obtain ⟨z, hz, hcs⟩ := hzs
  have hz' : i.zero = some z := by simpa [zeroT, hi] using hz
  obtain ⟨hvl, hsg⟩ := V_cells (im := Im X E H w) (w := w) (E := E) hcs (V_absV E z)
  have hzl : z.cells.size = size := by have := VL_length hvl; simp at this; omega
  have hroom : (bytes : Int) * c ≤ 140737488355328 := h6
  have hc2 : c ≤ 140737488355328 := by
    have h7 : (1 : Int) * c ≤ (bytes : Int) * c := Int.mul_le_mul_of_nonneg_right (by omega) (by omega)
    omega
  subst hisz
  refine ⟨_, _, run_make w t elem i z ht hi hz' .i64 .i64 l c h4 h5 (by rw [hibytes]; omega) (by omega), ?_⟩
  obtain ⟨h7, h8⟩ := h.lay hnew (o := .cells (madeCells z.cells (c.toNat * i.size)) elem) (w' := w.alloc (.cells (madeCells z.cells (c.toNat * i.size)) elem)) rfl
    (l := { live := true, g := 0, B := w.heap.size, o := 0, K := c.toNat, size := i.size }) rfl rfl (fun im' him hle ho => Or.inr <|
      ⟨_, _, elem, rfl, rfl, rfl, rfl, by simp, ho, by rw [size_madeCells]; show 0 + c.toNat * i.size ≤ _; omega, fun k row hk => by
        rw [List.getElem?_replicate] at hk
        split at hk
        · rename_i hlt
          cases hk
          refine ⟨h1, fun j d hj => ?_⟩
          obtain ⟨y, hy, hyv⟩ := VL_get hvl hj
          have hjl : j < i.size := by
            rcases Nat.lt_or_ge j zs.length with h9 | h9
            · omega
            · rw [List.getElem?_eq_none h9] at hj; cases hj
          refine ⟨y, ?_, oneCell_of_single (hsg d (List.mem_of_getElem? hj)) hyv, V_mono him d hle hyv⟩
          have hq : k * i.size + j < c.toNat * i.size := by
            have : (k + 1) * i.size ≤ c.toNat * i.size := Nat.mul_le_mul_right _ hlt
            rw [Nat.add_mul] at this
            omega
          show (madeCells z.cells (c.toNat * i.size))[0 + k * i.size + j]? = some y
          rw [Nat.zero_add, madeCells_get _ _ _ hq (by omega), hzl, Nat.mul_comm k, Nat.mul_add_mod, Nat.mod_eq_of_lt hjl]
          simpa using hy
        · cases hk⟩)
  refine ⟨_, h7, h8, ?_⟩
  simp only [V]
  exact ⟨_, _, _, upd_same _ _ _, Nat.le_refl _, rfl, fun _ _ => ⟨by omega, .inr (by simp), rfl⟩⟩

theorem foldl_set_get (off : Nat) : ∀ (l : List Value) (k : Nat) (cells : Array Value) (q : Nat), off + k + l.length ≤ cells.size →
    ((l.zipIdx k).foldl (fun cs (p : Value × Nat) => cs.setIfInBounds (off + p.2) p.1) cells)[q]? = if off + k ≤ q ∧ q < off + k + l.length then l[q - (off + k)]? else cells[q]?
  | [], k, cells, q, _ => by simp; intro h1 h2; omega
  | v :: l, k, cells, q, h => by
    simp only [List.zipIdx_cons, List.foldl_cons]
    rw [foldl_set_get off l (k + 1) _ q (by simp at h ⊢; omega)]
    simp only [List.length_cons] at h ⊢
    by_cases h1 : q = off + k
    · subst h1
      rw [if_neg (by omega), if_pos (by omega), Nat.sub_self, Array.getElem?_setIfInBounds, if_pos rfl, if_pos (by omega)]
      rfl
    · by_cases h2 : off + (k + 1) ≤ q ∧ q < off + (k + 1) + l.length
      · rw [if_pos h2, if_pos (by omega), show q - (off + k) = (q - (off + (k + 1))) + 1 from by omega]
        simp
      · rw [if_neg h2, if_neg (by omega), Array.getElem?_setIfInBounds_ne (by omega)]

theorem foldl_set_size (off : Nat) : ∀ (l : List Value) (k : Nat) (cells : Array Value), ((l.zipIdx k).foldl (fun cs (p : Value × Nat) => cs.setIfInBounds (off + p.2) p.1) cells).size = cells.size
  | [], _, _ => rfl
  | v :: l, k, cells => by
    simp only [List.zipIdx_cons, List.foldl_cons]
    rw [foldl_set_size off l (k + 1)]
    simp

/-- Parts laid into a row. -/
theorem fill_put {off : Nat} {v : Value} {cells : Array Value} (h : off + v.cells.size ≤ cells.size) :
    (v.cells.zipIdx.foldl (fun cs (p : Value × Nat) => cs.setIfInBounds (off + p.2) p.1) cells) = (cells.toList.take off ++ v.cells.toList ++ cells.toList.drop (off + v.cells.toList.length)).toArray := by
  apply Array.ext'
  apply List.ext_getElem?
  intro q
  have h1 : v.cells.zipIdx.foldl (fun cs (p : Value × Nat) => cs.setIfInBounds (off + p.2) p.1) cells = (v.cells.toList.zipIdx 0).foldl (fun cs (p : Value × Nat) => cs.setIfInBounds (off + p.2) p.1) cells := by
    rw [← Array.foldl_toList]
    simp
  rw [h1, Array.getElem?_toList, foldl_set_get off v.cells.toList 0 cells q (by simpa using h)]
  simp only [Nat.add_zero]
  rw [splice_get _ _ _ (by simpa using h), Array.getElem?_toList (xs := cells)]

theorem fillA_sound {im : Nat → Nat → Prop} {place : Nat → Option (Nat × Nat)} : ∀ {ps : List (Nat × AV)} {cells row : List AV} {xs : Array Value} {vs : List (Nat × Value)},
    fillA place cells ps = some row → VL im w cells E xs.toList → (∀ c ∈ cells, single c = true) → vs.map (·.1) = ps.map (·.1) → VL im w (ps.map (·.2)) E (vs.map (·.2)) →
    ∃ ys, Instr.fill place xs vs = some ys ∧ VL im w row E ys.toList ∧ ∀ c ∈ row, single c = true
  | [], cells, row, xs, vs, hf, hx, hs, hi, hv => by
    simp only [fillA, Option.some.injEq] at hf
    subst hf
    have : vs = [] := by simpa using hi
    subst this
    exact ⟨xs, rfl, hx, hs⟩
  | (i, c) :: ps, cells, row, xs, vs, hf, hx, hs, hi, hv => by
    cases vs with
    | nil => simp at hi
    | cons p vs =>
      obtain ⟨i', y⟩ := p
      simp only [List.map_cons, List.cons.injEq] at hi
      obtain ⟨rfl, hi⟩ := hi
      simp only [List.map_cons, VL] at hv
      obtain ⟨y0, r, he, hy, hv⟩ := hv
      cases he
      simp only [fillA] at hf
      split at hf
      · rename_i off size cs hp hcs
        split at hf
        · rename_i hq
          obtain ⟨hq1, hq2⟩ := hq
          obtain ⟨hvl, hsg⟩ := V_cells hcs hy
          have hyl : y.cells.size = size := by have := VL_length hvl; simp at this; omega
          have hxl : xs.size = cells.length := by have := VL_length hx; simpa using this
          have hput := fill_put (off := off) (v := y) (cells := xs) (by omega)
          have hnew : VL im w (putRow cells off cs) E (xs.toList.take off ++ y.cells.toList ++ xs.toList.drop (off + y.cells.toList.length)) := by
            unfold putRow
            refine VL_append (VL_append (VL_take hx off) hvl) ?_
            have : y.cells.toList.length = cs.length := VL_length hvl
            rw [this]
            exact VL_drop hx _
          obtain ⟨ys, h1, h2, h3⟩ := fillA_sound (place := place) (xs := (xs.toList.take off ++ y.cells.toList ++ xs.toList.drop (off + y.cells.toList.length)).toArray) hf hnew (by
            intro d hd
            simp only [putRow, List.mem_append] at hd
            rcases hd with (hd | hd) | hd
            · exact hs d (List.mem_of_mem_take hd)
            · exact hsg d hd
            · exact hs d (List.mem_of_mem_drop hd)) hi hv
          refine ⟨ys, ?_, h2, h3⟩
          simp only [Instr.fill, hp]
          have hcond : ¬ ((decide (y.cells.size ≠ size) || decide (off + y.cells.size > xs.size)) = true) := by simp; omega
          rw [if_neg hcond, hput]
          exact h1
        · cases hf
      · cases hf

theorem placesA_sound : ∀ {fs : List Field} {ps : List (Nat × Nat)}, placesA P fs = some ps → ∀ w : World, (fs.mapM (m := Sem) fun f => do pure (f.offset, ← sizeOf f.type)).run P w = .ok ps w
  | [], ps, h, w => by simp only [placesA, Option.some.injEq] at h; subst h; simp
  | f :: fs, ps, h, w => by
    simp only [placesA] at h
    split at h
    · rename_i n qs h1 h2
      cases h
      have ih := placesA_sound h2 w
      simp only [List.mapM_cons, Sem.run_bind, run_sizeOf h1, Result.andThen_ok, Sem.run_pure, ih]
    · cases h

theorem buildA_sound (h : HRel X E H w) {t : Nat} {ps : List (Nat × AV)} {vs : Array (Nat × Value)} {v : AV} (hv : buildA P t ps = some v) (hi : vs.toList.map (·.1) = ps.map (·.1))
    (hp : VL (Im X E H w) w (ps.map (·.2)) E (vs.toList.map (·.2))) : ∃ x, (Instr.build t vs).run P w = .ok x w ∧ V (Im X E H w) w v E x := by
  unfold buildA at hv
  split at hv
  · rename_i zero fields hz ht
    simp only [Option.bind_eq_some_iff] at hz hv
    obtain ⟨z, hz, hcs⟩ := hz
    obtain ⟨qs, hqs, hv⟩ := hv
    simp only [Option.map_eq_some_iff] at hv
    obtain ⟨row, hrow, rfl⟩ := hv
    obtain ⟨hvl, hsg⟩ := V_cells (im := Im X E H w) (w := w) (E := E) hcs (V_absV E z)
    obtain ⟨ys, h1, h2, _⟩ := fillA_sound hrow hvl hsg hi hp
    refine ⟨.agg ys, ?_, by simp only [V]; exact ⟨ys, rfl, h2⟩⟩
    have hm : (fields.mapM (m := Sem) fun f => do pure (f.offset, ← sizeOf f.type)).run P w = .ok qs.toArray w := by
      have := placesA_sound hqs w
      rw [Array.mapM_eq_mapM_toList, Sem.run_map, this]
      rfl
    have hg : (fun (i : Nat) => qs.toArray[i]?) = fun (i : Nat) => qs[i]? := by funext i; simp
    simp only [Instr.build, Sem.run_bind, run_zeroValue hz, Result.andThen_ok, run_underlying ht, hm, hg, h1, Sem.run_pure]
  · rename_i zero n elem hz ht
    simp only [Option.bind_eq_some_iff] at hz hv
    obtain ⟨z, hz, hcs⟩ := hz
    obtain ⟨size, hsz, hv⟩ := hv
    simp only [Option.map_eq_some_iff] at hv
    obtain ⟨row, hrow, rfl⟩ := hv
    obtain ⟨hvl, hsg⟩ := V_cells (im := Im X E H w) (w := w) (E := E) hcs (V_absV E z)
    obtain ⟨ys, h1, h2, _⟩ := fillA_sound hrow hvl hsg hi hp
    refine ⟨.agg ys, ?_, by simp only [V]; exact ⟨ys, rfl, h2⟩⟩
    simp only [Instr.build, Sem.run_bind, run_zeroValue hz, Result.andThen_ok, run_underlying ht, run_sizeOf hsz, h1, Sem.run_pure]
  · cases hv

end
end Go.Ai

/-
  LITERALS OF SLICES.
-/
set_option linter.unusedVariables false
set_option linter.unusedSimpArgs false
namespace Go.Ai
section
variable {P : Program} {X : Nat → Nat → Prop} {E : Env} {H : List Blk} {w : World}

theorem zone_mark (h : HRel X E H w) (ids : List Nat) : Zone (Im X E (mark H ids) w) E H ids := by
  intro b hb l size g es fz hE hl hk off hoff
  refine ⟨h.lt hE hl, h.xs b l hE hl off, ?_⟩
  rintro ⟨b', l', hE', hl', hB, hz⟩
  have hbb := h.sep b' b l' l hE' hE hl' hl hB
  subst hbb
  rw [hE] at hE'
  cases hE'
  have hm := mark_get ids H b'
  rw [hk] at hm
  have hc : ids.contains b' = true := by simpa using hb
  simp only [hc, Bool.or_true] at hm
  have := hz _ _ _ hm
  omega

theorem frzL_get {H : List Blk} : ∀ {cs cs' : List AV} {j : Nat} {c' : AV}, frzL H cs = some cs' → cs'[j]? = some c' → ∃ c, cs[j]? = some c ∧ frz H c = some c' ∧ ∀ b ∈ slIds c, b ∈ slIdsL cs
  | [], cs', j, c', h, e => by simp only [frzL, Option.some.injEq] at h; subst h; simp at e
  | c :: cs, cs', j, c', h, e => by
    simp only [frzL] at h
    split at h
    · rename_i v vs h1 h2
      cases h
      cases j with
      | zero =>
        simp only [List.getElem?_cons_zero, Option.some.injEq] at e
        subst e
        exact ⟨c, by simp, h1, fun b hb => by simp [slIdsL, hb]⟩
      | succ j =>
        obtain ⟨d, h3, h4, h5⟩ := frzL_get h2 (by simpa using e)
        exact ⟨d, by simpa using h3, h4, fun b hb => by simp [slIdsL, h5 b hb]⟩
    · cases h

theorem frzL_length {H : List Blk} : ∀ {cs cs' : List AV}, frzL H cs = some cs' → cs'.length = cs.length
  | [], cs', h => by simp only [frzL, Option.some.injEq] at h; subst h; rfl
  | c :: cs, cs', h => by
    simp only [frzL] at h
    split at h
    · rename_i v vs h1 h2
      cases h
      simp [frzL_length h2]
    · cases h

theorem frzRows_get {H : List Blk} : ∀ {rs rs' : List (List AV)} {i : Nat} {r' : List AV}, frzRows H rs = some rs' → rs'[i]? = some r' → ∃ r, rs[i]? = some r ∧ frzL H r = some r' ∧ ∀ b ∈ slIdsL r, b ∈ rs.flatMap slIdsL
  | [], rs', i, r', h, e => by simp only [frzRows, Option.some.injEq] at h; subst h; simp at e
  | r :: rs, rs', i, r', h, e => by
    simp only [frzRows] at h
    split at h
    · rename_i v vs h1 h2
      cases h
      cases i with
      | zero =>
        simp only [List.getElem?_cons_zero, Option.some.injEq] at e
        subst e
        exact ⟨r, by simp, h1, fun b hb => by simp [hb]⟩
      | succ i =>
        obtain ⟨d, h3, h4, h5⟩ := frzRows_get h2 (by simpa using e)
        refine ⟨d, by simpa using h3, h4, fun b hb => ?_⟩
        rw [List.flatMap_cons, List.mem_append]
        exact .inr (h5 b hb)
    · cases h

theorem frzRows_length {H : List Blk} : ∀ {rs rs' : List (List AV)}, frzRows H rs = some rs' → rs'.length = rs.length
  | [], rs', h => by simp only [frzRows, Option.some.injEq] at h; subst h; rfl
  | r :: rs, rs', h => by
    simp only [frzRows] at h
    split at h
    · rename_i v vs h1 h2
      cases h
      simp [frzRows_length h2]
    · cases h

theorem setRows_sound {im : Nat → Nat → Prop} {size : Nat} : ∀ {ps : List (Nat × AV)} {rows rows' : List (List AV)} {C : Array Value} {vs : List (Nat × Value)},
    setRows size rows ps = some rows' → RowsIn im w E C 0 size rows → C.size = rows.length * size → vs.map (·.1) = ps.map (·.1) → VL im w (ps.map (·.2)) E (vs.map (·.2)) →
    ∃ C', Instr.fill (fun i => some (i * size, size)) C vs = some C' ∧ RowsIn im w E C' 0 size rows' ∧ C'.size = rows'.length * size ∧ rows'.length = rows.length
  | [], rows, rows', C, vs, hf, hR, hC, hi, hv => by
    simp only [setRows, Option.some.injEq] at hf
    subst hf
    have : vs = [] := by simpa using hi
    subst this
    exact ⟨C, rfl, hR, hC, rfl⟩
  | (i, c) :: ps, rows, rows', C, vs, hf, hR, hC, hi, hv => by
    cases vs with
    | nil => simp at hi
    | cons p vs =>
      obtain ⟨i', y⟩ := p
      simp only [List.map_cons, List.cons.injEq] at hi
      obtain ⟨rfl, hi⟩ := hi
      simp only [List.map_cons, VL] at hv
      obtain ⟨y0, r, he, hy, hv⟩ := hv
      cases he
      simp only [setRows] at hf
      split at hf
      · rename_i cs hcs
        split at hf
        · rename_i hq
          obtain ⟨hq1, hq2⟩ := hq
          obtain ⟨hvl, hsg⟩ := V_cells hcs hy
          have hyl : y.cells.size = size := by have := VL_length hvl; simp at this; omega
          have hle : i' * size + size ≤ C.size := by
            have : (i' + 1) * size ≤ rows.length * size := Nat.mul_le_mul_right _ hq2
            rw [Nat.add_mul] at this
            omega
          have hput := fill_put (off := i' * size) (v := y) (cells := C) (by omega)
          have hlen : (C.toList.take (i' * size) ++ y.cells.toList ++ C.toList.drop (i' * size + y.cells.toList.length)).toArray.size = C.size := by
            simp; omega
          obtain ⟨C', h1, h2, h3, h4⟩ := setRows_sound (C := (C.toList.take (i' * size) ++ y.cells.toList ++ C.toList.drop (i' * size + y.cells.toList.length)).toArray) hf (by
            intro k row hk
            rw [List.getElem?_set] at hk
            simp only [List.getElem?_toArray]
            by_cases e : i' = k
            · subst e
              rw [if_pos rfl, if_pos hq2] at hk
              cases hk
              refine ⟨hq1, fun j d hj => ?_⟩
              obtain ⟨z, hz, hzv⟩ := VL_get hvl hj
              refine ⟨z, ?_, oneCell_of_single (hsg d (List.mem_of_getElem? hj)) hzv, hzv⟩
              have hjl : j < y.cells.toList.length := by
                rcases Nat.lt_or_ge j y.cells.toList.length with h9 | h9
                · exact h9
                · rw [List.getElem?_eq_none h9] at hz; cases hz
              rw [splice_get _ _ _ (by simp; omega), if_pos (by omega), show 0 + i' * size + j - i' * size = j from by omega]
              exact hz
            · rw [if_neg e] at hk
              obtain ⟨h5, h6⟩ := hR k row hk
              refine ⟨h5, fun j d hj => ?_⟩
              obtain ⟨z, hz, hz1, hzv⟩ := h6 j d hj
              refine ⟨z, ?_, hz1, hzv⟩
              have hjl : j < size := by
                rcases Nat.lt_or_ge j row.length with h9 | h9
                · omega
                · rw [List.getElem?_eq_none h9] at hj; cases hj
              rw [splice_get _ _ _ (by simp; omega), if_neg, Array.getElem?_toList]
              · exact hz
              · simp only [Array.length_toList, hyl]
                rcases Nat.lt_or_gt_of_ne e with h7 | h7
                · have : (i' + 1) * size ≤ k * size := Nat.mul_le_mul_right _ h7
                  rw [Nat.add_mul] at this
                  omega
                · have : (k + 1) * size ≤ i' * size := Nat.mul_le_mul_right _ h7
                  rw [Nat.add_mul] at this
                  omega) (by rw [hlen, hC]; simp) hi hv
          refine ⟨C', ?_, h2, h3, by rw [h4]; simp⟩
          simp only [Instr.fill]
          have hcond : ¬ ((decide (y.cells.size ≠ size) || decide (i' * size + y.cells.size > C.size)) = true) := by simp; omega
          rw [if_neg hcond, hput]
          exact h1
        · cases hf
      · cases hf

theorem HRel.settleOne (h : HRel X E H w) (b : Nat) : HRel X E (Ai.settleOne H b) w ∧ Step X E H w E (Ai.settleOne H b) w := by
  unfold Ai.settleOne
  split
  · rename_i size g es fz0 hk
    split
    · rename_i rows sz1 g1 es1 fz hf hk1
      obtain ⟨hm, hms⟩ := HRel.mark (es.flatMap slIdsL) h
      have hz := zone_mark h (es.flatMap slIdsL)
      have hk2 : (Ai.mark H (es.flatMap slIdsL))[b]? = some (.cells size g es fz) := by
        rw [mark_get, hk] at hk1 ⊢
        simp only [Option.some.injEq, Blk.cells.injEq] at hk1
        obtain ⟨rfl, rfl, rfl, h4⟩ := hk1
        simp only [h4]
      cases hEb : E b with
      | none =>
        obtain ⟨h1, h2⟩ := hm.idleMark (es' := rows) (fz' := fz) hk2 hEb
        exact ⟨h1, hms.trans h2⟩
      | some lb =>
      obtain ⟨l, C, t, hE, hl, hg, hs, hK, hh, hC, hR⟩ := h.own hk ⟨lb, hEb⟩
      have hlen : rows.length = es.length := frzRows_length hf
      have hT : Turn X E (Ai.mark H (es.flatMap slIdsL)) w b (.cells size g rows fz) l w :=
        { live := hl, still := Still.refl, size := Nat.le_refl _, place := .inr ⟨l, hE, hl, rfl⟩, other := fun _ _ _ => rfl,
          ed := fun l0 h0 => (by rw [hE] at h0; cases h0; exact ⟨Nat.le_refl _, fun _ => ⟨hl, rfl, rfl, rfl, rfl⟩⟩),
          zone := fun l0 h0 _ size' g' es' hk' _ => (by rw [hE] at h0; cases h0; rw [hk2] at hk'; cases hk'; exact ⟨_, _, _, rfl, by rw [hlen]; exact Nat.le_refl _⟩),
          cell := fun _ _ _ _ _ _ _ _ _ => rfl }
      have hP : Put (Ai.mark H (es.flatMap slIdsL)) b (.cells size g rows fz) ((Ai.mark H (es.flatMap slIdsL)).set b (.cells size g rows fz)) := Put.set hk2
      have hR1 : RowsIn (Im X E (Ai.mark H (es.flatMap slIdsL)) w) w E C l.o size rows := by
        intro i r' hr'
        obtain ⟨r, h5, h6, h7⟩ := frzRows_get hf hr'
        obtain ⟨h8, h9⟩ := hR i r h5
        refine ⟨by rw [frzL_length h6]; exact h8, fun j c' hc' => ?_⟩
        obtain ⟨c, h10, h11, h12⟩ := frzL_get h6 hc'
        obtain ⟨x, h13, h14, h15⟩ := h9 j c h10
        exact ⟨x, h13, h14, V_mono (w' := w) (fun B o hb => ⟨hb, rfl⟩) c' (Le.none _) (frz_sound h (fun B o hi => (hms.im B o hi).1) h11 (hz.mono fun b hb => h7 b (h12 b hb)) h15)⟩
      have hres := hm.turn hP hT (h.xs b l hE hl) (.inr ⟨l, C, t, rfl, hl, hg, hs, by rw [hlen]; exact hK, hh, hC, RowsIn_mono (hT.im hm hP) hT.le hR1⟩) (fun _ => by rw [hE]; simp)
      rw [upd_self hE] at hres
      exact ⟨hres.1, hms.trans hres.2⟩
    · exact ⟨h, Step.refl⟩
  · exact ⟨h, Step.refl⟩

theorem HRel.settleAll : ∀ (ids : List Nat) {H : List Blk}, HRel X E H w → HRel X E (Ai.settleAll H ids) w ∧ Step X E H w E (Ai.settleAll H ids) w
  | [], H, h => ⟨h, Step.refl⟩
  | b :: ids, H, h => by
    obtain ⟨h1, h2⟩ := h.settleOne b
    obtain ⟨h3, h4⟩ := HRel.settleAll ids h1
    exact ⟨h3, h2.trans h4⟩

theorem HRel.preCall (h : HRel X E H w) (C : Ctx) (f : FuncId) (args : List AV) : HRel X E (Ai.preCall C f args H) w ∧ Step X E H w E (Ai.preCall C f args H) w := by
  unfold Ai.preCall
  split
  · exact HRel.settleAll _ h
  · exact ⟨h, Step.refl⟩

theorem buildSliceA_sound {own : Bool} (h : HRel X E H w) {at_ : Option Nat} {t len : Nat} {ps : List (Nat × AV)} {vs : Array (Nat × Value)} {v : AV} {H' : List Blk}
    (hv : buildSliceA own P H at_ t len ps = some (v, H')) (hi : vs.toList.map (·.1) = ps.map (·.1))
    (hp : VL (Im X E H w) w (ps.map (·.2)) E (vs.toList.map (·.2))) : ∃ x w', (Instr.buildSlice t len vs).run P w = .ok x w' ∧ Good X E H w v H' x w' := by
  unfold buildSliceA at hv
  split at hv
  case h_2 => cases hv
  rename_i elem ht
  split at hv
  case h_2 => cases hv
  rename_i size zero hsz hz
  split at hv
  case isFalse => cases hv
  rename_i hq
  obtain ⟨hq1, hq2, hq3⟩ := hq
  split at hv
  case h_2 => cases hv
  rename_i rows hrows
  simp only [Option.bind_eq_some_iff] at hz
  obtain ⟨z, hz, hcs⟩ := hz
  obtain ⟨hvl, hsg⟩ := V_cells (im := Im X E H w) (w := w) (E := E) hcs (V_absV E z)
  have hzl : z.cells.size = size := by have := VL_length hvl; simp at this; omega
  have hR0 : RowsIn (Im X E H w) w E (madeCells z.cells (len * size)) 0 size (List.replicate len zero) := by
    intro k row hk
    rw [List.getElem?_replicate] at hk
    split at hk
    · rename_i hlt
      cases hk
      refine ⟨hq1, fun j d hj => ?_⟩
      obtain ⟨y, hy, hyv⟩ := VL_get hvl hj
      have hjl : j < size := by
        rcases Nat.lt_or_ge j zero.length with h9 | h9
        · omega
        · rw [List.getElem?_eq_none h9] at hj; cases hj
      refine ⟨y, ?_, oneCell_of_single (hsg d (List.mem_of_getElem? hj)) hyv, hyv⟩
      have hq : k * size + j < len * size := by
        have : (k + 1) * size ≤ len * size := Nat.mul_le_mul_right _ hlt
        rw [Nat.add_mul] at this
        omega
      rw [Nat.zero_add, madeCells_get _ _ _ hq (by omega), hzl, Nat.mul_comm k, Nat.mul_add_mod, Nat.mod_eq_of_lt hjl]
      simpa using hy
    · cases hk
  obtain ⟨C, h1, h2, h3, h4⟩ := setRows_sound hrows hR0 (by rw [size_madeCells]; simp) hi hp
  simp only [List.length_replicate] at h4
  have hrun : (Instr.buildSlice t len vs).run P w = .ok (.slice (some ⟨w.heap.size, 0, none⟩) len len) (w.alloc (.cells C elem)) := by
    have hn : ¬ (len * size > 2 ^ 24) := by omega
    by_cases h0 : len * size = 0
    · have hm : madeCells z.cells (len * size) = (Array.range (len * size)).map (fun x => (#[] : Array Value)[x % (#[] : Array Value).size]!) := by
        rw [h0]; simp [madeCells]
      rw [hm] at h1
      simp only [Instr.buildSlice, Sem.run_bind, run_underlying ht, Result.andThen_ok, run_sizeOf hsz, if_neg hn, if_pos h0, Sem.run_pure, h1, newRow, run_newObj, World.alloc_eq]
    · simp only [madeCells] at h1
      simp only [Instr.buildSlice, Sem.run_bind, run_underlying ht, Result.andThen_ok, run_sizeOf hsz, if_neg hn, if_neg h0, run_zeroValue hz, Sem.run_pure, h1, newRow, run_newObj, World.alloc_eq]
  refine ⟨_, _, hrun, ?_⟩
  split at hv
  · -- written no more
    rename_i rows' hfr
    cases hv
    replace hfr : frzRows H rows = some rows' := by
      cases own with
      | true => cases hfr
      | false => exact hfr
    obtain ⟨hm, hms⟩ := HRel.mark (rows.flatMap slIdsL) h
    have hz := zone_mark h (rows.flatMap slIdsL)
    obtain ⟨hd, hds⟩ := hm.idle (w' := w.alloc (.cells C elem)) (Still.push (o := .cells C elem) ⟨rfl, rfl⟩ rfl rfl rfl) (by simp) (fun B hB => heap_alloc_old w _ B hB)
    refine ⟨E, hd, hms.trans hds, ?_⟩
    have hl' : rows'.length = len := by rw [frzRows_length hfr, h4]
    simp only [V]
    refine ⟨⟨w.heap.size, 0, none⟩, len, by rw [hl'], by omega, fun k hk => by cases hk; rfl, fun _ => rfl, ?_⟩
    refine VRR_of_get fun i r' hr' => ?_
    obtain ⟨r, h5, h6, h7⟩ := frzRows_get hfr hr'
    obtain ⟨h8, h9⟩ := h2 i r h5
    refine ⟨by rw [frzL_length h6]; exact h8, VR_of_get fun j c' hc' => ?_⟩
    obtain ⟨c, h10, h11, h12⟩ := frzL_get h6 hc'
    obtain ⟨x, h13, h14, h15⟩ := h9 j c h10
    refine ⟨⟨by simp, fun hx => ?_, ?_⟩, x, ?_, h14, ?_⟩
    · have := hm.xlt _ _ hx
      exact absurd this (Nat.lt_irrefl _)
    · rintro ⟨b, l, hb, hl, hB, _⟩
      have := hm.lt hb hl
      rw [hB] at this
      exact absurd this (Nat.lt_irrefl _)
    · have := World.cell?_alloc_new w C elem (0 + i * size + j)
      show (w.alloc (.cells C elem)).cell? ⟨w.heap.size, 0 + i * size + j, none⟩ = some x
      rw [this]
      exact h13
    · exact V_mono hds.im c' (Le.refl _) (frz_sound h (fun B o hi => (hms.im B o hi).1) h11 (hz.mono fun b hb => h7 b (h12 b hb)) h15)
  · -- an own one
    simp only [Option.map_eq_some_iff] at hv
    obtain ⟨⟨b, H1⟩, hnew, he⟩ := hv
    cases he
    obtain ⟨h7, h8⟩ := h.lay hnew (o := .cells C elem) (w' := w.alloc (.cells C elem)) rfl
      (l := { live := true, g := 0, B := w.heap.size, o := 0, K := len, size := size }) rfl rfl (fun im' him hle ho => Or.inr <|
        ⟨_, C, elem, rfl, rfl, rfl, rfl, by rw [h4]; exact Nat.le_refl _, ho, by rw [h3, h4]; show 0 + len * size ≤ _; omega, RowsIn_mono him hle h2⟩)
    refine ⟨_, h7, h8, ?_⟩
    simp only [V]
    exact ⟨_, _, _, upd_same _ _ _, Nat.le_refl _, rfl, fun _ _ => ⟨Nat.le_refl _, .inr (by simp), rfl⟩⟩

end
end Go.Ai

/-
  PLACES: fields, elements, parts of slices.
-/
set_option linter.unusedVariables false
set_option linter.unusedSimpArgs false
namespace Go.Ai
section
variable {P : Program} {X : Nat → Nat → Prop} {E : Env} {H : List Blk} {w : World} {im : Nat → Nat → Prop}

theorem fieldT_some {s f : Nat} {fd : Field} (h : fieldT P s f = some fd) : ∃ fs, P.underlying s = some (.struct fs) ∧ fs[f]? = some fd := by
  unfold fieldT at h
  split at h
  · rename_i fs hu; exact ⟨fs, hu, h⟩
  · cases h

theorem fieldAddrA_sound {s f : Nat} {a v : AV} {x : Value} (ha : V im w a E x) (hv : fieldAddrA P s a f = some v) : ∃ y, (Instr.fieldAt s x f).run P w = .ok y w ∧ V im w v E y := by
  unfold fieldAddrA at hv
  split at hv
  case h_2 => cases hv
  rename_i fd hf
  obtain ⟨fs, hu, hfd⟩ := fieldT_some hf
  split at hv
  case h_2 => cases hv
  rename_i n hn
  have hrun : ∀ p : Addr, (Instr.fieldAt s (.pointer (some p)) f).run P w = .ok (.pointer (some (p.add fd.offset))) w := by
    intro p
    simp [Instr.fieldAt, run_underlying hu, hfd, Instr.sureAddr, fieldPlace, run_sizeOf hn]
  split at hv
  · rename_i b g i off
    cases hv
    simp only [V] at ha ⊢
    obtain ⟨l, p, hE, hg, rfl, hp⟩ := ha
    refine ⟨_, hrun p, l, _, hE, hg, rfl, fun h1 h2 => ?_⟩
    rw [hp h1 h2, addr_add]
    simp [Nat.add_assoc]
  · rename_i row off
    cases hv
    simp only [V] at ha ⊢
    obtain ⟨B, o, rfl, hr⟩ := ha
    exact ⟨_, hrun _, B, o, by rw [addr_add]; simp [Nat.add_assoc], hr⟩
  · cases hv

theorem partA_sound {t off : Nat} {row : List AV} {vs : Array Value} {v : AV} (hr : VL im w row E vs.toList) (hv : takeT P t row off = some v) :
    ∃ y, (part t vs off).run P w = .ok y w ∧ V im w v E y := by
  unfold takeT at hv
  split at hv
  · rename_i n ha hn
    split at hv
    · rename_i hle
      cases hv
      refine ⟨.agg (vs.extract off (off + n)), by simp [part, run_isAgg ha, run_sizeOf hn], ?_⟩
      simp only [V]
      refine ⟨_, rfl, ?_⟩
      have : (vs.extract off (off + n)).toList = (vs.toList.drop off).take n := by
        rw [Array.toList_extract]
        simp [List.extract]
      rw [this]
      exact VL_take (VL_drop hr off) n
    · cases hv
  · rename_i ha hn
    obtain ⟨y, hy, hyv⟩ := VL_get hr hv
    rw [Array.getElem?_toList] at hy
    exact ⟨y, by simp [part, run_isAgg ha, hy], hyv⟩
  · cases hv

theorem fieldA_sound {s f : Nat} {a v : AV} {x : Value} (ha : V im w a E x) (hv : fieldA P s a f = some v) : ∃ y, (Instr.field s x f).run P w = .ok y w ∧ V im w v E y := by
  unfold fieldA at hv
  split at hv
  case h_2 => cases hv
  rename_i fd cs hf hcs
  obtain ⟨fs, hu, hfd⟩ := fieldT_some hf
  obtain ⟨hvl, _⟩ := V_cells hcs ha
  have key : ∀ vs : Array Value, x = .agg vs → takeT P fd.type cs fd.offset = some v → ∃ y, (Instr.field s x f).run P w = .ok y w ∧ V im w v E y := by
    rintro vs rfl ht
    obtain ⟨y, h1, h2⟩ := partA_sound (P := P) (vs := vs) (by simpa [Value.cells] using hvl) ht
    exact ⟨y, by simp [Instr.field, run_underlying hu, hfd, asAgg, h1], h2⟩
  split at hv
  · simp only [V] at ha
    obtain ⟨vs, rfl, _⟩ := ha
    exact key vs rfl hv
  · simp only [V] at ha
    exact key _ ha hv
  · cases hv

theorem indexAddrA_sound (h : HRel X E H w) {t : Nat} {a ix v : AV} {x i : Value} (ha : V (Im X E H w) w a E x) (hi : V (Im X E H w) w ix E i) (hv : indexAddrA P H t a ix = some v) :
    ∃ y, (Instr.indexAt t x i).run P w = .ok y w ∧ V (Im X E H w) w v E y := by
  unfold indexAddrA at hv
  split at hv
  case h_2 => cases hv
  rename_i k n
  simp only [V] at hi
  subst hi
  split at hv
  · cases hv
  rename_i hn
  have hn0 : 0 ≤ n := by omega
  split at hv
  · rename_i elem ht
    split at hv
    case h_2 => cases hv
    rename_i size hsz
    have hrun : ∀ (p : Addr) (len c : Nat), n.toNat < len → (Instr.indexAt t (.slice (some p) len c) (.int k n)).run P w = .ok (.pointer (some (p.add (n.toNat * size)))) w := by
      intro p len c hlt
      have hc : 0 ≤ n ∧ n < (len : Int) := ⟨hn0, by omega⟩
      simp [Instr.indexAt, asIntOf, run_underlying ht, run_sizeOf hsz, hc]
    split at hv
    · rename_i sz es cap
      split at hv
      case isFalse => cases hv
      rename_i hs
      subst hs
      simp only [Option.map_eq_some_iff] at hv
      obtain ⟨row, hr, rfl⟩ := hv
      simp only [V] at ha ⊢
      obtain ⟨p, c, rfl, h1, h2, h3, h4⟩ := ha
      have hlt : n.toNat < es.length := by
        rcases Nat.lt_or_ge n.toNat es.length with h9 | h9
        · exact h9
        · rw [List.getElem?_eq_none h9] at hr; cases hr
      have hsp : p = ⟨p.block, p.off, none⟩ := by
        have := h3 (by rintro rfl; simp at hlt)
        cases p
        simp at this
        simp [this]
      refine ⟨_, hrun p _ c hlt, p.block, p.off + n.toNat * sz, ?_, (VRR_get h4 hr).2⟩
      rw [hsp, addr_add]
      simp
    · rename_i b g start len cap
      split at hv
      case h_2 => cases hv
      rename_i sz g' es fz hk
      split at hv
      case isFalse => cases hv
      rename_i hq
      obtain ⟨rfl, rfl, hlt, hle⟩ := hq
      cases hv
      obtain ⟨l, C, t0, hE, hl, hg, hs, hK, hh, hC, hR⟩ := h.own hk (V_sl_has ha)
      obtain ⟨p, c, rfl, hlc, hp, _, _⟩ := V_slice_ok ha hE hl hg
      refine ⟨_, hrun p _ c hlt, ?_⟩
      have hp2 : p = ⟨l.B, l.o + start * l.size, none⟩ := by
        rcases hp with h0 | h0
        · omega
        · exact h0
      simp only [V]
      refine ⟨l, _, hE, by omega, rfl, fun _ _ => ?_⟩
      rw [hp2, addr_add, hs, Nat.add_mul]
      simp [Nat.add_assoc]
    · cases hv
  · rename_i m elem ht
    split at hv
    case h_2 => cases hv
    rename_i size hsz
    split at hv
    case isFalse => cases hv
    rename_i hlt
    have hrun : ∀ p : Addr, (Instr.indexAt t (.pointer (some p)) (.int k n)).run P w = .ok (.pointer (some (p.add (n.toNat * size)))) w := by
      intro p
      have hc : 0 ≤ n ∧ n < (m : Int) := ⟨hn0, by omega⟩
      simp [Instr.indexAt, asIntOf, run_underlying ht, run_sizeOf hsz, hc, Instr.sureAddr]
    split at hv
    · rename_i b g j off
      cases hv
      simp only [V] at ha ⊢
      obtain ⟨l, p, hE, hg, rfl, hp⟩ := ha
      refine ⟨_, hrun p, l, _, hE, hg, rfl, fun h1 h2 => ?_⟩
      rw [hp h1 h2, addr_add]
      simp [Nat.add_assoc]
    · rename_i row off
      cases hv
      simp only [V] at ha ⊢
      obtain ⟨B, o, rfl, hr⟩ := ha
      exact ⟨_, hrun _, B, o, by rw [addr_add]; simp [Nat.add_assoc], hr⟩
    · cases hv
  · cases hv

end
end Go.Ai

/-
  PARTS OF SLICES, CONVERSIONS, LENGTHS, OPERATIONS OF TWO.
-/
set_option linter.unusedVariables false
set_option linter.unusedSimpArgs false
namespace Go.Ai
section
variable {P : Program} {X : Nat → Nat → Prop} {E : Env} {H : List Blk} {w : World} {im : Nat → Nat → Prop}

/-- Bounds that hold: an operand's value is that of the abstract one. -/
def VO (im : Nat → Nat → Prop) (w : World) (E : Env) : Option AV → Option Value → Prop
  | none, none => True
  | some a, some v => V im w a E v
  | _, _ => False

theorem run_sliceBound_in {a : AV} {v : Value} {y n d : Nat} (hv : V im w a E v) (hn : numA d (some a) = some n) (hle : n ≤ y) (code : BoundsCode) : (Instr.sliceBound v y code).run P w = .ok n w := by
  unfold numA at hn
  split at hn
  · cases ‹some a = none›
  · rename_i k i he
    cases he
    simp only [V] at hv
    subst hv
    split at hn
    · rename_i h0
      cases hn
      have hc : 0 ≤ i ∧ i ≤ (y : Int) := ⟨h0, by omega⟩
      simp [Instr.sliceBound, asIntOf, hc]
    · cases hn
  · cases hn

theorem boundsA_sound {len cc l h : Nat} {cap c : Option Nat} {lo hi mx : Option AV} {lv hv mv : Option Value} (hb : boundsA len cap lo hi mx = some (l, h, c)) (hlen : len ≤ cc)
    (h1 : VO im w E lo lv) (h2 : VO im w E hi hv) (h3 : VO im w E mx mv) (b : Bool) :
    ∃ m, (Instr.sliceBounds b len cc lv hv mv).run P w = .ok (l, h, m) w ∧ l ≤ h ∧ h ≤ len ∧ h ≤ m ∧ m ≤ cc ∧ (mx = none → m = cc ∧ c = cap.map (· - l)) ∧ (mx.isSome = true → c = some (m - l) ∧ m ≤ len) := by
  unfold boundsA at hb
  split at hb
  case h_2 => cases hb
  rename_i l0 h0 hl hh
  have hlow : ∀ (code : BoundsCode) (v : Value), lv = some v → l0 ≤ h0 → (Instr.sliceBound v h0 code).run P w = .ok l0 w := by
    intro code v he hle
    subst he
    cases lo with
    | none => exact h1.elim
    | some a => exact run_sliceBound_in h1 hl hle _
  have hlow0 : lv = none → l0 = 0 := by
    intro he
    subst he
    cases lo with
    | none => simp only [numA, Option.some.injEq] at hl; exact hl.symm
    | some a => exact h1.elim
  have hhi : ∀ (code : BoundsCode) (v : Value) (y : Nat), hv = some v → h0 ≤ y → (Instr.sliceBound v y code).run P w = .ok h0 w := by
    intro code v y he hle
    subst he
    cases hi with
    | none => exact h2.elim
    | some a => exact run_sliceBound_in h2 hh hle _
  have hhi0 : hv = none → h0 = len := by
    intro he
    subst he
    cases hi with
    | none => simp only [numA, Option.some.injEq] at hh; exact hh.symm
    | some a => exact h2.elim
  split at hb
  · split at hb
    · rename_i hq
      cases hb
      cases mv with
      | some v => exact h3.elim
      | none =>
        refine ⟨cc, ?_, hq.1, hq.2, by omega, Nat.le_refl _, fun _ => ⟨rfl, rfl⟩, fun h => by simp at h⟩
        unfold Instr.sliceBounds
        cases lv with
        | none =>
          have := hlow0 rfl
          subst this
          cases hv with
          | none =>
            have := hhi0 rfl
            subst this
            simp
          | some v => simp [hhi _ v cc rfl (by omega)]
        | some u =>
          cases hv with
          | none =>
            have := hhi0 rfl
            subst this
            simp [hlow _ u rfl hq.1]
          | some v => simp [hhi _ v cc rfl (by omega), hlow _ u rfl hq.1]
    · cases hb
  · split at hb
    · rename_i m hm
      split at hb
      · rename_i hq
        cases hb
        obtain ⟨hq1, hq2, hq3, hq4⟩ := hq
        cases mv with
        | none => exact h3.elim
        | some v =>
          refine ⟨m, ?_, hq1, by omega, hq2, by omega, fun h => by simp at h, fun _ => ⟨rfl, hq3⟩⟩
          have hmx := fun code => run_sliceBound_in (P := P) h3 hm (y := cc) (by omega) code
          unfold Instr.sliceBounds
          cases hv with
          | none =>
            cases hi with
            | none => simp at hq4
            | some a => exact h2.elim
          | some u =>
            cases lv with
            | none =>
              have := hlow0 rfl
              subst this
              simp [hmx, hhi _ u m rfl hq2]
            | some z => simp [hmx, hhi _ u m rfl hq2, hlow _ z rfl hq1]
      · cases hb
    · cases hb

end
end Go.Ai

set_option linter.unusedVariables false
set_option linter.unusedSimpArgs false
namespace Go.Ai
section
variable {P : Program} {X : Nat → Nat → Prop} {E : Env} {H : List Blk} {w : World} {im : Nat → Nat → Prop}

theorem VO_conc {lo : Option AV} {lv l : Option Value} (h : VO im w E lo lv) (hc : lo.mapM conc = some l) : lv = l := by
  cases lo with
  | none =>
    cases lv with
    | none => simp at hc; exact hc
    | some v => exact h.elim
  | some a =>
    cases lv with
    | none => exact h.elim
    | some v =>
      simp only [Option.mapM_some, Option.map_eq_map, Option.map_eq_some_iff] at hc
      obtain ⟨u, hu, rfl⟩ := hc
      rw [V_conc hu h]

theorem sliceAt_other {t : TypeId} {x : Value} {lo hi mx : Option Value} {d : TypeDesc} (ht : P.underlying t = some d) (hd : ∀ n e, d ≠ .array n e) :
    (Instr.sliceAt t x lo hi mx).run P w = (Instr.slice t x lo hi mx).run P w := by
  unfold Instr.sliceAt
  rw [Sem.run_bind, run_underlying ht, Result.andThen_ok]
  split
  · rename_i n e
    exact (hd n e rfl).elim
  · rfl

theorem chunks_get (size : Nat) : ∀ (n : Nat) (cs : List AV) (i : Nat), i < n → (chunks size n cs)[i]? = some ((cs.drop (i * size)).take size)
  | 0, _, _, h => by omega
  | n + 1, cs, 0, _ => by simp [chunks]
  | n + 1, cs, i + 1, h => by
    simp only [chunks, List.getElem?_cons_succ]
    rw [chunks_get size n (cs.drop size) i (by omega), List.drop_drop, Nat.add_mul]
    congr 3
    omega

theorem chunks_length (size : Nat) : ∀ (n : Nat) (cs : List AV), (chunks size n cs).length = n
  | 0, _ => rfl
  | n + 1, cs => by simp [chunks, chunks_length]

theorem sliceA_sound (h : HRel X E H w) {t : Nat} {a v : AV} {x : Value} {lo hi mx : Option AV} {lv hv mv : Option Value} {H' : List Blk} (ha : V (Im X E H w) w a E x)
    (h1 : VO (Im X E H w) w E lo lv) (h2 : VO (Im X E H w) w E hi hv) (h3 : VO (Im X E H w) w E mx mv) (hs : sliceA P H t a lo hi mx = some (v, H')) :
    ∃ y w', (Instr.sliceAt t x lv hv mv).run P w = .ok y w' ∧ Good X E H w v H' y w' := by
  unfold sliceA at hs
  split at hs
  · -- a text
    rename_i s ht
    simp only [V] at ha
    subst ha
    split at hs
    · rename_i l r hl hr
      simp only [Option.map_eq_some_iff] at hs
      obtain ⟨u, hu, he⟩ := hs
      cases he
      have e1 := VO_conc h1 hl
      have e2 := VO_conc h2 hr
      subst e1; subst e2
      cases mv with
      | some m => exact h3.elim
      | none => exact ⟨u, w, pureRun_run P _ _ hu w, Good.here h (V_absV E u)⟩
    · cases hs
  · -- nil
    rename_i elem ht
    simp only [V] at ha
    subst ha
    split at hs
    · rename_i n r hn hb
      cases hs
      obtain ⟨l, r, c⟩ := r
      obtain ⟨m, hr, h4, h5, h6, h7, _⟩ := boundsA_sound (P := P) hb (cc := 0) (Nat.le_refl _) h1 h2 h3 true
      have : l = 0 := by omega
      have : r = 0 := by omega
      have : m = 0 := by omega
      subst_vars
      refine ⟨.slice none 0 0, w, ?_, Good.here h (by simp [V])⟩
      rw [sliceAt_other ht (by simp)]
      simp [Instr.slice, run_underlying ht, hr, run_sizeOf hn]
    · cases hs
  · -- written no more
    rename_i elem size es cap ht
    split at hs
    case h_2 => cases hs
    rename_i sz l r c hsz hb
    split at hs
    case isFalse => cases hs
    rename_i e
    subst e
    cases hs
    simp only [V] at ha
    obtain ⟨p, cc, rfl, g1, g2, g3, g4⟩ := ha
    obtain ⟨m, hr, h4, h5, h6, h7, h8, h9⟩ := boundsA_sound (P := P) hb g1 h1 h2 h3 true
    refine ⟨_, w, by rw [sliceAt_other ht (by simp)]; simp [Instr.slice, run_underlying ht, hr, run_sizeOf hsz]; rfl, Good.here h ?_⟩
    have hlen : ((es.drop l).take (r - l)).length = r - l := by simp; omega
    have hsome : ∃ q : Addr, (if m = l then some p else some (p.add (l * sz))) = some q ∧ (l < r → q = p.add (l * sz)) := by
      by_cases e : m = l
      · exact ⟨p, by rw [if_pos e], fun h => by omega⟩
      · exact ⟨_, by rw [if_neg e], fun _ => rfl⟩
    obtain ⟨q, hq, hq2⟩ := hsome
    simp only [V]
    refine ⟨q, m - l, by rw [hlen, hq], by rw [hlen]; omega, fun k hk => ?_, fun hne => ?_, ?_⟩
    · cases mx with
      | none =>
        obtain ⟨e1, e2⟩ := h8 rfl
        rw [e2] at hk
        cases cap with
        | none => simp at hk
        | some c0 =>
          simp at hk
          have := g2 c0 rfl
          omega
      | some mm =>
        obtain ⟨e1, _⟩ := h9 rfl
        rw [e1] at hk
        cases hk
        rfl
    · have hlt : l < r := by
        rcases Nat.lt_or_ge l r with h9 | h9
        · exact h9
        · exact absurd (List.length_eq_zero_iff.1 (by rw [hlen]; omega)) hne
      have hsp := g3 (by rintro rfl; simp at hne)
      rw [hq2 hlt]
      unfold Addr.add
      split
      · exact hsp
      · rfl
    · by_cases hlt : l < r
      · have hsp := g3 (by rintro rfl; simp at hlen; omega)
        have hp : p = ⟨p.block, p.off, none⟩ := by cases p; simp at hsp; simp [hsp]
        have hqe : q = ⟨p.block, p.off + l * sz, none⟩ := by rw [hq2 hlt, hp, addr_add]
        rw [hqe]
        refine VRR_of_get fun i row hi => ?_
        rw [List.getElem?_take] at hi
        split at hi
        · rw [List.getElem?_drop] at hi
          have := VRR_get g4 hi
          rw [show p.off + l * sz + i * sz = p.off + (l + i) * sz from by rw [Nat.add_mul]; omega]
          exact this
        · cases hi
      · have : (es.drop l).take (r - l) = [] := List.length_eq_zero_iff.1 (by rw [hlen]; omega)
        rw [this]
        simp [VRR]
  · -- an own one
    rename_i elem b g start len cap ht
    split at hs
    case h_2 => cases hs
    rename_i sz l r c size g' es fz hsz hb hk
    split at hs
    case isFalse => cases hs
    rename_i hq
    obtain ⟨rfl, rfl, hle⟩ := hq
    cases hs
    obtain ⟨L, C, t0, hE, hl, hg, hs2, hK, hh, hC, hR⟩ := h.own hk (V_sl_has ha)
    obtain ⟨p, cc, rfl, hlc, hp, hcn, hcs⟩ := V_slice_ok ha hE hl hg
    obtain ⟨m, hr, h4, h5, h6, h7, h8, h9⟩ := boundsA_sound (P := P) hb hlc h1 h2 h3 true
    refine ⟨_, w, by rw [sliceAt_other ht (by simp)]; simp [Instr.slice, run_underlying ht, hr, run_sizeOf hsz]; rfl, Good.here h ?_⟩
    have hsome : ∃ q : Addr, (if m = l then some p else some (p.add (l * sz))) = some q ∧ (l < m → q = p.add (l * sz)) := by
      by_cases e : m = l
      · exact ⟨p, by rw [if_pos e], fun h => by omega⟩
      · exact ⟨_, by rw [if_neg e], fun _ => rfl⟩
    obtain ⟨q, hq, hq2⟩ := hsome
    simp only [V]
    refine ⟨L, q, m - l, hE, by omega, by rw [hq], fun _ _ => ⟨by omega, ?_, ?_⟩⟩
    · by_cases hlt : l < m
      · right
        rw [hq2 hlt]
        rcases hp with h0 | h0
        · omega
        · rw [h0, addr_add, hs2, Nat.add_mul]
          simp [Nat.add_assoc]
      · left; omega
    · cases mx with
      | none =>
        obtain ⟨e1, e2⟩ := h8 rfl
        subst e2
        cases cap with
        | none =>
          have := hcn rfl
          simp
          omega
        | some c0 =>
          have := hcs c0 rfl
          simp
          omega
      | some mm =>
        obtain ⟨e1, _⟩ := h9 rfl
        subst e1
        rfl
  · -- an array
    rename_i n elem b g i off ht
    split at hs
    case h_2 => cases hs
    rename_i size l r c bs g' es fz hsz hb hk
    split at hs
    case h_2 => cases hs
    rename_i row hrow
    simp only at hs
    split at hs
    case isFalse => cases hs
    rename_i hq
    obtain ⟨rfl, hs0, hfit, hd⟩ := hq
    cases hs
    obtain ⟨L, C, t0, hE, hl, hg, hs2, hK, hh, hC, hR⟩ := h.own hk (V_ptr_has ha)
    simp only [V] at ha
    obtain ⟨L', p, hE', _, rfl, hp⟩ := ha
    rw [hE] at hE'
    cases hE'
    have hp := hp hl hg
    obtain ⟨m, hr, h4, h5, h6, h7, h8, h9⟩ := boundsA_sound (P := P) hb (cc := n) (Nat.le_refl _) h1 h2 h3 false
    have hrun : (Instr.sliceAt t (.pointer (some p)) lv hv mv).run P w = .ok (.slice (some (if m = l then p else p.add (l * size))) (r - l) (m - l)) w := by
      unfold Instr.sliceAt
      simp [run_underlying ht, Instr.sureAddr, hr, run_sizeOf hsz]
    obtain ⟨hm, hms⟩ := h.markOne b
    refine ⟨_, w, hrun, E, hm, hms, ?_⟩
    have hz := zone_mark h [b]
    simp only [V]
    refine ⟨_, _, by rw [chunks_length], by rw [chunks_length]; omega, fun k hk => (by cases hk), fun hne => ?_, ?_⟩
    · have : l < r := by
        rcases Nat.lt_or_ge l r with h9 | h9
        · exact h9
        · exact absurd (List.length_eq_zero_iff.1 (by rw [chunks_length]; omega)) hne
      rw [if_neg (by omega), hp, addr_add]
    · by_cases hlt : l < r
      · rw [if_neg (by omega), hp, addr_add]
        refine VRR_of_get fun k rw' hk' => ?_
        have hkl : k < r - l := by
          rcases Nat.lt_or_ge k (chunks size (r - l) ((row.drop (off + l * size)).take ((r - l) * size))).length with h9 | h9
          · rw [chunks_length] at h9; exact h9
          · rw [List.getElem?_eq_none h9] at hk'; cases hk'
        rw [chunks_get _ _ _ _ hkl] at hk'
        cases hk'
        have h10 : (k + 1) * size ≤ (r - l) * size := Nat.mul_le_mul_right _ hkl
        have h11 : r * size ≤ n * size := Nat.mul_le_mul_right _ h5
        have h12 : (r - l) * size + l * size = r * size := by rw [← Nat.add_mul]; congr 1; omega
        rw [Nat.add_mul] at h10
        refine ⟨by simp; omega, VR_of_get fun j d hj => ?_⟩
        rw [List.getElem?_take] at hj
        split at hj
        case isFalse => cases hj
        rename_i hjs
        rw [List.getElem?_drop, List.getElem?_take] at hj
        split at hj
        case isFalse => cases hj
        rw [List.getElem?_drop] at hj
        obtain ⟨h13, h14⟩ := hR i row hrow
        obtain ⟨y, hy, hy1, hyv⟩ := h14 _ d hj
        have hil : i < es.length := by
          rcases Nat.lt_or_ge i es.length with h9 | h9
          · exact h9
          · rw [List.getElem?_eq_none h9] at hrow; cases hrow
        have h15 : (i + 1) * bs ≤ es.length * bs := Nat.mul_le_mul_right _ hil
        rw [Nat.add_mul] at h15
        have hoff : L.o + i * L.size + off + l * size + k * size + j = L.o + i * bs + (off + l * size + (k * size + j)) := by rw [hs2]; omega
        show Im X E (markOne H b) w L.B (L.o + i * L.size + off + l * size + k * size + j) ∧ ∃ x, w.cell? ⟨L.B, L.o + i * L.size + off + l * size + k * size + j, none⟩ = some x ∧ _
        rw [hoff]
        refine ⟨hz b (by simp) L bs g es fz hE hl hk _ (by omega), y, by simp [World.cell?, hh, hy], hy1, ?_⟩
        have hdd : isData d = true := isDataL_get hd (i := k * size + j) (by
          rw [List.getElem?_take, if_pos (by omega), List.getElem?_drop]
          rw [← hj])
        exact V_mono hms.im d (Le.refl _) (V_data (E' := noE) hdd hyv)
      · have : chunks size (r - l) ((row.drop (off + l * size)).take ((r - l) * size)) = [] := List.length_eq_zero_iff.1 (by rw [chunks_length]; omega)
        rw [this]
        simp [VRR]
  · cases hs

end
end Go.Ai

/-
  CONVERSIONS, LENGTHS, OPERATIONS OF TWO.
-/
set_option linter.unusedVariables false
set_option linter.unusedSimpArgs false
namespace Go.Ai
section
variable {P : Program} {X : Nat → Nat → Prop} {E : Env} {H : List Blk} {w : World} {im : Nat → Nat → Prop}

theorem bytesA_get : ∀ {ys : List (List AV)} {l : List UInt8}, bytesA ys = some l → l.length = ys.length ∧ ∀ (i : Nat) (row : List AV), ys[i]? = some row → ∃ n : Int, row = [AV.sc (.int .u8 n)] ∧ l[i]? = some (UInt8.ofNat n.toNat)
  | [], l, h => by
    simp [bytesA] at h
    subst h
    exact ⟨rfl, fun i row hi => by simp at hi⟩
  | y :: ys, l, h => by
    unfold bytesA at h
    simp only [List.mapM_cons, Option.bind_eq_bind, Option.bind_eq_some_iff, Option.pure_def, Option.some.injEq] at h
    obtain ⟨b, hb, l', hl, rfl⟩ := h
    obtain ⟨h1, h2⟩ := bytesA_get (ys := ys) (l := l') hl
    refine ⟨by simp [h1], fun i row hi => ?_⟩
    cases i with
    | zero =>
      simp only [List.getElem?_cons_zero, Option.some.injEq] at hi
      subst hi
      split at hb
      · rename_i n
        cases hb
        exact ⟨n, rfl, by simp⟩
      · cases hb
    | succ i =>
      obtain ⟨n, h3, h4⟩ := h2 i row (by simpa using hi)
      exact ⟨n, h3, by simpa using h4⟩

theorem nums_of : ∀ (m : Nat) (news : List Value) (l : List UInt8), news.length = m → l.length = m → (∀ i : Nat, i < m → ∃ k : Int, news[i]? = some (.int .u8 k) ∧ l[i]? = some (UInt8.ofNat k.toNat)) →
    ∃ ns : List Int, news = ns.map (Value.int .u8) ∧ l = ns.map (fun k => UInt8.ofNat k.toNat)
  | 0, news, l, h1, h2, _ => ⟨[], by simpa using List.length_eq_zero_iff.1 h1, by simpa using List.length_eq_zero_iff.1 h2⟩
  | m + 1, [], l, h1, _, _ => by simp at h1
  | m + 1, _ :: _, [], _, h2, _ => by simp at h2
  | m + 1, a :: news, b :: l, h1, h2, hget => by
    obtain ⟨k, hk1, hk2⟩ := hget 0 (by omega)
    simp only [List.getElem?_cons_zero, Option.some.injEq] at hk1 hk2
    obtain ⟨ns, h7, h8⟩ := nums_of m news l (by simpa using h1) (by simpa using h2) (fun i hi => by
      have := hget (i + 1) (by omega)
      simpa using this)
    exact ⟨k :: ns, by simp [hk1, h7], by simp [hk2, h8]⟩

theorem convert_sound (h : HRel X E H w) {src dst : Nat} {a v : AV} {x : Value} (ha : V (Im X E H w) w a E x) (hv : convertA P H src dst a = some v) :
    ∃ y w', (convert src dst x).run P w = .ok y w' ∧ Good X E H w v H y w' := by
  have slices : ∀ (p : Addr) (n c : Nat), x = .slice (some p) n c → (match P.underlying src, P.underlying dst with
      | some (.slice e), some .string => match P.underlying e with
        | some (.int .u8) => ((elemsA H 1 a).bind bytesA).map fun l => (AV.sc (.string ⟨l.toArray⟩))
        | _ => none
      | _, _ => none) = some v → ∃ y w', (convert src dst x).run P w = .ok y w' ∧ Good X E H w v H y w' := by
    intro p n c hx hv
    split at hv
    · rename_i e h1 h2
      split at hv
      · rename_i h3
        simp only [Option.map_eq_some_iff, Option.bind_eq_some_iff] at hv
        obtain ⟨l, ⟨ys, hy, hb⟩, rfl⟩ := hv
        obtain ⟨hlen, news, hnl, hnr, hnf, _⟩ := elemsA_sound (P := P) h ha hy
        have hn : n = ys.length := by
          have := hlen w
          rw [hx] at this
          simp only [Builtin.lenOf, Sem.run_pure, Result.ok.injEq] at this
          exact this.1
        obtain ⟨hbl, hbg⟩ := bytesA_get hb
        have hload := hnf w rfl
        rw [hx] at hload
        simp only [Builtin.firstCells, Nat.mul_one] at hload
        rw [← hn] at hload
        have hget : ∀ i : Nat, i < ys.length → ∃ k : Int, news[i]? = some (.int .u8 k) ∧ l[i]? = some (UInt8.ofNat k.toNat) := by
          intro i hi
          obtain ⟨k, hk, hlk⟩ := hbg i _ (List.getElem?_eq_getElem hi)
          obtain ⟨_, h5⟩ := hnr i _ (List.getElem?_eq_getElem hi)
          obtain ⟨y, hy1, _, hy2⟩ := h5 0 (.sc (.int .u8 k)) (by rw [hk]; rfl)
          simp only [V] at hy2
          subst hy2
          exact ⟨k, by simpa using hy1, hlk⟩
        obtain ⟨ns, hns, hnsl⟩ := nums_of ys.length news l (by omega) hbl hget
        rw [hns] at hload
        have hrun := run_bytesToString (P := P) w p n c ns hload
        rw [foldl_push_bytes] at hrun
        refine ⟨_, w, ?_, Good.here h (x := .string ⟨l.toArray⟩) (by simp [V])⟩
        rw [hx, hnsl]
        simp [convert, run_underlying h1, run_underlying h2, run_underlying h3, hrun]
      · cases hv
    · cases hv
  unfold convertA at hv
  split at hv
  · simp only [V] at ha
    obtain ⟨p, c, hx, _⟩ := ha
    exact slices p _ c hx hv
  · simp only [V] at ha
    obtain ⟨_, p, c, _, _, hx, _⟩ := ha
    exact slices p _ c hx hv
  · rename_i s
    simp only [V] at ha
    subst ha
    split at hv
    · rename_i e h1 h2
      split at hv
      · rename_i h3
        cases hv
        generalize hcap : (Question.appendCap s.size 0 e).cut (w.tape w.drawn (.appendCap s.size 0 e)) = cap
        have hge : s.size ≤ cap := by
          rw [← hcap]
          simp only [Question.cut]
          omega
        generalize hC : s.data.map (fun b => Value.int .u8 b.toNat) ++ Array.replicate (cap - s.size) (.int .u8 0) = C
        have hw2 : ((w.drew.alloc (.cells C e)).freeze ⟨w.heap.size, C.size, none⟩ 1).heap = w.heap.push (.cells C e (C.size, C.size + 1)) := by
          apply Array.ext_getElem?
          intro q
          show ((w.heap.push (.cells C e)).modify w.heap.size _)[q]? = _
          rw [Array.getElem?_modify, Array.getElem?_push, Array.getElem?_push]
          by_cases e1 : q = w.heap.size
          · subst e1; simp
          · rw [if_neg e1, if_neg e1, if_neg (fun e2 => e1 e2.symm)]
        have hrun : (convert src dst (.string s)).run P w = .ok (.slice (some ⟨w.heap.size, 0, none⟩) s.size cap) ((w.drew.alloc (.cells C e)).freeze ⟨w.heap.size, C.size, none⟩ 1) := by
          have hsh : (w.drew.alloc (.cells C e)).shape? w.heap.size = some (e, C.size) := by
            simp only [World.shape?]
            rw [show (w.drew.alloc (.cells C e)).heap[w.heap.size]? = some (.cells C e) from heap_alloc_new w.drew _]
          simp [convert, run_underlying h1, run_underlying h2, run_underlying h3, Conv.stringToBytes, Question.forced, newRow, markStringish, hcap, hC, hsh]
        have hst1 : ((w.drew.alloc (.cells C e)).freeze ⟨w.heap.size, C.size, none⟩ 1).os = w.os := rfl
        have hst2 : ((w.drew.alloc (.cells C e)).freeze ⟨w.heap.size, C.size, none⟩ 1).tape = w.tape := rfl
        have hst3 : ((w.drew.alloc (.cells C e)).freeze ⟨w.heap.size, C.size, none⟩ 1).output = w.output := rfl
        generalize (w.drew.alloc (.cells C e)).freeze ⟨w.heap.size, C.size, none⟩ 1 = w2 at *
        obtain ⟨h4, h5⟩ := h.idle (w' := w2) ⟨⟨hst1, hst2⟩, hst3⟩ (by rw [hw2]; simp) (fun B hB => by rw [hw2, Array.getElem?_push, if_neg (Nat.ne_of_lt hB)])
        refine ⟨_, _, hrun, E, h4, h5, ?_⟩
        simp only [V]
        refine ⟨_, cap, by simp; rfl, by simpa using hge, fun k hk => (by cases hk), fun _ => rfl, VRR_of_get fun i row hi => ?_⟩
        rw [List.getElem?_map] at hi
        simp only [Option.map_eq_some_iff] at hi
        obtain ⟨b, hb, rfl⟩ := hi
        refine ⟨rfl, VR_of_get fun j d hj => ?_⟩
        cases j with
        | succ j => simp at hj
        | zero =>
          simp only [List.getElem?_cons_zero, Option.some.injEq] at hj
          subst hj
          have hil : i < s.data.size := by
            rcases Nat.lt_or_ge i s.data.toList.length with h9 | h9
            · simpa using h9
            · rw [List.getElem?_eq_none h9] at hb; cases hb
          refine ⟨⟨by rw [hw2]; simp, fun hx => ?_, ?_⟩, .int .u8 b.toNat, ?_, rfl, by simp [V]⟩
          · have := h.xlt _ _ hx
            exact absurd this (Nat.lt_irrefl _)
          · rintro ⟨b', l, hb', hl, hB, _⟩
            have := h.lt hb' hl
            rw [hB] at this
            exact absurd this (Nat.lt_irrefl _)
          · show w2.cell? ⟨w.heap.size, 0 + i * 1 + 0, none⟩ = _
            simp only [World.cell?, hw2, Array.getElem?_push_size]
            simp only [Option.isSome_none, Bool.false_eq_true, if_false]
            have hil2 : i < s.size := hil
            rw [← hC, Array.getElem?_append_left (by simp; omega)]
            simp at hb ⊢
            exact ⟨b, hb, rfl⟩
      · cases hv
    · simp only [Option.map_eq_some_iff] at hv
      obtain ⟨u, hu, rfl⟩ := hv
      exact ⟨u, w, pureRun_run P _ _ hu w, Good.here h (V_absV E u)⟩
  · simp only [Option.map_eq_some_iff, Option.bind_eq_some_iff] at hv
    obtain ⟨u, ⟨y, hy, hu⟩, rfl⟩ := hv
    have := V_conc hy ha
    subst this
    exact ⟨u, w, pureRun_run P _ _ hu w, Good.here h (V_absV E u)⟩

end
end Go.Ai

/-
  LENGTHS, OPERATIONS OF TWO, RANGES OVER TEXTS.
-/
set_option linter.unusedVariables false
set_option linter.unusedSimpArgs false
namespace Go.Ai
section
variable {P : Program} {X : Nat → Nat → Prop} {E : Env} {H : List Blk} {w : World} {im : Nat → Nat → Prop}

theorem EntsIn_length {im : Nat → Nat → Prop} : ∀ {es : List (Value × AV × Nat)} {ms : List MapEntry}, EntsIn im w E es ms → ms.length = es.length
  | [], ms, h => by
    have h : ms = [] := h
    simp [h]
  | e :: es, ms, h => by
    obtain ⟨m, r, h1, h2, h3, h4, h5⟩ := h
    simp [h1, EntsIn_length h5]

theorem HRel.map (h : HRel X E H w) {b clock : Nat} {es : List (Value × AV × Nat)} (hb : H[b]? = some (.map es clock)) :
    ∃ l ms, E b = some l ∧ l.live = true ∧ l.g = 0 ∧ w.heap[l.B]? = some (.map ms clock) ∧ EntsIn (Im X E H w) w E es ms.toList := h.blk b _ hb

theorem V_mp {b : Nat} {x : Value} (hv : V im w (.mp b) E x) {l : LB} (hE : E b = some l) (hl : l.live = true) (hg : l.g = 0) : x = .map (some l.B) := by
  simp only [V] at hv
  obtain ⟨l', r, hE', rfl, hr⟩ := hv
  rw [hE] at hE'
  cases hE'
  rw [hr hl hg]

theorem lenA_sound (h : HRel X E H w) {argTypes : Array TypeId} {ty t : TypeId} {a v : AV} {x : Value} (ht : argTypes[0]? = some t) (ha : V (Im X E H w) w a E x) (hv : lenA P H t a = some v) :
    ∃ y, (Builtin.len_ argTypes ty #[x]).run P w = .ok y w ∧ V (Im X E H w) w v E y := by
  unfold lenA at hv
  split at hv
  · rename_i e size es cap hu
    cases hv
    simp only [V] at ha
    obtain ⟨p, c, rfl, _⟩ := ha
    exact ⟨_, by simp [Builtin.len_, ht, run_underlying hu]; rfl, by simp [V]⟩
  · rename_i e b g start len cap hu
    cases hv
    simp only [V] at ha
    obtain ⟨_, p, c, _, _, rfl, _⟩ := ha
    exact ⟨_, by simp [Builtin.len_, ht, run_underlying hu]; rfl, by simp [V]⟩
  · rename_i k e b hu
    split at hv
    · rename_i es clock hk
      cases hv
      obtain ⟨l, ms, hE, hl, hg, hh, hes⟩ := h.map hk
      have := V_mp ha hE hl hg
      subst this
      refine ⟨.int .i64 es.length, ?_, by simp [V, goInt]⟩
      have := EntsIn_length hes
      simp only [Array.length_toList] at this
      have hget : (getObj l.B).run P w = .ok (.map ms clock) w := by simp only [getObj, Sem.run, hh]
      simp [Builtin.len_, ht, run_underlying hu, hget, goInt, this]
    · cases hv
  · simp only [Option.map_eq_some_iff, Option.bind_eq_some_iff] at hv
    obtain ⟨u, ⟨y, hy, hu⟩, rfl⟩ := hv
    have := V_conc hy ha
    subst this
    have hr := pureRun_run P _ _ hu w
    refine ⟨u, ?_, V_absV E u⟩
    unfold Builtin.len_ at hr ⊢
    simpa [ht] using hr

theorem eqBytes_eq : ∀ (a b : List UInt8), eqBytes a b = (a == b)
  | [], [] => rfl
  | [], _ :: _ => rfl
  | _ :: _, [] => rfl
  | a :: x, b :: y => by
    simp only [eqBytes, List.cons_beq_cons]
    split
    · rename_i h
      have : a = b := UInt8.toNat_inj.1 (by simpa using Nat.beq_eq.mp h)
      subst this
      simp [eqBytes_eq x y]
    · rename_i h
      have : a ≠ b := by rintro rfl; simp at h
      have : (a == b) = false := by simpa using this
      simp [this]

theorem eqKind_eq {k k' : IntKind} (h : eqKind k k' = true) : k = k' := by cases k <;> cases k' <;> simp [eqKind] at h ⊢

theorem fastA_sound {op : BinOp} {a b v : AV} {x y : Value} (ha : V im w a E x) (hb : V im w b E y) (t : TypeId) (ox oy : Operand) (hv : fastA op a b = some v) :
    ∃ r, (do eqGuard op t ox oy x y; binOp op t x y).run P w = .ok r w ∧ V im w v E r := by
  unfold fastA at hv
  split at hv
  · rename_i k m k' n
    simp only [V] at ha hb
    subst ha; subst hb
    split at hv
    · rename_i hk
      have := eqKind_eq hk
      subst this
      have hg : (eqGuard op t ox oy (.int k m) (.int k n)).run P w = .ok () w := by
        unfold eqGuard
        split <;> simp
      unfold intA at hv
      split at hv <;> first
        | (cases hv; done)
        | (cases hv; exact ⟨_, by simp only [Sem.run_bind, hg, Result.andThen_ok]; simp [binOp, Op.intArith, Op.intCmp]; rfl, by simp [V]⟩)
    · cases hv
  · rename_i s r
    simp only [V] at ha hb
    subst ha; subst hb
    have hg : (eqGuard op t ox oy (.string s) (.string r)).run P w = .ok () w := by
      unfold eqGuard
      split <;> simp
    unfold strA at hv
    split at hv
    · cases hv
      refine ⟨_, by simp only [Sem.run_bind, hg, Result.andThen_ok]; rw [binOp_string_eql]; rfl, ?_⟩
      simp [V, eqBytes_eq, ByteArray.toList_eq]
    · cases hv
      refine ⟨_, by simp only [Sem.run_bind, hg, Result.andThen_ok]; rw [binOp_string_neq]; rfl, ?_⟩
      simp [V, eqBytes_eq, ByteArray.toList_eq]
    · cases hv
  · cases hv

theorem nil_fin {t : TypeId} {x z : Value} (he1 : (Op.equal t x z).run P w = .ok false w) (he2 : (Op.equal t z x).run P w = .ok false w)
    (hb1 : ∀ op, op = .eql ∨ op = .neq → ∀ ox oy, (eqGuard op t ox oy x z).run P w = .ok () w ∧ (eqGuard op t ox oy z x).run P w = .ok () w)
    (hc1 : (binOp .eql t x z = do { let b ← Op.equal t x z; pure (.bool b) }) ∧ (binOp .eql t z x = do { let b ← Op.equal t z x; pure (.bool b) }) ∧
      (binOp .neq t x z = do { let b ← Op.equal t x z; pure (.bool (!b)) }) ∧ (binOp .neq t z x = do { let b ← Op.equal t z x; pure (.bool (!b)) }))
    (op : BinOp) (v : AV) (ho : nilA op = some v) (ox oy : Operand) :
    (∃ r, (do eqGuard op t ox oy x z; binOp op t x z).run P w = .ok r w ∧ V im w v E r) ∧ (∃ r, (do eqGuard op t ox oy z x; binOp op t z x).run P w = .ok r w ∧ V im w v E r) := by
  have hop : (op = .eql ∧ v = .sc (.bool false)) ∨ (op = .neq ∧ v = .sc (.bool true)) := by
    unfold nilA at ho
    split at ho <;> simp_all
  rcases hop with ⟨rfl, rfl⟩ | ⟨rfl, rfl⟩
  · obtain ⟨h1, h2⟩ := hb1 .eql (.inl rfl) ox oy
    obtain ⟨h3, h4, _, _⟩ := hc1
    rw [h3, h4]
    exact ⟨⟨.bool false, by simp [h1, he1], by simp [V]⟩, ⟨.bool false, by simp [h2, he2], by simp [V]⟩⟩
  · obtain ⟨h1, h2⟩ := hb1 .neq (.inr rfl) ox oy
    obtain ⟨_, _, h3, h4⟩ := hc1
    rw [h3, h4]
    exact ⟨⟨.bool true, by simp [h1, he1], by simp [V]⟩, ⟨.bool true, by simp [h2, he2], by simp [V]⟩⟩

/-- What is no nil, against nil. -/
theorem fits_eql {t : TypeId} {d : TypeDesc} {a c : AV} {x z : Value} (hd : P.underlying t = some d) (hx : V im w a E x) (hz : V im w c E z) (hf : fitsT d a = true) (hn : nilT d c = true)
    (op : BinOp) (v : AV) (ho : nilA op = some v) (ox oy : Operand) :
    (∃ r, (do eqGuard op t ox oy x z; binOp op t x z).run P w = .ok r w ∧ V im w v E r) ∧ (∃ r, (do eqGuard op t ox oy z x; binOp op t z x).run P w = .ok r w ∧ V im w v E r) := by
  unfold nilT at hn
  split at hn
  · simp only [V] at hz
    subst hz
    have : ∃ p n c, x = .slice (some p) n c := by
      cases a <;> simp only [fitsT, Bool.false_eq_true] at hf <;> simp only [V] at hx
      · obtain ⟨_, p, c, _, _, rfl, _⟩ := hx; exact ⟨p, _, c, rfl⟩
      · obtain ⟨p, c, rfl, _⟩ := hx; exact ⟨p, _, c, rfl⟩
    obtain ⟨p, n, c, rfl⟩ := this
    have he : ∀ k, (Op.equalIn (k + 1) t (.slice (some p) n c) (.slice none 0 0)).run P w = .ok false w ∧ (Op.equalIn (k + 1) t (.slice none 0 0) (.slice (some p) n c)).run P w = .ok false w := fun k => by
      simp [Op.equalIn, run_underlying hd]
    refine nil_fin (he 9999).1 (he 9999).2 (fun op h => ?_) (by simp [binOp]) op v ho ox oy
    rcases h with rfl | rfl <;> simp [eqGuard]
  · simp only [V] at hz
    subst hz
    have : ∃ p, x = .pointer (some p) := by
      cases a <;> simp only [fitsT, Bool.false_eq_true] at hf <;> simp only [V] at hx
      · obtain ⟨_, p, _, _, rfl, _⟩ := hx; exact ⟨p, rfl⟩
      · obtain ⟨p, o, rfl, _⟩ := hx; exact ⟨_, rfl⟩
    obtain ⟨p, rfl⟩ := this
    have he : ∀ k, (Op.equalIn (k + 1) t (.pointer (some p)) (.pointer none)).run P w = .ok false w ∧ (Op.equalIn (k + 1) t (.pointer none) (.pointer (some p))).run P w = .ok false w := fun k => by
      simp [Op.equalIn, run_underlying hd]
    refine nil_fin (he 9999).1 (he 9999).2 (fun op h => ?_) (by simp [binOp]) op v ho ox oy
    rcases h with rfl | rfl <;> simp [eqGuard]
  · simp only [V] at hz
    subst hz
    have : ∃ p, x = .map (some p) := by
      cases a <;> simp only [fitsT, Bool.false_eq_true] at hf <;> simp only [V] at hx
      obtain ⟨_, p, _, rfl, _⟩ := hx; exact ⟨p, rfl⟩
    obtain ⟨p, rfl⟩ := this
    have he : ∀ k, (Op.equalIn (k + 1) t (.map (some p)) (.map none)).run P w = .ok false w ∧ (Op.equalIn (k + 1) t (.map none) (.map (some p))).run P w = .ok false w := fun k => by
      simp [Op.equalIn, run_underlying hd]
    refine nil_fin (he 9999).1 (he 9999).2 (fun op h => ?_) (by simp [binOp]) op v ho ox oy
    rcases h with rfl | rfl <;> simp [eqGuard]
  · simp only [V] at hz
    subst hz
    have : ∃ f a b, x = .func f a b := by
      cases a <;> simp only [fitsT, Bool.false_eq_true] at hf <;> simp only [V] at hx
      obtain ⟨p, rfl, _⟩ := hx; exact ⟨_, _, _, rfl⟩
    obtain ⟨f, a1, b1, rfl⟩ := this
    have he : ∀ k, (Op.equalIn (k + 1) t (.func f a1 b1) .nilFunc).run P w = .ok false w ∧ (Op.equalIn (k + 1) t .nilFunc (.func f a1 b1)).run P w = .ok false w := fun k => by
      simp [Op.equalIn, run_underlying hd]
    refine nil_fin (he 9999).1 (he 9999).2 (fun op h => ?_) (by simp [binOp]) op v ho ox oy
    rcases h with rfl | rfl <;> simp [eqGuard]
  · simp only [V] at hz
    subst hz
    have : ∃ t u, x = .iface t u := by
      cases a <;> simp only [fitsT, Bool.false_eq_true] at hf <;> simp only [V] at hx
      obtain ⟨p, rfl, _⟩ := hx; exact ⟨_, _, rfl⟩
    obtain ⟨t1, u1, rfl⟩ := this
    have he : ∀ k, (Op.equalIn (k + 1) t (.iface t1 u1) .nilIface).run P w = .ok false w ∧ (Op.equalIn (k + 1) t .nilIface (.iface t1 u1)).run P w = .ok false w := fun k => by
      simp [Op.equalIn, run_underlying hd]
    refine nil_fin (he 9999).1 (he 9999).2 (fun op h => ?_) (by simp [binOp]) op v ho ox oy
    rcases h with rfl | rfl <;> simp [eqGuard]
  · cases hn

theorem slowA_sound {op : BinOp} {a b v : AV} {x y : Value} (ha : V im w a E x) (hb : V im w b E y) (t : TypeId) (ox oy : Operand) (hv : slowA P op t ox oy a b = some v) :
    ∃ r, (do eqGuard op t ox oy x y; binOp op t x y).run P w = .ok r w ∧ V im w v E r := by
  unfold slowA at hv
  split at hv
  · rename_i m n h1 h2
    simp only [Option.map_eq_some_iff] at hv
    obtain ⟨u, hu, rfl⟩ := hv
    have := V_conc h1 ha
    subst this
    have := V_conc h2 hb
    subst this
    exact ⟨u, pureRun_run P _ _ hu w, V_absV E u⟩
  · split at hv
    · rename_i d hd
      split at hv
      · rename_i hc
        simp only [Bool.or_eq_true, Bool.and_eq_true] at hc
        rcases hc with ⟨h1, h2⟩ | ⟨h1, h2⟩
        · exact (fits_eql (P := P) hd ha hb h1 h2 op v hv ox oy).1
        · exact (fits_eql (P := P) hd hb ha h2 h1 op v hv ox oy).2
      · cases hv
    · cases hv

theorem binA_sound {op : BinOp} {a b v : AV} {x y : Value} (ha : V im w a E x) (hb : V im w b E y) (t : TypeId) (ox oy : Operand) (hv : binA P op t ox oy a b = some v) :
    ∃ r, (do eqGuard op t ox oy x y; binOp op t x y).run P w = .ok r w ∧ V im w v E r := by
  unfold binA at hv
  split at hv
  · rename_i u hu
    cases hv
    exact fastA_sound ha hb t ox oy hu
  · exact slowA_sound ha hb t ox oy hv

theorem rangeA_sound (h : HRel X E H w) {at_ : Option Nat} {t : TypeId} {a v : AV} {x : Value} {H' : List Blk} (ha : V (Im X E H w) w a E x) (hv : rangeA P H at_ t a = some (v, H')) :
    ∃ y w', (Instr.range t x).run P w = .ok y w' ∧ Good X E H w v H' y w' := by
  unfold rangeA at hv
  split at hv
  · rename_i s ht
    simp only [V] at ha
    subst ha
    simp only [Option.map_eq_some_iff] at hv
    obtain ⟨⟨b, H1⟩, hnew, he⟩ := hv
    cases he
    refine ⟨.pointer (some ⟨w.heap.size, 0, none⟩), w.alloc (.stringIter s 0), by simp [Instr.range, run_underlying ht], ?_⟩
    obtain ⟨h1, h2⟩ := h.lay hnew (o := .stringIter s 0) (w' := w.alloc (.stringIter s 0)) rfl
      (l := { live := true, g := 0, B := w.heap.size, o := 0, K := 0, size := 0 }) rfl rfl (fun im' him hle ho => ⟨_, rfl, rfl, rfl, rfl, rfl, ho⟩)
    refine ⟨_, h1, h2, ?_⟩
    simp only [V]
    exact ⟨_, _, upd_same _ _ _, Nat.le_refl _, rfl, fun _ _ => by simp⟩
  · cases hv

theorem nextA_sound (h : HRel X E H w) {str : Bool} {ty : TypeId} {a v : AV} {x : Value} {H' : List Blk} (ha : V (Im X E H w) w a E x) (hv : nextA H a str = some (v, H')) :
    ∃ y w', (Instr.next x str ty).run P w = .ok y w' ∧ Good X E H w v H' y w' := by
  unfold nextA at hv
  split at hv
  · rename_i b
    split at hv
    · rename_i s pos hk
      obtain ⟨l, hE, hl, hg, ho, hs, hh⟩ := h.blk b _ hk
      have hx : x = .pointer (some ⟨l.B, 0, none⟩) := by
        simp only [V] at ha
        obtain ⟨l', p, hE', _, rfl, hp⟩ := ha
        rw [hE] at hE'
        cases hE'
        rw [hp hl hg, ho, hs]
      subst hx
      have hget : (getObj l.B).run P w = .ok (.stringIter s pos) w := by
        simp only [getObj, Sem.run, hh]
      split at hv
      · rename_i hlt
        cases hv
        have hset : (setObj l.B (.stringIter s (pos + (Utf8.decode s pos).2))).run P w = .ok () { w with heap := w.heap.setIfInBounds l.B (.stringIter s (pos + (Utf8.decode s pos).2)) } := by
          simp only [setObj, Sem.run, hh]
        have hB := h.lt hE hl
        have hT : Turn X E H w b (.siter s (pos + (Utf8.decode s pos).2)) l { w with heap := w.heap.setIfInBounds l.B (.stringIter s (pos + (Utf8.decode s pos).2)) } :=
          { live := hl, still := Still.of_one ⟨rfl, rfl⟩ rfl (B := l.B) (fun x hx => by show (w.heap.setIfInBounds l.B _)[x]? = _; rw [Array.getElem?_setIfInBounds_ne (Ne.symm hx)]) (by rw [hh]; rfl) (by show frzO (w.heap.setIfInBounds l.B _)[l.B]? = _; rw [Array.getElem?_setIfInBounds_self_of_lt hB]; rfl), size := by simp, place := .inr ⟨l, hE, hl, rfl⟩,
            other := fun B hB hn => by
              show (w.heap.setIfInBounds l.B _)[B]? = _
              rw [Array.getElem?_setIfInBounds_ne (fun e => hn l hE hl e)],
            ed := fun l0 h0 => (by rw [hE] at h0; cases h0; exact ⟨Nat.le_refl _, fun _ => ⟨hl, rfl, rfl, rfl, rfl⟩⟩),
            zone := fun l0 h0 _ size' g' es' hk' => (by rw [hk] at hk'; cases hk'),
            cell := fun l0 h0 _ size' g' es' hk' => (by rw [hk] at hk'; cases hk') }
        have hP : Put H b (.siter s (pos + (Utf8.decode s pos).2)) (H.set b (.siter s (pos + (Utf8.decode s pos).2))) := Put.set hk
        have hres := h.turn hP hT (h.xs b l hE hl) ⟨l, rfl, hl, hg, ho, hs, by
          show (w.heap.setIfInBounds l.B _)[l.B]? = _
          rw [Array.getElem?_setIfInBounds_self_of_lt hB]⟩
        rw [upd_self hE] at hres
        refine ⟨.tuple #[.bool true, goInt pos, .int .i32 (Utf8.decode s pos).1], _, ?_, E, hres.1, hres.2, ?_⟩
        · simp [Instr.next, hget, hlt, hset]
        · simp [V, VL]
      · rename_i hlt
        cases hv
        refine ⟨.tuple #[.bool false], w, ?_, Good.here h ?_⟩
        · simp [Instr.next, hget, hlt]
        · simp [V, VL]
    · cases hv
  · cases hv

end
end Go.Ai

/-
  MAPS.
-/
set_option linter.unusedVariables false
set_option linter.unusedSimpArgs false
namespace Go.Ai
section
variable {P : Program} {X : Nat → Nat → Prop} {E : Env} {H : List Blk} {w : World} {im : Nat → Nat → Prop}

theorem EntsIn_get : ∀ {es : List (Value × AV × Nat)} {ms : List MapEntry} {i : Nat} {e : Value × AV × Nat}, EntsIn im w E es ms → es[i]? = some e →
    ∃ m, ms[i]? = some m ∧ m.key = e.1 ∧ V im w e.2.1 E m.val ∧ m.born = e.2.2
  | [], _, i, e, _, h => by simp at h
  | d :: es, ms, 0, e, h, he => by
    obtain ⟨m, r, rfl, h2, h3, h4, h5⟩ := h
    simp only [List.getElem?_cons_zero, Option.some.injEq] at he
    subst he
    exact ⟨m, by simp, h2, h3, h4⟩
  | d :: es, ms, i + 1, e, h, he => by
    obtain ⟨m, r, rfl, h2, h3, h4, h5⟩ := h
    obtain ⟨m', h6⟩ := EntsIn_get h5 (by simpa using he)
    exact ⟨m', by simpa using h6.1, h6.2⟩

theorem EntsIn_set : ∀ {es : List (Value × AV × Nat)} {ms : List MapEntry} {i : Nat} {e : Value × AV × Nat} {m : MapEntry}, EntsIn im w E es ms → m.key = e.1 → V im w e.2.1 E m.val → m.born = e.2.2 →
    EntsIn im w E (es.set i e) (ms.set i m)
  | [], ms, i, e, m, h, _, _, _ => by
    have h : ms = [] := h
    subst h
    simp [EntsIn]
  | d :: es, ms, 0, e, m, h, h1, h2, h3 => by
    obtain ⟨m0, r, rfl, _, _, _, h5⟩ := h
    exact ⟨m, r, rfl, h1, h2, h3, h5⟩
  | d :: es, ms, i + 1, e, m, h, h1, h2, h3 => by
    obtain ⟨m0, r, rfl, g1, g2, g3, h5⟩ := h
    exact ⟨m0, r.set i m, rfl, g1, g2, g3, EntsIn_set h5 h1 h2 h3⟩

theorem EntsIn_push : ∀ {es : List (Value × AV × Nat)} {ms : List MapEntry} {e : Value × AV × Nat} {m : MapEntry}, EntsIn im w E es ms → m.key = e.1 → V im w e.2.1 E m.val → m.born = e.2.2 →
    EntsIn im w E (es ++ [e]) (ms ++ [m])
  | [], ms, e, m, h, h1, h2, h3 => by
    have h : ms = [] := h
    subst h
    exact ⟨m, [], rfl, h1, h2, h3, rfl⟩
  | d :: es, ms, e, m, h, h1, h2, h3 => by
    obtain ⟨m0, r, rfl, g1, g2, g3, h5⟩ := h
    exact ⟨m0, r ++ [m], rfl, g1, g2, g3, EntsIn_push h5 h1 h2 h3⟩

theorem EntsIn_erase : ∀ {es : List (Value × AV × Nat)} {ms : List MapEntry} {i : Nat}, EntsIn im w E es ms → EntsIn im w E (es.eraseIdx i) (ms.eraseIdx i)
  | [], ms, i, h => by
    have h : ms = [] := h
    subst h
    simp [EntsIn]
  | d :: es, ms, 0, h => by
    obtain ⟨m0, r, rfl, _, _, _, h5⟩ := h
    exact h5
  | d :: es, ms, i + 1, h => by
    obtain ⟨m0, r, rfl, g1, g2, g3, h5⟩ := h
    exact ⟨m0, r.eraseIdx i, rfl, g1, g2, g3, EntsIn_erase h5⟩

theorem findNowA_sound {d : TypeDesc} {k : Value} : ∀ {es : List (Value × AV × Nat)} {ms : List MapEntry} {i : Nat} {r : Option Nat}, EntsIn im w E es ms → findNowA d k es i = some r →
    ∃ q, Instr.findNow d k ms i = some q ∧ q.map (·.1) = r ∧ ∀ j v, q = some (j, v) → i ≤ j ∧ ∃ m, ms[j - i]? = some m ∧ v = m.val
  | [], ms, i, r, h, hf => by
    have h : ms = [] := h
    subst h
    simp only [findNowA, Option.some.injEq] at hf
    subst hf
    exact ⟨none, rfl, rfl, fun j v hq => by cases hq⟩
  | e :: es, ms, i, r, h, hf => by
    obtain ⟨m, rest, rfl, h2, h3, h4, h5⟩ := h
    simp only [findNowA] at hf
    simp only [Instr.findNow, h2]
    split at hf
    · rename_i hs
      cases hf
      rw [hs]
      exact ⟨_, rfl, rfl, fun j v hq => by cases hq; exact ⟨Nat.le_refl _, m, by simp, rfl⟩⟩
    · rename_i hs
      rw [hs]
      obtain ⟨q, h6, h7, h8⟩ := findNowA_sound h5 hf
      refine ⟨q, h6, h7, fun j v hq => ?_⟩
      obtain ⟨h9, m', h10, h11⟩ := h8 j v hq
      refine ⟨by omega, m', ?_, h11⟩
      rw [show j - i = (j - (i + 1)) + 1 from by omega]
      simpa using h10
    · cases hf

theorem findAskA_sound {kt : TypeId} {k : Value} : ∀ {es : List (Value × AV × Nat)} {ms : List MapEntry} {i : Nat} {r : Option Nat}, EntsIn im w E es ms → findAskA P kt k es i = some r →
    ∃ q, (Instr.findAsking kt k ms i).run P w = .ok q w ∧ q.map (·.1) = r ∧ ∀ j v, q = some (j, v) → i ≤ j ∧ ∃ m, ms[j - i]? = some m ∧ v = m.val
  | [], ms, i, r, h, hf => by
    have h : ms = [] := h
    subst h
    simp only [findAskA, Option.some.injEq] at hf
    subst hf
    exact ⟨none, rfl, rfl, fun j v hq => by cases hq⟩
  | e :: es, ms, i, r, h, hf => by
    obtain ⟨m, rest, rfl, h2, h3, h4, h5⟩ := h
    simp only [findAskA] at hf
    simp only [Instr.findAsking, h2]
    split at hf
    · rename_i hs
      cases hf
      have := pureRun_run P _ _ hs w
      exact ⟨some (i, m.val), by simp [this], rfl, fun j v hq => by cases hq; exact ⟨Nat.le_refl _, m, by simp, rfl⟩⟩
    · rename_i hs
      have := pureRun_run P _ _ hs w
      obtain ⟨q, h6, h7, h8⟩ := findAskA_sound h5 hf
      refine ⟨q, by simp [this, h6], h7, fun j v hq => ?_⟩
      obtain ⟨h9, m', h10, h11⟩ := h8 j v hq
      refine ⟨by omega, m', ?_, h11⟩
      rw [show j - i = (j - (i + 1)) + 1 from by omega]
      simpa using h10
    · cases hf

theorem findA_sound {kt : TypeId} {k : Value} {es : List (Value × AV × Nat)} {ms : List MapEntry} {r : Option Nat} (h : EntsIn im w E es ms) (hf : findA P kt k es = some r) :
    ∃ q, (Instr.findKey kt k ms).run P w = .ok q w ∧ q.map (·.1) = r ∧ ∀ j v, q = some (j, v) → ∃ m, ms[j]? = some m ∧ v = m.val := by
  unfold findA at hf
  split at hf
  · rename_i d hd
    split at hf
    · obtain ⟨q, h1, h2, h3⟩ := findNowA_sound h hf
      refine ⟨q, by simp [Instr.findKey, run_underlying hd, h1], h2, fun j v hq => ?_⟩
      obtain ⟨_, m, h4, h5⟩ := h3 j v hq
      exact ⟨m, by simpa using h4, h5⟩
    · rename_i hk
      obtain ⟨q, h1, h2, h3⟩ := findAskA_sound h hf
      refine ⟨q, ?_, h2, fun j v hq => ?_⟩
      · cases ms with
        | nil => simp only [Instr.findAsking, Sem.run_pure] at h1; simp [Instr.findKey, run_underlying hd, Instr.findNow, h1]
        | cons m ms =>
          have hn : Instr.sameNow d k m.key = none := by
            cases d <;> simp [keyKind] at hk <;> simp [Instr.sameNow]
          have : Instr.findNow d k (m :: ms) 0 = none := by simp [Instr.findNow, hn]
          simp only [Instr.findKey, Sem.run_bind, run_underlying hd, Result.andThen_ok, this, h1]
      · obtain ⟨_, m, h4, h5⟩ := h3 j v hq
        exact ⟨m, by simpa using h4, h5⟩
  · cases hf

theorem lookupA_sound (h : HRel X E H w) {t : TypeId} {a ix v : AV} {x k : Value} {ok : Bool} (ha : V (Im X E H w) w a E x) (hi : V (Im X E H w) w ix E k) (hv : lookupA P H t a ix ok = some v) :
    ∃ y, (Instr.lookup t x k ok).run P w = .ok y w ∧ V (Im X E H w) w v E y := by
  unfold lookupA at hv
  split at hv
  case h_2 => cases hv
  rename_i kt et ht
  split at hv
  case h_2 => cases hv
  rename_i k0 es z hk hes hz
  have := V_conc hk hi
  subst this
  obtain ⟨ms, hms, hrun⟩ : ∃ ms : Array MapEntry, EntsIn (Im X E H w) w E es ms.toList ∧
      ((x = .map none ∧ ms = #[]) ∨ ∃ r clock, x = .map (some r) ∧ (getObj r).run P w = .ok (.map ms clock) w) := by
    unfold entsA at hes
    split at hes
    · cases hes
      simp only [V] at ha
      exact ⟨#[], rfl, .inl ⟨ha, rfl⟩⟩
    · rename_i b
      split at hes
      · rename_i es0 clock hb
        cases hes
        obtain ⟨l, ms, hE, hl, hg, hh, he⟩ := h.map hb
        have := V_mp ha hE hl hg
        subst this
        have hget : (getObj l.B).run P w = .ok (.map ms clock) w := by simp only [getObj, Sem.run, hh]
        exact ⟨ms, he, .inr ⟨l.B, clock, rfl, hget⟩⟩
      · cases hes
    · cases hes
  have hemp : ms.isEmpty = es.isEmpty := by
    have := EntsIn_length hms
    simp only [Array.length_toList] at this
    rw [Bool.eq_iff_iff]
    simp [Array.isEmpty_iff, ← Array.size_eq_zero_iff, this]
  split at hv
  · rename_i u i hck hf
    split at hv
    · rename_i e he
      cases hv
      obtain ⟨q, h1, h2, h3⟩ := findA_sound (P := P) hms hf
      have hckr := pureRun_run P _ _ hck w
      cases q with
      | none => simp at h2
      | some q =>
        obtain ⟨j, v⟩ := q
        simp only [Option.map_some, Option.some.injEq] at h2
        subst h2
        obtain ⟨m, h4, rfl⟩ := h3 _ _ rfl
        obtain ⟨m', h5, h6, h7, h8⟩ := EntsIn_get hms he
        rw [h4] at h5
        cases h5
        refine ⟨if ok then .tuple #[m.val, .bool true] else m.val, ?_, ?_⟩
        · rcases hrun with ⟨rfl, rfl⟩ | ⟨r, clock, rfl, hget⟩
          · simp only [Instr.lookup, Sem.run_bind, run_underlying ht, Result.andThen_ok, hemp, hckr, h1, Sem.run_pure]
          · simp only [Instr.lookup, Sem.run_bind, run_underlying ht, Result.andThen_ok, hget, hemp, hckr, h1, Sem.run_pure]
        · cases ok
          · exact h7
          · simp only [if_true, V]
            exact ⟨_, rfl, by simp only [VL]; exact ⟨_, _, rfl, h7, _, _, rfl, by simp [V], rfl⟩⟩
    · cases hv
  · rename_i u hck hf
    cases hv
    obtain ⟨q, h1, h2, h3⟩ := findA_sound (P := P) hms hf
    have hckr := pureRun_run P _ _ hck w
    have : q = none := by simpa using h2
    subst this
    refine ⟨if ok then .tuple #[z, .bool false] else z, ?_, ?_⟩
    · rcases hrun with ⟨rfl, rfl⟩ | ⟨r, clock, rfl, hget⟩
      · simp only [Instr.lookup, Sem.run_bind, run_underlying ht, Result.andThen_ok, hemp, hckr, h1, run_zeroValue hz, Sem.run_pure]
      · simp only [Instr.lookup, Sem.run_bind, run_underlying ht, Result.andThen_ok, hget, hemp, hckr, h1, run_zeroValue hz, Sem.run_pure]
    · cases ok
      · exact V_absV E z
      · simp only [if_true, V]
        exact ⟨_, rfl, by simp only [VL]; exact ⟨_, _, rfl, V_absV E z, _, _, rfl, by simp [V], rfl⟩⟩
  · cases hv

theorem frz_map (h : HRel X E H w) {b clock : Nat} {es : List (Value × AV × Nat)} (hb : H[b]? = some (.map es clock)) {l : LB} (hE : E b = some l) : frzO w.heap[l.B]? = (0, 0) := by
  obtain ⟨l', ms, e, _, _, hh, _⟩ := h.blk b _ hb
  rw [hE] at e
  cases e
  rw [hh]
  rfl

/-- A map is turned. -/
theorem HRel.mapTurn (h : HRel X E H w) {b clock clock' : Nat} {es es' : List (Value × AV × Nat)} (hb : H[b]? = some (.map es clock)) {l : LB} (hE : E b = some l) (hl : l.live = true) (hg : l.g = 0) {ms' : Array MapEntry}
    (he : EntsIn (Im X E H w) w E es' ms'.toList) :
    HRel X E (H.set b (.map es' clock')) { w with heap := w.heap.setIfInBounds l.B (.map ms' clock') } ∧ Step X E H w E (H.set b (.map es' clock')) { w with heap := w.heap.setIfInBounds l.B (.map ms' clock') } := by
  have hB := h.lt hE hl
  have hT : Turn X E H w b (.map es' clock') l { w with heap := w.heap.setIfInBounds l.B (.map ms' clock') } :=
    { live := hl, still := Still.of_one ⟨rfl, rfl⟩ rfl (B := l.B) (fun x hx => by show (w.heap.setIfInBounds l.B _)[x]? = _; rw [Array.getElem?_setIfInBounds_ne (Ne.symm hx)]) (frz_map h hb hE) (by show frzO (w.heap.setIfInBounds l.B _)[l.B]? = _; rw [Array.getElem?_setIfInBounds_self_of_lt hB]; rfl), size := by simp, place := .inr ⟨l, hE, hl, rfl⟩,
      other := fun B hB hn => by
        show (w.heap.setIfInBounds l.B _)[B]? = _
        rw [Array.getElem?_setIfInBounds_ne (fun e => hn l hE hl e)],
      ed := fun l0 h0 => (by rw [hE] at h0; cases h0; exact ⟨Nat.le_refl _, fun _ => ⟨hl, rfl, rfl, rfl, rfl⟩⟩),
      zone := fun l0 h0 _ size' g' es' hk' => (by rw [hb] at hk'; cases hk'),
      cell := fun l0 h0 _ size' g' es' hk' => (by rw [hb] at hk'; cases hk') }
  have hP : Put H b (.map es' clock') (H.set b (.map es' clock')) := Put.set hb
  have hres := h.turn hP hT (h.xs b l hE hl) ⟨l, ms', rfl, hl, hg, by
    show (w.heap.setIfInBounds l.B _)[l.B]? = _
    rw [Array.getElem?_setIfInBounds_self_of_lt hB], EntsIn_mono (hT.im h hP) hT.le he⟩
  rw [upd_self hE] at hres
  exact hres

theorem mapUpdateA_sound (h : HRel X E H w) {t : TypeId} {a ix v : AV} {x k y : Value} {H' : List Blk} (ha : V (Im X E H w) w a E x) (hi : V (Im X E H w) w ix E k) (hy : V (Im X E H w) w v E y)
    (hv : mapUpdateA P H t a ix v = some H') : ∃ w', (Instr.mapUpdate t x k y).run P w = .ok () w' ∧ HRel X E H' w' ∧ Step X E H w E H' w' := by
  unfold mapUpdateA at hv
  split at hv
  case h_2 => cases hv
  rename_i kt et b k0 ht hk
  have := V_conc hk hi
  subst this
  split at hv
  case h_2 => cases hv
  rename_i es clock hb
  obtain ⟨l, ms, hE, hl, hg, hh, hes⟩ := h.map hb
  have := V_mp ha hE hl hg
  subst this
  have hget : (getObj l.B).run P w = .ok (.map ms clock) w := by simp only [getObj, Sem.run, hh]
  have hset : ∀ o, (setObj l.B o).run P w = .ok () { w with heap := w.heap.setIfInBounds l.B o } := fun o => by simp only [setObj, Sem.run, hh]
  split at hv
  · rename_i u i hck hf
    split at hv
    case h_2 => cases hv
    rename_i e he
    split at hv
    case isFalse => cases hv
    rename_i hsb
    cases hv
    obtain ⟨q, h1, h2, h3⟩ := findA_sound (P := P) hes hf
    have hckr := pureRun_run P _ _ hck w
    cases q with
    | none => simp at h2
    | some q =>
      obtain ⟨j, v0⟩ := q
      simp only [Option.map_some, Option.some.injEq] at h2
      subst h2
      obtain ⟨m, h4, _⟩ := h3 _ _ rfl
      obtain ⟨m', h5, h6, h7, h8⟩ := EntsIn_get hes he
      rw [h4] at h5
      cases h5
      rw [Array.getElem?_toList] at h4
      have hkey : (Instr.keyThatStays (((ms[j]?).map (·.key)).getD k) k).run P w = .ok k w := by
        rw [h4]
        simp only [Option.map_some, Option.getD_some, h6, Instr.keyThatStays, hsb, if_true, Sem.run_pure]
      have hmod : ms.modify j (fun e => { e with key := k, val := y }) = (ms.toList.set j { key := k, val := y, born := m.born }).toArray := by
        apply Array.ext'
        apply List.ext_getElem?
        intro q
        rw [Array.getElem?_toList, Array.getElem?_modify, List.getElem?_toArray, List.getElem?_set]
        have hj : j < ms.toList.length := by
          rcases Nat.lt_or_ge j ms.size with h9 | h9
          · simpa using h9
          · rw [Array.getElem?_eq_none h9] at h4; cases h4
        by_cases e1 : j = q
        · subst e1
          have hj2 : j < ms.size := by simpa using hj
          have h4' : ms[j] = m := by simpa [Array.getElem?_eq_getElem hj2] using h4
          simp [h4, hj2, h4']
        · simp [e1]
      have hent : EntsIn (Im X E H w) w E (es.set j (k, v, e.2.2)) (ms.toList.set j { key := k, val := y, born := m.born }).toArray.toList :=
        EntsIn_set (m := { key := k, val := y, born := m.born }) hes rfl hy h8
      obtain ⟨h9, h10⟩ := h.mapTurn (clock' := clock) hb hE hl hg hent
      refine ⟨_, ?_, h9, h10⟩
      simp only [Instr.mapUpdate, Sem.run_bind, run_underlying ht, Result.andThen_ok, hget, hckr, h1, hkey, hset, hmod]
  · rename_i u hck hf
    cases hv
    obtain ⟨q, h1, h2, h3⟩ := findA_sound (P := P) hes hf
    have hckr := pureRun_run P _ _ hck w
    have : q = none := by simpa using h2
    subst this
    have hent : EntsIn (Im X E H w) w E (es ++ [(k, v, clock)]) (ms.push { key := k, val := y, born := clock }).toList := by
      rw [Array.toList_push]
      exact EntsIn_push (m := { key := k, val := y, born := clock }) hes rfl hy rfl
    obtain ⟨h9, h10⟩ := h.mapTurn (clock' := clock + 1) hb hE hl hg hent
    refine ⟨_, ?_, h9, h10⟩
    simp only [Instr.mapUpdate, Sem.run_bind, run_underlying ht, Result.andThen_ok, hget, hckr, h1, hset]
  · cases hv

theorem deleteA_sound (h : HRel X E H w) {argTypes : Array TypeId} {ty t : TypeId} {a ix : AV} {x k : Value} {H' : List Blk} (h0 : argTypes[0]? = some t) (ha : V (Im X E H w) w a E x) (hi : V (Im X E H w) w ix E k)
    (hv : deleteA P H t a ix = some H') : ∃ w', (Builtin.delete_ argTypes ty #[x, k]).run P w = .ok (.tuple #[]) w' ∧ HRel X E H' w' ∧ Step X E H w E H' w' := by
  unfold deleteA at hv
  split at hv
  · rename_i kt et k0 ht hk
    have := V_conc hk hi
    subst this
    simp only [V] at ha
    subst ha
    split at hv
    · rename_i u hck
      cases hv
      have hckr := pureRun_run P _ _ hck w
      exact ⟨w, by simp [Builtin.delete_, h0, run_underlying ht, hckr], h, Step.refl⟩
    · cases hv
  · rename_i kt et b k0 ht hk
    have := V_conc hk hi
    subst this
    split at hv
    case h_2 => cases hv
    rename_i es clock hb
    obtain ⟨l, ms, hE, hl, hg, hh, hes⟩ := h.map hb
    have := V_mp ha hE hl hg
    subst this
    have hget : (getObj l.B).run P w = .ok (.map ms clock) w := by simp only [getObj, Sem.run, hh]
    have hset : ∀ o, (setObj l.B o).run P w = .ok () { w with heap := w.heap.setIfInBounds l.B o } := fun o => by simp only [setObj, Sem.run, hh]
    have hemp : ms.isEmpty = es.isEmpty := by
      have := EntsIn_length hes
      simp only [Array.length_toList] at this
      rw [Bool.eq_iff_iff]
      simp [Array.isEmpty_iff, ← Array.size_eq_zero_iff, this]
    split at hv
    · rename_i u i hck hf
      cases hv
      obtain ⟨q, h1, h2, h3⟩ := findA_sound (P := P) hes hf
      have hckr := pureRun_run P _ _ hck w
      cases q with
      | none => simp at h2
      | some q =>
        obtain ⟨j, v0⟩ := q
        simp only [Option.map_some, Option.some.injEq] at h2
        subst h2
        obtain ⟨m, h4, _⟩ := h3 _ _ rfl
        have hj : j < ms.size := by
          rcases Nat.lt_or_ge j ms.toList.length with h9 | h9
          · simpa using h9
          · rw [List.getElem?_eq_none h9] at h4; cases h4
        have her : (ms.eraseIdxIfInBounds j).toList = ms.toList.eraseIdx j := by
          simp [Array.eraseIdxIfInBounds, hj]
        obtain ⟨h9, h10⟩ := h.mapTurn (ms' := ms.eraseIdxIfInBounds j) (clock' := clock) hb hE hl hg (by rw [her]; exact EntsIn_erase hes)
        refine ⟨_, ?_, h9, h10⟩
        simp only [Builtin.delete_, h0, List.getElem?_toArray, List.getElem?_cons_zero, List.getElem?_cons_succ, Sem.run_bind, run_underlying ht, Result.andThen_ok, hget, hemp, hckr, h1, hset, Sem.run_pure]
    · rename_i u hck hf
      cases hv
      obtain ⟨q, h1, h2, h3⟩ := findA_sound (P := P) hes hf
      have hckr := pureRun_run P _ _ hck w
      have : q = none := by simpa using h2
      subst this
      have hsame : (w.heap.setIfInBounds l.B (.map ms clock)) = w.heap := by
        apply Array.ext_getElem?
        intro q
        rw [Array.getElem?_setIfInBounds]
        by_cases e1 : l.B = q
        · subst e1
          rw [if_pos rfl, if_pos (h.lt hE hl), hh]
        · simp [e1]
      refine ⟨w, ?_, h, Step.refl⟩
      simp only [Builtin.delete_, h0, List.getElem?_toArray, List.getElem?_cons_zero, List.getElem?_cons_succ, Sem.run_bind, run_underlying ht, Result.andThen_ok, hget, hemp, hckr, h1, hset, hsame, Sem.run_pure]
    · cases hv
  · cases hv

/-- Rows written over in an own block. -/
theorem HRel.splice (h : HRel X E H w) {b size g p : Nat} {es ys : List (List AV)} (hk : H[b]? = some (.cells size g es false)) {l : LB} {C : Array Value} {t : TypeId} (hE : E b = some l) (hl : l.live = true) (hg : l.g = g)
    (hs : l.size = size) (hK : es.length ≤ l.K) (hh : w.heap[l.B]? = some (.cells C t (0, 0))) (hC : l.o + l.K * size ≤ C.size) (hR : RowsIn (Im X E H w) w E C l.o size es) {news : List Value}
    (hnl : news.length = ys.length * size) (hnr : RowsIn (Im X E H w) w E news.toArray 0 size ys) (hone : ∀ u ∈ news, u.oneCell' = true) (hp : p + ys.length ≤ es.length) :
    ∃ w', (storeCells ⟨l.B, l.o + p * size, none⟩ news).run P w = .ok () w' ∧ HRel X E (H.set b (.cells size g (es.take p ++ ys ++ es.drop (p + ys.length)) false)) w' ∧
      Step X E H w E (H.set b (.cells size g (es.take p ++ ys ++ es.drop (p + ys.length)) false)) w' := by
  have hfitC : l.o + p * size + news.length ≤ C.size := by
    have h2 : (p + ys.length) * size ≤ l.K * size := Nat.mul_le_mul_right _ (by omega)
    rw [Nat.add_mul] at h2
    rw [hnl]
    omega
  have hst := run_storeCells_at P l.B (l.o + p * size) t news 0 C w hh (by simpa using hfitC) hone
  simp only [Nat.add_zero] at hst
  refine ⟨_, hst, ?_⟩
  generalize hC' : C.toList.take (l.o + p * size) ++ news ++ C.toList.drop (l.o + p * size + news.length) = C' at *
  have hget : ∀ q : Nat, C'[q]? = if l.o + p * size ≤ q ∧ q < l.o + p * size + news.length then news[q - (l.o + p * size)]? else C[q]? := by
    intro q
    rw [← hC', splice_get _ _ _ (by simpa using hfitC), Array.getElem?_toList (xs := C)]
  have hlenC : C'.length = C.size := by rw [← hC']; simp at hfitC ⊢; omega
  have hT : Turn X E H w b (.cells size g (es.take p ++ ys ++ es.drop (p + ys.length)) false) l (w.setRow l.B C'.toArray) :=
    { live := hl, still := Still.setRow hh, size := by simp, place := .inr ⟨l, hE, hl, rfl⟩,
      other := fun B hB hn => setRow_other w l.B B _ fun e => hn l hE hl e.symm
      ed := fun l0 h0 => by rw [hE] at h0; cases h0; exact ⟨Nat.le_refl _, fun _ => ⟨hl, rfl, rfl, rfl, rfl⟩⟩
      zone := fun l0 h0 _ size' g' es' hk' => by rw [hk] at hk'; cases hk'
      cell := fun l0 h0 _ size' g' es' hk' => by rw [hk] at hk'; cases hk' }
  have hP : Put H b (.cells size g (es.take p ++ ys ++ es.drop (p + ys.length)) false) (H.set b (.cells size g (es.take p ++ ys ++ es.drop (p + ys.length)) false)) := Put.set hk
  have him := hT.im h hP
  have hres := h.turn hP hT (h.xs b l hE hl) (by
    refine .inr ⟨l, C'.toArray, t, rfl, hl, hg, hs, ?_, setRow_heap w l.B C _ t _ hh, by rw [List.size_toArray, hlenC]; exact hC, ?_⟩
    · simp; omega
    · intro k row hk2
      rw [splice_get _ _ _ (by omega)] at hk2
      simp only [List.getElem?_toArray]
      by_cases hin : p ≤ k ∧ k < p + ys.length
      · rw [if_pos hin] at hk2
        obtain ⟨h7, h8⟩ := hnr _ row hk2
        refine ⟨h7, fun j c hj => ?_⟩
        obtain ⟨x, hx, hx1, hxv⟩ := h8 j c hj
        refine ⟨x, ?_, hx1, V_mono him c hT.le hxv⟩
        simp only [Nat.zero_add, List.getElem?_toArray] at hx
        have hlt2 : (k - p) * size + j < news.length := by
          rcases Nat.lt_or_ge ((k - p) * size + j) news.length with h9 | h9
          · exact h9
          · rw [List.getElem?_eq_none h9] at hx; cases hx
        have h10 : p * size + (k - p) * size = k * size := by rw [← Nat.add_mul]; congr 1; omega
        rw [hget, if_pos (by omega), ← hx]
        congr 1
        omega
      · rw [if_neg hin] at hk2
        obtain ⟨h7, h8⟩ := hR _ row hk2
        refine ⟨h7, fun j c hj => ?_⟩
        obtain ⟨x, hx, hx1, hxv⟩ := h8 j c hj
        refine ⟨x, ?_, hx1, V_mono him c hT.le hxv⟩
        have hjl : j < row.length := by
          rcases Nat.lt_or_ge j row.length with h9 | h9
          · exact h9
          · rw [List.getElem?_eq_none h9] at hj; cases hj
        rw [hget, if_neg, hx]
        have e2 : p * size + news.length = (p + ys.length) * size := by rw [hnl, ← Nat.add_mul]
        rcases Nat.lt_or_ge k p with h10 | h10
        · have : (k + 1) * size ≤ p * size := Nat.mul_le_mul_right _ h10
          rw [Nat.add_mul] at this
          omega
        · have : (p + ys.length) * size ≤ k * size := Nat.mul_le_mul_right _ (by omega)
          omega)
  rw [upd_self hE] at hres
  exact hres

theorem clearA_sound (h : HRel X E H w) {argTypes : Array TypeId} {ty t : TypeId} {a : AV} {x : Value} {H' : List Blk} (h0 : argTypes[0]? = some t) (ha : V (Im X E H w) w a E x)
    (hv : clearA P H t a = some H') : ∃ w', (Builtin.clear_ argTypes ty #[x]).run P w = .ok (.tuple #[]) w' ∧ HRel X E H' w' ∧ Step X E H w E H' w' := by
  unfold clearA at hv
  split at hv
  · rename_i kt et ht
    cases hv
    simp only [V] at ha
    subst ha
    exact ⟨w, by simp [Builtin.clear_, h0, run_underlying ht], h, Step.refl⟩
  · rename_i kt et b ht
    split at hv
    · rename_i es clock hb
      cases hv
      obtain ⟨l, ms, hE, hl, hg, hh, hes⟩ := h.map hb
      have := V_mp ha hE hl hg
      subst this
      have hget : (getObj l.B).run P w = .ok (.map ms clock) w := by simp only [getObj, Sem.run, hh]
      have hset : ∀ o, (setObj l.B o).run P w = .ok () { w with heap := w.heap.setIfInBounds l.B o } := fun o => by simp only [setObj, Sem.run, hh]
      obtain ⟨h9, h10⟩ := h.mapTurn (es' := []) (ms' := #[]) (clock' := clock) hb hE hl hg rfl
      exact ⟨_, by simp [Builtin.clear_, h0, run_underlying ht, hget, hset], h9, h10⟩
    · cases hv
  · rename_i et ht
    cases hv
    simp only [V] at ha
    subst ha
    exact ⟨w, by simp [Builtin.clear_, h0, run_underlying ht], h, Step.refl⟩
  · rename_i elem b g start len cap ht
    split at hv
    case h_2 => cases hv
    rename_i sz g' es size zs hk hsz hz
    split at hv
    · rename_i hl0
      cases hv
      subst hl0
      have hx : ∃ p c, x = .slice (some p) 0 c := by
        simp only [V] at ha
        obtain ⟨_, p, c, _, _, rfl, _⟩ := ha
        exact ⟨p, c, rfl⟩
      obtain ⟨p, c, rfl⟩ := hx
      exact ⟨w, by simp [Builtin.clear_, h0, run_underlying ht], h, Step.refl⟩
    · rename_i hl0
      split at hv
      case isFalse => cases hv
      rename_i hq
      obtain ⟨rfl, hs0, hzl, rfl, hle⟩ := hq
      cases hv
      obtain ⟨l, C, t0, hE, hl, hg, hs, hK, hh, hC, hR⟩ := h.own hk (V_sl_has ha)
      obtain ⟨p, c, rfl, hlc, hp, _, _⟩ := V_slice_ok ha hE hl hg
      have hp2 : p = ⟨l.B, l.o + start * l.size, none⟩ := by
        rcases hp with h1 | h1
        · omega
        · exact h1
      subst hp2
      simp only [Option.bind_eq_some_iff] at hz
      obtain ⟨z, hz, hcs⟩ := hz
      obtain ⟨hvl, hsg⟩ := V_cells (im := Im X E H w) (w := w) (E := E) hcs (V_absV E z)
      have hzc : z.cells.size = sz := by have := VL_length hvl; simp at this; omega
      have hzeq : (Builtin.zeroCells z.cells len) = madeCells z.cells (len * sz) := by
        unfold Builtin.zeroCells madeCells
        rw [hzc]
      have hnr : RowsIn (Im X E H w) w E (madeCells z.cells (len * sz)).toList.toArray 0 sz (List.replicate len zs) := by
        intro k row hk
        rw [List.getElem?_replicate] at hk
        split at hk
        · rename_i hlt
          cases hk
          refine ⟨hzl, fun j d hj => ?_⟩
          obtain ⟨y, hy, hyv⟩ := VL_get hvl hj
          have hjl : j < sz := by
            rcases Nat.lt_or_ge j zs.length with h9 | h9
            · omega
            · rw [List.getElem?_eq_none h9] at hj; cases hj
          refine ⟨y, ?_, oneCell_of_single (hsg d (List.mem_of_getElem? hj)) hyv, hyv⟩
          have hq : k * sz + j < len * sz := by
            have : (k + 1) * sz ≤ len * sz := Nat.mul_le_mul_right _ hlt
            rw [Nat.add_mul] at this
            omega
          rw [Nat.zero_add, Array.toArray_toList, madeCells_get _ _ _ hq (by omega), hzc, Nat.mul_comm k, Nat.mul_add_mod, Nat.mod_eq_of_lt hjl]
          simpa using hy
        · cases hk
      have hone : ∀ u ∈ (madeCells z.cells (len * sz)).toList, u.oneCell' = true := by
        intro u hu
        obtain ⟨q, hq, rfl⟩ := List.getElem_of_mem hu
        simp only [Array.length_toList, size_madeCells] at hq
        have hmod : q % z.cells.size < zs.length := by rw [hzc, hzl]; exact Nat.mod_lt _ (by omega)
        obtain ⟨y, hy, hyv⟩ := VL_get hvl (List.getElem?_eq_getElem hmod)
        have h1 := madeCells_get z.cells (len * sz) q hq (by omega)
        rw [Array.getElem?_toList] at hy
        rw [hy] at h1
        have h2 : (madeCells z.cells (len * sz)).toList[q]? = some y := by rw [Array.getElem?_toList]; exact h1
        rw [List.getElem?_eq_getElem (by simpa [size_madeCells] using hq)] at h2
        cases h2
        exact oneCell_of_single (hsg _ (List.getElem_mem hmod)) hyv
      obtain ⟨w', h1, h2, h3⟩ := h.splice (P := P) (p := start) hk hE hl hg hs hK hh hC hR (news := (madeCells z.cells (len * sz)).toList) (by simp [size_madeCells]) hnr hone (by simp; omega)
      simp only [List.length_replicate] at h2 h3
      refine ⟨w', ?_, h2, h3⟩
      have hlen : ∀ n, len = n + 1 → True := fun _ _ => trivial
      cases len with
      | zero => exact absurd rfl hl0
      | succ n =>
        rw [hs]
        simp only [Builtin.clear_, h0, List.getElem?_toArray, List.getElem?_cons_zero, Sem.run_bind, run_underlying ht, Result.andThen_ok, run_zeroValue hz, hzeq, h1, Sem.run_pure]
  · cases hv

end
end Go.Ai

/-
  BLOCKS UNDER OTHER NUMBERS.
-/
set_option linter.unusedVariables false
set_option linter.unusedSimpArgs false
namespace Go.Ai
section
variable {P : Program} {X : Nat → Nat → Prop} {E E' : Env} {H : List Blk} {w : World} {im : Nat → Nat → Prop}

/-- A numbering that tells the same places. -/
def RenOK (E E' : Env) (base tgt : Nat) (ids : List (Nat × Nat)) : Prop :=
  ∀ b g p, renB base tgt ids b g = some p → ∀ l, E b = some l → g ≤ l.g → ∃ l', E' p.1 = some l' ∧ p.2 ≤ l'.g ∧
    (l'.live = true → l'.g = p.2 → l.live = true ∧ l.g = g ∧ l'.B = l.B ∧ l'.o = l.o ∧ l'.K = l.K ∧ l'.size = l.size)

theorem renB_zero {base tgt : Nat} {ids : List (Nat × Nat)} {b : Nat} {p : Nat × Nat} (h : renB base tgt ids b 0 = some p) : p.2 = 0 := by
  unfold renB at h
  split at h
  · cases h; rfl
  · simp only [Option.map_eq_some_iff] at h
    obtain ⟨k, _, rfl⟩ := h
    rfl

mutual
theorem V_ren {base tgt : Nat} {ids : List (Nat × Nat)} (hr : RenOK E E' base tgt ids) : ∀ {c : AV} {x : Value}, V im w c E x → V im w (ren base tgt ids c) E' x
  | .undef, x, h => by simp [ren, V]
  | .sc v, x, h => by simpa [ren, V] using h
  | .rp cs o, x, h => by simpa [ren, V] using h
  | .ro s es c, x, h => by simpa [ren, V] using h
  | .agg cs, x, h => by
    simp only [ren, V] at h ⊢
    obtain ⟨vs, hx, hv⟩ := h
    exact ⟨vs, hx, VL_ren hr hv⟩
  | .tup cs, x, h => by
    simp only [ren, V] at h ⊢
    obtain ⟨vs, hx, hv⟩ := h
    exact ⟨vs, hx, VL_ren hr hv⟩
  | .fn f cs, x, h => by
    simp only [ren, V] at h ⊢
    obtain ⟨vs, hx, hv⟩ := h
    exact ⟨vs, hx, VL_ren hr hv⟩
  | .ifc t v, x, h => by
    simp only [ren, V] at h ⊢
    obtain ⟨y, hx, hv⟩ := h
    exact ⟨y, hx, V_ren hr hv⟩
  | .ptr b g i off, x, h => by
    simp only [ren]
    split
    · rename_i p hp
      simp only [V] at h ⊢
      obtain ⟨l, a, hE, hg, rfl, ha⟩ := h
      obtain ⟨l', h1, h2, h3⟩ := hr b g p hp l hE hg
      refine ⟨l', a, h1, h2, rfl, fun hl e => ?_⟩
      obtain ⟨v1, v2, v3, v4, v5, v6⟩ := h3 hl e
      rw [v3, v4, v6]
      exact ha v1 v2
    · simp [V]
  | .sl b g start len cap, x, h => by
    simp only [ren]
    split
    · rename_i p hp
      simp only [V] at h ⊢
      obtain ⟨l, a, c, hE, hg, rfl, ha⟩ := h
      obtain ⟨l', h1, h2, h3⟩ := hr b g p hp l hE hg
      refine ⟨l', a, c, h1, h2, rfl, fun hl e => ?_⟩
      obtain ⟨v1, v2, v3, v4, v5, v6⟩ := h3 hl e
      rw [v3, v4, v5, v6]
      exact ha v1 v2
    · simp [V]
  | .mp b, x, h => by
    simp only [ren]
    split
    · rename_i p hp
      simp only [V] at h ⊢
      obtain ⟨l, r, hE, rfl, ha⟩ := h
      obtain ⟨l', h1, h2, h3⟩ := hr b 0 p hp l hE (Nat.zero_le _)
      refine ⟨l', r, h1, rfl, fun hl e => ?_⟩
      obtain ⟨v1, v2, v3, _⟩ := h3 hl (by rw [e, renB_zero hp])
      rw [v3]
      exact ha v1 v2
    · simp [V]
theorem VL_ren {base tgt : Nat} {ids : List (Nat × Nat)} (hr : RenOK E E' base tgt ids) : ∀ {cs : List AV} {xs : List Value}, VL im w cs E xs → VL im w (renL base tgt ids cs) E' xs
  | [], xs, h => by simpa [renL, VL] using h
  | c :: cs, xs, h => by
    simp only [renL, VL] at h ⊢
    obtain ⟨v, r, hx, h1, h2⟩ := h
    exact ⟨v, r, hx, V_ren hr h1, VL_ren hr h2⟩
end

theorem renL_get {base tgt : Nat} {ids : List (Nat × Nat)} : ∀ {cs : List AV} {j : Nat} {c : AV}, (renL base tgt ids cs)[j]? = some c → ∃ d, cs[j]? = some d ∧ c = ren base tgt ids d
  | [], j, c, h => by simp [renL] at h
  | d :: cs, 0, c, h => by
    simp only [renL, List.getElem?_cons_zero, Option.some.injEq] at h
    exact ⟨d, by simp, h.symm⟩
  | d :: cs, j + 1, c, h => by
    simp only [renL, List.getElem?_cons_succ] at h
    obtain ⟨e, h1, h2⟩ := renL_get h
    exact ⟨e, by simpa using h1, h2⟩

theorem renL_length {base tgt : Nat} {ids : List (Nat × Nat)} : ∀ (cs : List AV), (renL base tgt ids cs).length = cs.length
  | [] => rfl
  | d :: cs => by simp [renL, renL_length cs]

theorem RowsIn_ren {base tgt : Nat} {ids : List (Nat × Nat)} (hr : RenOK E E' base tgt ids) {C : Array Value} {o size : Nat} {es : List (List AV)} (h : RowsIn im w E C o size es) :
    RowsIn im w E' C o size (es.map (renL base tgt ids)) := by
  intro i row hi
  rw [List.getElem?_map] at hi
  simp only [Option.map_eq_some_iff] at hi
  obtain ⟨r, h1, rfl⟩ := hi
  obtain ⟨h2, h3⟩ := h i r h1
  refine ⟨by rw [renL_length]; exact h2, fun j c hj => ?_⟩
  obtain ⟨d, h4, rfl⟩ := renL_get hj
  obtain ⟨x, h5, h6, h7⟩ := h3 j d h4
  exact ⟨x, h5, h6, V_ren hr h7⟩

theorem EntsIn_ren {base tgt : Nat} {ids : List (Nat × Nat)} (hr : RenOK E E' base tgt ids) : ∀ {es : List (Value × AV × Nat)} {ms : List MapEntry}, EntsIn im w E es ms →
    EntsIn im w E' (es.map fun e => (e.1, ren base tgt ids e.2.1, e.2.2)) ms
  | [], ms, h => h
  | e :: es, ms, h => by
    obtain ⟨m, r, h1, h2, h3, h4, h5⟩ := h
    exact ⟨m, r, h1, h2, V_ren hr h3, h4, EntsIn_ren hr h5⟩

/-- The same places, the edition 0. -/
def zeroG (l : LB) : LB := { l with g := 0 }
def deadLB : LB := { live := false, g := 0, B := 0, o := 0, K := 0, size := 0 }

/-- What a block's place becomes. -/
def placeOf (k : Blk) (e : Option LB) : Option LB :=
  match k with
  | .res => none
  | .dead => some deadLB
  | _ => e.map zeroG

theorem placeOf_live {k : Blk} {e : Option LB} {l : LB} (h : placeOf k e = some l) (hl : l.live = true) : ∃ l0, e = some l0 ∧ l0.live = true ∧ l = zeroG l0 ∧ k ≠ .dead ∧ k ≠ .res := by
  cases k <;> simp only [placeOf, Option.map_eq_some_iff, Option.some.injEq] at h <;> first
    | (obtain ⟨l0, h1, rfl⟩ := h; exact ⟨l0, h1, hl, rfl, by simp, by simp⟩)
    | (subst h; simp [deadLB] at hl)
    | cases h

/-- A block that is kept under another number has its sense. -/
theorem BRel_ren {base tgt : Nat} {ids : List (Nat × Nat)} (hr : RenOK E E' base tgt ids) {k : Blk} {e : Option LB} (h : BRel im w E k e) :
    BRel im w E' (setGen (renBlk base tgt ids k)) (placeOf (setGen (renBlk base tgt ids k)) e) := by
  cases k with
  | res => simp [renBlk, setGen, placeOf, BRel]
  | dead => simp [renBlk, setGen, placeOf, BRel, deadLB]
  | cells size g es fz =>
    rcases h with rfl | ⟨l, C, t, rfl, h2, h3, h4, h5, h6, h7, h8⟩
    · exact .inl rfl
    simp only [renBlk, setGen, placeOf, Option.map_some]
    exact .inr ⟨zeroG l, C, t, rfl, h2, rfl, h4, by rw [List.length_map]; exact h5, h6, h7, RowsIn_ren hr h8⟩
  | map es clock =>
    obtain ⟨l, ms, rfl, h2, h3, h4, h5⟩ := h
    simp only [renBlk, setGen, placeOf, Option.map_some]
    exact ⟨zeroG l, ms, rfl, h2, rfl, h4, EntsIn_ren hr h5⟩
  | siter s pos =>
    obtain ⟨l, rfl, h2, h3, h4, h5, h6⟩ := h
    simp only [renBlk, setGen, placeOf, Option.map_some]
    exact ⟨zeroG l, rfl, h2, rfl, h4, h5, h6⟩
  | miter m since seen stepped =>
    obtain ⟨l, r, rfl, h2, h3, h4, h5, h6, h7⟩ := h
    cases m with
    | none =>
      simp only [renBlk, setGen, placeOf, Option.map_some]
      exact ⟨zeroG l, r, rfl, h2, rfl, h4, h5, h6, h7⟩
    | some b =>
      simp only [renBlk]
      split
      · rename_i p hp
        simp only [setGen, placeOf, Option.map_some]
        obtain ⟨l', q, h8, h9, h10⟩ := h7
        obtain ⟨l'', h11, h12, h13⟩ := hr b 0 p hp l' h8 (Nat.zero_le _)
        refine ⟨zeroG l, r, rfl, h2, rfl, h4, h5, h6, l'', q, h11, h9, fun hl e => ?_⟩
        obtain ⟨v1, v2, v3, _⟩ := h13 hl (by rw [e, renB_zero hp])
        rw [v3]
        exact h10 v1 v2
      · simp [setGen, placeOf, BRel, deadLB]

theorem reach_nodup (base : Nat) (H : List Blk) : ∀ (n : Nat) (todo seen : List Nat), seen.Nodup → (reach base H n todo seen).Nodup
  | 0, _, seen, h => by simpa [reach] using h
  | n + 1, [], seen, h => by simpa [reach] using h
  | n + 1, b :: todo, seen, h => by
    simp only [reach]
    split
    · exact reach_nodup base H n todo seen h
    · rename_i hc
      refine reach_nodup base H n _ _ ?_
      rw [List.nodup_append]
      refine ⟨h, by simp, ?_⟩
      intro a ha b' hb
      simp at hb
      subst hb
      rintro rfl
      exact hc (by simpa using ha)

theorem findIdx_ids {l : List Nat} {H : List Blk} {b g k : Nat} (h : (l.map fun b => (b, genOf H b)).findIdx? (fun p => p.1 == b && p.2 == g) = some k) : l[k]? = some b ∧ genOf H b = g := by
  obtain ⟨hlt, h1, _⟩ := List.findIdx?_eq_some_iff_getElem.1 h
  simp only [List.getElem_map, Bool.and_eq_true, beq_iff_eq] at h1
  simp only [List.length_map] at hlt
  exact ⟨by rw [List.getElem?_eq_getElem hlt, h1.1], by rw [← h1.2, h1.1]⟩

theorem genOf_eq (h : HRel X E H w) {b : Nat} {l : LB} (hE : E b = some l) (hl : l.live = true) : l.g = genOf H b := by
  obtain ⟨k, hk⟩ := h.inDom hE
  have hB := h.blk b k hk
  rw [hE] at hB
  unfold genOf
  cases k with
  | res => cases hB
  | dead => obtain ⟨l', e, e'⟩ := hB; cases e; rw [hl] at e'; cases e'
  | cells size g es fz =>
    rcases hB with hB | ⟨l', C, t, e, _, h3, _⟩
    · cases hB
    · cases e; rw [hk]; exact h3
  | map es clock => obtain ⟨l', ms, e, _, h3, _⟩ := hB; cases e; rw [hk]; exact h3
  | siter s pos => obtain ⟨l', e, _, h3, _⟩ := hB; cases e; rw [hk]; exact h3
  | miter m since seen stepped => obtain ⟨l', r, e, _, h3, _⟩ := hB; cases e; rw [hk]; exact h3

/-- The zone of what is kept is as it was. -/
theorem zone_ren {base tgt : Nat} {ids : List (Nat × Nat)} {k : Blk} {size g : Nat} {es : List (List AV)} (hk : k = .cells size g es true) :
    setGen (renBlk base tgt ids k) = .cells size 0 (es.map (renL base tgt ids)) true := by
  subst hk; rfl

section
variable {X' : Nat → Nat → Prop} {E1 : Env} {H1 : List Blk} {w0 : World}

theorem adopt_sound (h : HRel X E H w0) (h1 : HRel X' E1 H1 w) (hs : Step X' noE [] w0 E1 H1 w) (hX : ∀ B o, X B o ∨ Wr E H B o → X' B o) {v v' : AV} {x : Value} {H' : List Blk}
    (hv : V (Im X' E1 H1 w) w v E1 x) (ha : adopt H none H1 v = some (v', H')) : ∃ E', HRel X E' H' w ∧ Step X E H w0 E' H' w ∧ V (Im X E' H' w) w v' E' x := by
  simp only [adopt, Option.some.injEq, Prod.mk.injEq] at ha
  obtain ⟨rfl, rfl⟩ := ha
  have hnd := reach_nodup 0 H1 100000 (refs 0 v) [] List.nodup_nil
  generalize reach 0 H1 100000 (refs 0 v) [] = l at *
  generalize hids : (l.map fun b => (b, genOf H1 b)) = ids
  generalize hnew : (fun (b : Nat) => setGen (renBlk 0 H.length ids ((H1[b]?).getD .dead))) = nb
  have hnbe : ∀ (b : Nat), setGen (renBlk 0 H.length ids ((H1[b]?).getD .dead)) = nb b := fun b => by rw [← hnew]
  let E' : Env := fun b => if b < H.length then E b else (l[b - H.length]?).bind fun b0 => placeOf (nb b0) (E1 b0)
  have hold : ∀ b, b < H.length → E' b = E b := fun b hb => by simp only [E', hb, if_true]
  have hnewE : ∀ k, E' (H.length + k) = (l[k]?).bind fun b0 => placeOf (nb b0) (E1 b0) := fun k => by
    have : ¬ (H.length + k < H.length) := by omega
    simp only [E', this, if_false, Nat.add_sub_cancel_left]
  have hH' : ∀ k, (H ++ l.map nb)[H.length + k]? = (l[k]?).map nb := fun k => by
    rw [List.getElem?_append_right (by omega), Nat.add_sub_cancel_left, List.getElem?_map]
  have hH0 : ∀ b, b < H.length → (H ++ l.map nb)[b]? = H[b]? := fun b hb => by rw [List.getElem?_append_left hb]
  have hdomE : ∀ b lb, E b = some lb → b < H.length := fun b lb hb => by
    rcases Nat.lt_or_ge b H.length with h2 | h2
    · exact h2
    · rw [h.dom b (List.getElem?_eq_none h2)] at hb; cases hb
  -- what is live among the new ones
  have hlive : ∀ k lb, E' (H.length + k) = some lb → lb.live = true → ∃ b0 l0, l[k]? = some b0 ∧ E1 b0 = some l0 ∧ l0.live = true ∧ lb = zeroG l0 ∧ w0.heap.size ≤ l0.B := by
    intro k lb hb hl
    rw [hnewE] at hb
    simp only [Option.bind_eq_some_iff] at hb
    obtain ⟨b0, h2, h3⟩ := hb
    obtain ⟨l0, h4, h5, h6, _⟩ := placeOf_live h3 hl
    rcases hs.new b0 l0 h4 h5 with ⟨_, _, h7, _⟩ | h7
    · cases h7
    · exact ⟨b0, l0, h2, h4, h5, h6, h7⟩
  have hsplit : ∀ b, H.length ≤ b → ∃ k, b = H.length + k := fun b hb => ⟨b - H.length, by omega⟩
  have hren : RenOK E1 E' 0 H.length ids := by
    intro b g p hp lb hb _
    unfold renB at hp
    rw [if_neg (by omega)] at hp
    simp only [Option.map_eq_some_iff] at hp
    obtain ⟨k, hk, rfl⟩ := hp
    rw [← hids] at hk
    obtain ⟨hk1, hk2⟩ := findIdx_ids hk
    obtain ⟨kb, hkb⟩ := h1.inDom hb
    have h2 := BRel_ren (base := 0) (tgt := H.length) (ids := ids) (E' := E1) (E := E1) (im := Im X' E1 H1 w) (w := w)
    have hpl : ∃ l', placeOf (nb b) (E1 b) = some l' := by
      rw [hb, ← hnbe, hkb]
      simp only [Option.getD_some]
      cases hq : setGen (renBlk 0 H.length ids kb) with
      | res =>
        have : kb = .res := by
          cases kb with
          | res => rfl
          | miter m a b c =>
            cases m with
            | none => simp [renBlk, setGen] at hq
            | some m => simp only [renBlk] at hq; split at hq <;> simp [setGen] at hq
          | _ => simp [renBlk, setGen] at hq
        subst this
        have := h1.blk b _ hkb
        rw [hb] at this
        cases this
      | _ => exact ⟨_, rfl⟩
    obtain ⟨l', hl'⟩ := hpl
    refine ⟨l', by rw [hnewE, hk1]; exact hl', Nat.zero_le _, fun hv2 _ => ?_⟩
    obtain ⟨l0, h4, h5, h6, _⟩ := placeOf_live hl' hv2
    rw [hb] at h4
    cases h4
    subst h6
    exact ⟨h5, by rw [genOf_eq h1 hb h5, hk2], rfl, rfl, rfl, rfl⟩
  have hwr : ∀ B o, Wr E' (H ++ l.map nb) B o → Wr E H B o ∨ (Wr E1 H1 B o ∧ w0.heap.size ≤ B) := by
    rintro B o ⟨b, lb, hb, hl, hB, hz⟩
    rcases Nat.lt_or_ge b H.length with h2 | h2
    · left
      rw [hold b h2] at hb
      exact ⟨b, lb, hb, hl, hB, fun size g es hk => hz size g es (by rw [hH0 b h2]; exact hk)⟩
    · right
      obtain ⟨k, rfl⟩ := hsplit b h2
      obtain ⟨b0, l0, h3, h4, h5, rfl, h6⟩ := hlive k lb hb hl
      refine ⟨⟨b0, l0, h4, h5, hB, fun size g es hk => ?_⟩, by rw [← hB]; exact h6⟩
      have := hz size 0 (es.map (renL 0 H.length ids)) (by rw [hH', h3]; simp only [Option.map_some]; rw [← hnbe, hk]; rfl)
      rw [List.length_map] at this
      exact this
  have him : ∀ B o, Im X E H w0 B o → Im X E' (H ++ l.map nb) w B o ∧ w.cell? ⟨B, o, none⟩ = w0.cell? ⟨B, o, none⟩ := by
    rintro B o ⟨g1, g2, g3⟩
    refine ⟨⟨Nat.lt_of_lt_of_le g1 hs.size, g2, fun hw => ?_⟩, cell_of_heap (hs.obj B g1 fun b lb hb => by cases hb) o⟩
    rcases hwr B o hw with h2 | ⟨_, h2⟩
    · exact g3 h2
    · omega
  have him1 : ∀ B o, Im X' E1 H1 w B o → Im X E' (H ++ l.map nb) w B o := by
    rintro B o ⟨g1, g2, g3⟩
    refine ⟨g1, fun hx => g2 (hX B o (.inl hx)), fun hw => ?_⟩
    rcases hwr B o hw with h2 | ⟨h2, _⟩
    · exact g2 (hX B o (.inr h2))
    · exact g3 h2
  have hle : Le E E' := by
    intro b lb hb
    exact ⟨lb, by rw [hold b (hdomE b lb hb)]; exact hb, Nat.le_refl _, fun hl _ => ⟨hl, rfl, rfl, rfl, rfl⟩⟩
  refine ⟨E', ⟨?_, ?_, ?_, ?_, ?_⟩, ⟨hle, hs.size, him, ?_, ?_, by simp, ?_, hs.still⟩, V_mono (w := w) (fun B o hb => ⟨him1 B o hb, rfl⟩) _ (Le.refl _) (V_ren hren hv)⟩
  · intro b hb
    have hlen : H.length + l.length ≤ b := by
      rcases Nat.lt_or_ge b (H.length + l.length) with h2 | h2
      · rw [List.getElem?_eq_none_iff] at hb
        simp at hb
        omega
      · exact h2
    obtain ⟨k, rfl⟩ := hsplit b (by omega)
    rw [hnewE, List.getElem?_eq_none (by omega)]
    rfl
  · intro b k hk
    rcases Nat.lt_or_ge b H.length with h2 | h2
    · rw [hH0 b h2] at hk
      rw [hold b h2]
      refine BRel_mono him hle (fun lb hb hl => ?_) (h.blk b k hk)
      exact hs.obj lb.B (h.lt hb hl) fun b' l' hb' => by cases hb'
    · obtain ⟨j, rfl⟩ := hsplit b h2
      rw [hH'] at hk
      simp only [Option.map_eq_some_iff] at hk
      obtain ⟨b0, hb0, rfl⟩ := hk
      rw [hnewE, hb0]
      simp only [Option.bind_some]
      rw [← hnbe]
      cases hkb : H1[b0]? with
      | none => simp [renBlk, setGen, placeOf, BRel, deadLB]
      | some kb =>
        simp only [Option.getD_some]
        exact BRel_mono (fun B o hb => ⟨him1 B o hb, rfl⟩) (Le.refl _) (fun _ _ _ => rfl) (BRel_ren hren (h1.blk b0 kb hkb))
  · have mix : ∀ b1 k l1 l2, b1 < H.length → E' b1 = some l1 → E' (H.length + k) = some l2 → l1.live = true → l2.live = true → l1.B = l2.B → False := by
      intro b1 k l1 l2 hb1 h2 h3 v1 v2 e
      rw [hold b1 hb1] at h2
      have h4 := h.lt h2 v1
      obtain ⟨b0, l0, _, _, _, rfl, h5⟩ := hlive k l2 h3 v2
      have e : l1.B = l0.B := e
      omega
    intro b1 b2 l1 l2 h2 h3 v1 v2 e
    rcases Nat.lt_or_ge b1 H.length with g1 | g1 <;> rcases Nat.lt_or_ge b2 H.length with g2 | g2
    · rw [hold b1 g1] at h2
      rw [hold b2 g2] at h3
      exact h.sep b1 b2 l1 l2 h2 h3 v1 v2 e
    · obtain ⟨k, rfl⟩ := hsplit b2 g2
      exact (mix b1 k l1 l2 g1 h2 h3 v1 v2 e).elim
    · obtain ⟨k, rfl⟩ := hsplit b1 g1
      exact (mix b2 k l2 l1 g2 h3 h2 v2 v1 e.symm).elim
    · obtain ⟨k, rfl⟩ := hsplit b1 g1
      obtain ⟨j, rfl⟩ := hsplit b2 g2
      obtain ⟨c0, m0, a1, a2, a3, rfl, _⟩ := hlive k l1 h2 v1
      obtain ⟨c1, m1, a5, a6, a7, rfl, _⟩ := hlive j l2 h3 v2
      have := h1.sep c0 c1 m0 m1 a2 a6 a3 a7 e
      subst this
      have hkl : k < l.length := by
        rcases Nat.lt_or_ge k l.length with h9 | h9
        · exact h9
        · rw [List.getElem?_eq_none h9] at a1; cases a1
      have := (List.getElem?_inj hkl hnd).1 (a1.trans a5.symm)
      omega
  · intro b lb hb hl off
    rcases Nat.lt_or_ge b H.length with g1 | g1
    · rw [hold b g1] at hb
      exact h.xs b lb hb hl off
    · obtain ⟨k, rfl⟩ := hsplit b g1
      obtain ⟨b0, l0, _, _, _, rfl, h5⟩ := hlive k lb hb hl
      intro hx
      have hlt : l0.B < w0.heap.size := h.xlt _ _ hx
      omega
  · exact fun B off hx => Nat.lt_of_lt_of_le (h.xlt B off hx) hs.size
  · exact fun B hB _ => hs.obj B hB fun b lb hb => by cases hb
  · intro b lb hb hl
    rcases Nat.lt_or_ge b H.length with g1 | g1
    · rw [hold b g1] at hb
      exact .inl ⟨b, lb, hb, hl, rfl⟩
    · obtain ⟨k, rfl⟩ := hsplit b g1
      obtain ⟨b0, l0, _, _, _, rfl, h5⟩ := hlive k lb hb hl
      exact .inr h5
  · intro b h1 h2
    obtain ⟨s, g, es, fz, hk⟩ := h1
    have hlt : b < H.length := by
      rcases Nat.lt_or_ge b H.length with h9 | h9
      · exact h9
      · rw [List.getElem?_eq_none h9] at hk; cases hk
    exact ⟨⟨s, g, es, fz, by rw [hH0 b hlt]; exact hk⟩, by rw [hold b hlt]; exact h2⟩

end
end
end Go.Ai

/-
  WHAT NOTHING LEADS TO IS FORGOTTEN.
-/
set_option linter.unusedVariables false
set_option linter.unusedSimpArgs false
namespace Go.Ai
section
variable {P : Program} {X : Nat → Nat → Prop} {E E' : Env} {H : List Blk} {w : World} {im : Nat → Nat → Prop}

mutual
theorem ren_id {L tgt : Nat} {ids : List (Nat × Nat)} : ∀ {c : AV}, refs L c = [] → ren L tgt ids c = c
  | .undef, _ => by simp [ren]
  | .sc _, _ => by simp [ren]
  | .rp .., _ => by simp [ren]
  | .ro .., _ => by simp [ren]
  | .agg cs, h => by simp only [refs] at h; simp only [ren, renL_id h]
  | .tup cs, h => by simp only [refs] at h; simp only [ren, renL_id h]
  | .fn f cs, h => by simp only [refs] at h; simp only [ren, renL_id h]
  | .ifc t v, h => by simp only [refs] at h; simp only [ren, ren_id h]
  | .ptr b g i o, h => by
    simp only [refs] at h
    split at h
    · rename_i hb; simp [ren, renB, hb]
    · cases h
  | .sl b g s l c, h => by
    simp only [refs] at h
    split at h
    · rename_i hb; simp [ren, renB, hb]
    · cases h
  | .mp b, h => by
    simp only [refs] at h
    split at h
    · rename_i hb; simp [ren, renB, hb]
    · cases h
theorem renL_id {L tgt : Nat} {ids : List (Nat × Nat)} : ∀ {cs : List AV}, refsL L cs = [] → renL L tgt ids cs = cs
  | [], _ => by simp [renL]
  | c :: cs, h => by
    simp only [refsL, List.append_eq_nil_iff] at h
    simp only [renL, ren_id h.1, renL_id h.2]
end

theorem renBlk_id {L tgt : Nat} {ids : List (Nat × Nat)} {k : Blk} (h : refsBlk L k = []) : renBlk L tgt ids k = k := by
  cases k with
  | cells size g es fz =>
    simp only [refsBlk, List.flatMap_eq_nil_iff] at h
    simp only [renBlk]
    congr 1
    have : es.map (renL L tgt ids) = es.map id := List.map_congr_left fun r hr => renL_id (h r hr)
    rw [this]
    simp
  | map es clock =>
    simp only [refsBlk, List.flatMap_eq_nil_iff] at h
    simp only [renBlk]
    congr 1
    have : (es.map fun e => (e.1, ren L tgt ids e.2.1, e.2.2)) = es.map id := List.map_congr_left fun e he => by rw [ren_id (h e he)]; rfl
    rw [this]
    simp
  | miter m a b c =>
    cases m with
    | none => rfl
    | some b =>
      simp only [refsBlk] at h
      split at h
      · rename_i hb; simp [renBlk, renB, hb]
      · cases h
  | _ => rfl

def kill (l : LB) : LB := { l with live := false }

def outerOf (k : Blk) (e : Option LB) : Option LB :=
  match k with
  | .dead => e.map kill
  | _ => e

theorem TRel_ren {n : Nat} {a : Act} {base tgt : Nat} {ids : List (Nat × Nat)} (hr : RenOK E E' base tgt ids) {tmps : Tm} (h : TRel im w E n tmps a) : TRel im w E' n (renT base tgt ids tmps) a := by
  refine ⟨h.1, fun t => ?_⟩
  have h2 := h.2 t
  clear h
  induction tmps with
  | nil => simp [renT, getT, V]
  | cons p r ih =>
    obtain ⟨k, v⟩ := p
    simp only [renT, getT] at h2 ⊢
    split at h2
    · exact V_ren hr h2
    · exact ih h2

theorem BRel_outer {base tgt : Nat} {ids : List (Nat × Nat)} (hr : RenOK E E' base tgt ids) {k : Blk} {e : Option LB} (h : BRel im w E k e) : BRel im w E' (renBlk base tgt ids k) (outerOf (renBlk base tgt ids k) e) := by
  cases k with
  | res => exact h
  | dead =>
    obtain ⟨l, rfl, hl⟩ := h
    exact ⟨kill l, rfl, rfl⟩
  | cells size g es fz =>
    rcases h with rfl | ⟨l, C, t, rfl, h2, h3, h4, h5, h6, h7, h8⟩
    · exact .inl rfl
    exact .inr ⟨l, C, t, rfl, h2, h3, h4, by rw [List.length_map]; exact h5, h6, h7, RowsIn_ren hr h8⟩
  | map es clock =>
    obtain ⟨l, ms, rfl, h2, h3, h4, h5⟩ := h
    exact ⟨l, ms, rfl, h2, h3, h4, EntsIn_ren hr h5⟩
  | siter s pos => exact h
  | miter m since seen stepped =>
    obtain ⟨l, r, rfl, h2, h3, h4, h5, h6, h7⟩ := h
    cases m with
    | none => exact ⟨l, r, rfl, h2, h3, h4, h5, h6, h7⟩
    | some b =>
      simp only [renBlk]
      split
      · rename_i p hp
        obtain ⟨l', q, h8, h9, h10⟩ := h7
        obtain ⟨l'', h11, h12, h13⟩ := hr b 0 p hp l' h8 (Nat.zero_le _)
        refine ⟨l, r, rfl, h2, h3, h4, h5, h6, l'', q, h11, h9, fun hl e => ?_⟩
        obtain ⟨v1, v2, v3, _⟩ := h13 hl (by rw [e, renB_zero hp])
        rw [v3]
        exact h10 v1 v2
      · exact ⟨kill l, rfl, rfl⟩

mutual
theorem refs_ge {L : Nat} : ∀ {c : AV} {b : Nat}, b ∈ refs L c → L ≤ b
  | .undef, _, h => by simp [refs] at h
  | .sc _, _, h => by simp [refs] at h
  | .rp .., _, h => by simp [refs] at h
  | .ro .., _, h => by simp [refs] at h
  | .agg cs, _, h => refsL_ge (by simpa [refs] using h)
  | .tup cs, _, h => refsL_ge (by simpa [refs] using h)
  | .fn f cs, _, h => refsL_ge (by simpa [refs] using h)
  | .ifc t v, _, h => refs_ge (by simpa [refs] using h)
  | .ptr b g i o, x, h => by
    simp only [refs] at h
    split at h
    · cases h
    · simp at h; omega
  | .sl b g s l c, x, h => by
    simp only [refs] at h
    split at h
    · cases h
    · simp at h; omega
  | .mp b, x, h => by
    simp only [refs] at h
    split at h
    · cases h
    · simp at h; omega
theorem refsL_ge {L : Nat} : ∀ {cs : List AV} {b : Nat}, b ∈ refsL L cs → L ≤ b
  | [], _, h => by simp [refsL] at h
  | c :: cs, b, h => by
    simp only [refsL, List.mem_append] at h
    rcases h with h | h
    · exact refs_ge h
    · exact refsL_ge h
end

theorem refsBlk_ge {L : Nat} {k : Blk} {b : Nat} (h : b ∈ refsBlk L k) : L ≤ b := by
  cases k with
  | cells size g es fz =>
    simp only [refsBlk, List.mem_flatMap] at h
    obtain ⟨r, _, h⟩ := h
    exact refsL_ge h
  | map es clock =>
    simp only [refsBlk, List.mem_flatMap] at h
    obtain ⟨r, _, h⟩ := h
    exact refs_ge h
  | miter m a c d =>
    cases m with
    | none => simp [refsBlk] at h
    | some x =>
      simp only [refsBlk] at h
      split at h
      · cases h
      · simp at h; omega
  | _ => simp [refsBlk] at h

theorem refsT_ge {L : Nat} : ∀ {t : Tm} {b : Nat}, b ∈ refsT L t → L ≤ b
  | [], _, h => by simp [refsT] at h
  | (k, v) :: r, b, h => by
    simp only [refsT, List.mem_append] at h
    rcases h with h | h
    · exact refs_ge h
    · exact refsT_ge h

theorem reach_ge (L : Nat) (H : List Blk) : ∀ (n : Nat) (todo seen : List Nat), (∀ b ∈ todo, L ≤ b) → (∀ b ∈ seen, L ≤ b) → ∀ b ∈ reach L H n todo seen, L ≤ b
  | 0, _, seen, _, h => by simpa [reach] using h
  | n + 1, [], seen, _, h => by simpa [reach] using h
  | n + 1, c :: todo, seen, h1, h2 => by
    simp only [reach]
    split
    · exact reach_ge L H n todo seen (fun b hb => h1 b (by simp [hb])) h2
    · refine reach_ge L H n _ _ (fun b hb => ?_) (fun b hb => ?_)
      · rw [List.mem_append] at hb
        rcases hb with hb | hb
        · cases hk : H[c]? with
          | none => rw [hk] at hb; simp at hb
          | some k => rw [hk] at hb; exact refsBlk_ge (by simpa using hb)
        · exact h1 b (by simp [hb])
      · rw [List.mem_append] at hb
        rcases hb with hb | hb
        · exact h2 b hb
        · simp at hb
          exact h1 b (by simp [hb])

theorem compact_sound {E0 : Env} {H0 : List Blk} {w0 : World} (h : HRel X E H w) (hs : Step X E0 H0 w0 E H w) {L : Nat} (hL : H0.length ≤ L) (hLH : L ≤ H.length) (h0 : ∀ b l, E0 b = some l → b < H0.length) {n : Nat} {tmps : Tm} {a : Act}
    (ht : TRel (Im X E H w) w E n tmps a) {ds : List (FuncId × List AV)} :
    ∃ E', HRel X E' (compact L ⟨n, tmps, H, ds⟩).heap w ∧ Step X E0 H0 w0 E' (compact L ⟨n, tmps, H, ds⟩).heap w ∧
      TRel (Im X E' (compact L ⟨n, tmps, H, ds⟩).heap w) w E' n (compact L ⟨n, tmps, H, ds⟩).tmps a ∧ (compact L ⟨n, tmps, H, ds⟩).defers = ds ∧ (compact L ⟨n, tmps, H, ds⟩).n = n ∧
      (ds ≠ [] → E' = E ∧ (compact L ⟨n, tmps, H, ds⟩).heap = H) := by
  unfold compact
  split
  · exact ⟨E, h, hs, ht, rfl, rfl, fun _ => ⟨rfl, rfl⟩⟩
  split
  · exact ⟨E, h, hs, ht, rfl, rfl, fun _ => ⟨rfl, rfl⟩⟩
  rename_i hds
  have hds : ds = [] := by
    cases ds with
    | nil => rfl
    | cons d ds => simp at hds
  simp only
  have hnd := reach_nodup L H 100000 (refsT L tmps ++ (H.take L).flatMap (refsBlk L)) [] List.nodup_nil
  have hge := reach_ge L H 100000 (refsT L tmps ++ (H.take L).flatMap (refsBlk L)) [] (fun b hb => by
    rw [List.mem_append] at hb
    rcases hb with hb | hb
    · exact refsT_ge hb
    · rw [List.mem_flatMap] at hb
      obtain ⟨k, _, hb⟩ := hb
      exact refsBlk_ge hb) (by simp)
  generalize reach L H 100000 (refsT L tmps ++ (H.take L).flatMap (refsBlk L)) [] = l at *
  generalize hids : (l.map fun b => (b, genOf H b)) = ids
  have hout : (if ((H.take L).flatMap (refsBlk L)).isEmpty = true then H.take L else (H.take L).map (renBlk L L ids)) = (H.take L).map (renBlk L L ids) := by
    split
    · rename_i he
      have he : (H.take L).flatMap (refsBlk L) = [] := by simpa using he
      rw [List.flatMap_eq_nil_iff] at he
      have : (H.take L).map (renBlk L L ids) = (H.take L).map id := List.map_congr_left fun k hk => renBlk_id (he k hk)
      rw [this]
      simp
    · rfl
  rw [hout]
  generalize hnew : (fun (b : Nat) => setGen (renBlk L L ids ((H[b]?).getD .dead))) = nb
  have hnbe : ∀ (b : Nat), setGen (renBlk L L ids ((H[b]?).getD .dead)) = nb b := fun b => by rw [← hnew]
  let E' : Env := fun b => if b < L then outerOf (renBlk L L ids ((H[b]?).getD .dead)) (E b) else (l[b - L]?).bind fun b0 => placeOf (nb b0) (E b0)
  have htl : ((H.take L).map (renBlk L L ids)).length = L := by simp; omega
  have hold : ∀ b, b < L → E' b = outerOf (renBlk L L ids ((H[b]?).getD .dead)) (E b) := fun b hb => by simp only [E', hb, if_true]
  have hnewE : ∀ k, E' (L + k) = (l[k]?).bind fun b0 => placeOf (nb b0) (E b0) := fun k => by
    have : ¬ (L + k < L) := by omega
    simp only [E', this, if_false, Nat.add_sub_cancel_left]
  generalize hH' : (H.take L).map (renBlk L L ids) ++ l.map nb = H'
  have hHn : ∀ k, H'[L + k]? = (l[k]?).map nb := fun k => by
    rw [← hH', List.getElem?_append_right (by omega), htl, Nat.add_sub_cancel_left, List.getElem?_map]
  have hHo : ∀ b, b < L → H'[b]? = (H[b]?).map (renBlk L L ids) := fun b hb => by
    rw [← hH', List.getElem?_append_left (by omega), List.getElem?_map, List.getElem?_take, if_pos hb]
  have hsplit : ∀ b, L ≤ b → ∃ k, b = L + k := fun b hb => ⟨b - L, by omega⟩
  have hlive : ∀ b lb, E' b = some lb → lb.live = true → ∃ b0 l0, E b0 = some l0 ∧ l0.live = true ∧ lb.B = l0.B ∧ lb.o = l0.o ∧ (b < L → b0 = b ∧ lb = l0) ∧ (L ≤ b → l[b - L]? = some b0 ∧ lb = zeroG l0) ∧
      (∀ size g es, H[b0]? = some (.cells size g es true) → ∃ g' es', H'[b]? = some (.cells size g' es' true) ∧ es'.length = es.length) := by
    intro b lb hb hl
    rcases Nat.lt_or_ge b L with g1 | g1
    · rw [hold b g1] at hb
      have hEb : E b = some lb := by
        cases hq : renBlk L L ids ((H[b]?).getD .dead) with
        | dead =>
          rw [hq] at hb
          simp only [outerOf, Option.map_eq_some_iff] at hb
          obtain ⟨l0, _, rfl⟩ := hb
          simp [kill] at hl
        | _ => rw [hq] at hb; exact hb
      refine ⟨b, lb, hEb, hl, rfl, rfl, fun _ => ⟨rfl, rfl⟩, fun hge => by omega, fun size g es hk => ?_⟩
      exact ⟨g, es.map (renL L L ids), by rw [hHo b g1, hk]; rfl, by simp⟩
    · obtain ⟨k, rfl⟩ := hsplit b g1
      rw [hnewE] at hb
      simp only [Option.bind_eq_some_iff] at hb
      obtain ⟨b0, h2, h3⟩ := hb
      obtain ⟨l0, h4, h5, rfl, _⟩ := placeOf_live h3 hl
      refine ⟨b0, l0, h4, h5, rfl, rfl, fun hlt => by omega, fun _ => ⟨by rw [Nat.add_sub_cancel_left]; exact h2, rfl⟩, fun size g es hk => ?_⟩
      exact ⟨0, es.map (renL L L ids), by rw [hHn, h2]; simp only [Option.map_some]; rw [← hnbe, hk]; rfl, by simp⟩
  have hren : RenOK E E' L L ids := by
    intro b g p hp lb hb hg
    unfold renB at hp
    split at hp
    · rename_i hlt
      cases hp
      simp only
      rw [hold b hlt, hb]
      cases hq : renBlk L L ids ((H[b]?).getD .dead) with
      | dead => exact ⟨kill lb, rfl, hg, fun hv => by simp [kill] at hv⟩
      | _ => exact ⟨lb, rfl, hg, fun hv e => ⟨hv, e, rfl, rfl, rfl, rfl⟩⟩
    · simp only [Option.map_eq_some_iff] at hp
      obtain ⟨k, hk, rfl⟩ := hp
      rw [← hids] at hk
      obtain ⟨hk1, hk2⟩ := findIdx_ids hk
      obtain ⟨kb, hkb⟩ := h.inDom hb
      have hpl : ∃ l', placeOf (nb b) (E b) = some l' := by
        rw [hb, ← hnbe, hkb]
        simp only [Option.getD_some]
        cases hq : setGen (renBlk L L ids kb) with
        | res =>
          have : kb = .res := by
            cases kb with
            | res => rfl
            | miter m a b c =>
              cases m with
              | none => simp [renBlk, setGen] at hq
              | some m => simp only [renBlk] at hq; split at hq <;> simp [setGen] at hq
            | _ => simp [renBlk, setGen] at hq
          subst this
          have := h.blk b _ hkb
          rw [hb] at this
          cases this
        | _ => exact ⟨_, rfl⟩
      obtain ⟨l', hl'⟩ := hpl
      refine ⟨l', by rw [hnewE, hk1]; exact hl', Nat.zero_le _, fun hv2 _ => ?_⟩
      obtain ⟨l0, h4, h5, h6, _⟩ := placeOf_live hl' hv2
      rw [hb] at h4
      cases h4
      subst h6
      exact ⟨h5, by rw [genOf_eq h hb h5, hk2], rfl, rfl, rfl, rfl⟩
  have hwr : ∀ B o, Wr E' H' B o → Wr E H B o := by
    rintro B o ⟨b, lb, hb, hl, hB, hz⟩
    obtain ⟨b0, l0, h2, h3, h4, h5, _, _, h6⟩ := hlive b lb hb hl
    refine ⟨b0, l0, h2, h3, h4 ▸ hB, fun size g es hk => ?_⟩
    obtain ⟨g', es', h7, h8⟩ := h6 size g es hk
    have := hz size g' es' h7
    rw [h8, h5] at this
    exact this
  have him : ∀ B o, Im X E H w B o → Im X E' H' w B o := fun B o ⟨g1, g2, g3⟩ => ⟨g1, g2, fun hw => g3 (hwr B o hw)⟩
  refine ⟨E', ⟨?_, ?_, ?_, ?_, h.xlt⟩, ⟨?_, hs.size, fun B o hb => ⟨him B o (hs.im B o hb).1, (hs.im B o hb).2⟩, hs.obj, ?_, ?_, ?_, hs.still⟩, ?_, by first | rfl | (simp only), by first | rfl | (simp only), fun hne => absurd hds hne⟩
  · intro b hb
    have hlen : L + l.length ≤ b := by
      rcases Nat.lt_or_ge b (L + l.length) with h2 | h2
      · rw [List.getElem?_eq_none_iff, ← hH'] at hb
        simp only [List.length_append, List.length_map, List.length_take] at hb
        omega
      · exact h2
    obtain ⟨k, rfl⟩ := hsplit b (by omega)
    rw [hnewE, List.getElem?_eq_none (by omega)]
    rfl
  · intro b k hk
    rcases Nat.lt_or_ge b L with h2 | h2
    · rw [hHo b h2] at hk
      simp only [Option.map_eq_some_iff] at hk
      obtain ⟨k0, hk0, rfl⟩ := hk
      rw [hold b h2, hk0]
      exact BRel_mono (fun B o hb => ⟨him B o hb, rfl⟩) (Le.refl _) (fun _ _ _ => rfl) (BRel_outer hren (h.blk b k0 hk0))
    · obtain ⟨j, rfl⟩ := hsplit b h2
      rw [hHn] at hk
      simp only [Option.map_eq_some_iff] at hk
      obtain ⟨b0, hb0, rfl⟩ := hk
      rw [hnewE, hb0]
      simp only [Option.bind_some]
      rw [← hnbe]
      cases hkb : H[b0]? with
      | none => simp [renBlk, setGen, placeOf, BRel, deadLB]
      | some kb =>
        simp only [Option.getD_some]
        exact BRel_mono (fun B o hb => ⟨him B o hb, rfl⟩) (Le.refl _) (fun _ _ _ => rfl) (BRel_ren hren (h.blk b0 kb hkb))
  · intro b1 b2 l1 l2 h2 h3 v1 v2 e
    obtain ⟨c0, m0, a1, a2, a3, _, a4, a5, _⟩ := hlive b1 l1 h2 v1
    obtain ⟨c1, m1, d1, d2, d3, _, d4, d5, _⟩ := hlive b2 l2 h3 v2
    have hc := h.sep c0 c1 m0 m1 a1 d1 a2 d2 (by rw [← a3, ← d3]; exact e)
    subst hc
    rcases Nat.lt_or_ge b1 L with g1 | g1 <;> rcases Nat.lt_or_ge b2 L with g2 | g2
    · rw [← (a4 g1).1, ← (d4 g2).1]
    · have := hge c0 (List.mem_of_getElem? (d5 g2).1)
      have := (a4 g1).1
      omega
    · have := hge c0 (List.mem_of_getElem? (a5 g1).1)
      have := (d4 g2).1
      omega
    · have hkl : b1 - L < l.length := by
        rcases Nat.lt_or_ge (b1 - L) l.length with h9 | h9
        · exact h9
        · have := (a5 g1).1
          rw [List.getElem?_eq_none h9] at this; cases this
      have := (List.getElem?_inj hkl hnd).1 ((a5 g1).1.trans (d5 g2).1.symm)
      omega
  · intro b lb hb hl off
    obtain ⟨b0, l0, h2, h3, h4, _⟩ := hlive b lb hb hl
    rw [h4]
    exact h.xs b0 l0 h2 h3 off
  · intro b lb hb
    obtain ⟨l', h2, h3, h4⟩ := hs.le b lb hb
    have hlt : b < L := Nat.lt_of_lt_of_le (h0 b lb hb) hL
    rw [hold b hlt, h2]
    cases hq : renBlk L L ids ((H[b]?).getD .dead) with
    | dead => exact ⟨kill l', rfl, h3, fun hv => by simp [kill] at hv⟩
    | _ => exact ⟨l', rfl, h3, h4⟩
  · intro b lb hb hl
    obtain ⟨b0, l0, h2, h3, h4, _⟩ := hlive b lb hb hl
    rw [h4]
    exact hs.new b0 l0 h2 h3
  · rw [← hH']
    simp only [List.length_append, List.length_map, List.length_take]
    omega
  · intro b h1 h2
    have hb0 : b < H0.length := by
      obtain ⟨s, g, es, fz, hk⟩ := h1
      rcases Nat.lt_or_ge b H0.length with h9 | h9
      · exact h9
      · rw [List.getElem?_eq_none h9] at hk; cases hk
    obtain ⟨⟨s, g, es, fz, hk⟩, h4⟩ := hs.nb b h1 h2
    have hlt : b < L := Nat.lt_of_lt_of_le hb0 hL
    refine ⟨⟨s, g, _, fz, by rw [hHo b hlt, hk]; rfl⟩, ?_⟩
    rw [hold b hlt, h4, hk]
    rfl
  · exact (TRel_ren hren ht).mono (fun B o hb => ⟨him B o hb, rfl⟩) (Le.refl _)

end
end Go.Ai
