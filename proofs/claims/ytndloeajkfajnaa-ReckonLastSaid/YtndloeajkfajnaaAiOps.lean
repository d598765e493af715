/-
  OPERATIONS THAT BUILD: structs, literals of slices, slices that are made.
-/
import Derived.Test.YtndloeajkfajnaaAiMark
set_option linter.unusedVariables false
set_option linter.unusedSimpArgs false
namespace Go.Ai
section
variable {P : Program} {X : Nat → Nat → Prop} {E : Env} {H : List Blk} {w : World}

theorem madeCells_get (z : Array Value) (n q : Nat) (hq : q < n) (hz : 0 < z.size) : (madeCells z n)[q]? = z[q % z.size]? := by
  have hlt : q % z.size < z.size := Nat.mod_lt _ hz
  simp [madeCells, hq, hlt]

theorem makeSliceA_sound (h : HRel X E H w) {at_ : Option Nat} {t : Nat} {l c v : AV} {lv cv : Value} {H' : List Blk} (hl : V (Im X E H w) w l E lv) (hc : V (Im X E H w) w c E cv)
    (hv : makeSliceA P H at_ t l c = some (v, H')) : ∃ r w', (Instr.makeSlice t lv cv).run P w = .ok r w' ∧ Good X E H w v H' r w' := by
  unfold makeSliceA at hv
  split at hv
  case h_2 => cases hv
  rename_i elem l c ht
  split at hv
  case h_2 => cases hv
  rename_i size bytes zs hsz hby hzs
  split at hv
  case isFalse => cases hv
  rename_i hq
  obtain ⟨h1, h2, h3, h4, h5, h6⟩ := hq
  simp only [Option.map_eq_some_iff] at hv
  obtain ⟨⟨b, H1⟩, hnew, he⟩ := hv
  cases he
  simp only [V] at hl hc
  subst hl; subst hc
  obtain ⟨i, hi, hisz, hibytes⟩ : ∃ i, P.info? elem = some i ∧ i.size = size ∧ i.bytes = bytes := by
    simp only [szT, Option.map_eq_some_iff] at hsz hby
    obtain ⟨i, h2, h3⟩ := hsz
    obtain ⟨i', h4, h5⟩ := hby
    rw [h2] at h4
    cases h4
    exact ⟨i, h2, h3, h5⟩
  simp only [Option.bind_eq_some_iff] at hzs
  obtain ⟨z, hz, hcs⟩ := hzs
  have hz' : i.zero = some z := by simpa [zeroT, hi] using hz
  obtain ⟨hvl, hsg⟩ := V_cells (im := Im X E H w) (w := w) (E := E) hcs (V_absV E z)
  have hzl : z.cells.size = size := by have := VL_length hvl; simp at this; omega
  have hroom : (bytes : Int) * c ≤ 140737488355328 := h6
  have hc2 : c ≤ 140737488355328 := by
    have h7 : (1 : Int) * c ≤ (bytes : Int) * c := Int.mul_le_mul_of_nonneg_right (by omega) (by omega)
    omega
  subst hisz
  refine ⟨_, _, run_make w t elem i z ht hi hz' .i64 .i64 l c h4 h5 (by rw [hibytes]; omega) (by omega), ?_⟩
  obtain ⟨h7, h8⟩ := h.lay hnew (o := .cells (madeCells z.cells (c.toNat * i.size)) elem) (w' := w.alloc (.cells (madeCells z.cells (c.toNat * i.size)) elem)) rfl
    (l := { live := true, g := 0, B := w.heap.size, o := 0, K := c.toNat, size := i.size }) rfl rfl (fun im' him hle ho => Or.inr <|
      ⟨_, _, elem, rfl, rfl, rfl, rfl, by simp, ho, by rw [size_madeCells]; show 0 + c.toNat * i.size ≤ _; omega, fun k row hk => by
        rw [List.getElem?_replicate] at hk
        split at hk
        · rename_i hlt
          cases hk
          refine ⟨h1, fun j d hj => ?_⟩
          obtain ⟨y, hy, hyv⟩ := VL_get hvl hj
          have hjl : j < i.size := by
            rcases Nat.lt_or_ge j zs.length with h9 | h9
            · omega
            · rw [List.getElem?_eq_none h9] at hj; cases hj
          refine ⟨y, ?_, oneCell_of_single (hsg d (List.mem_of_getElem? hj)) hyv, V_mono him d hle hyv⟩
          have hq : k * i.size + j < c.toNat * i.size := by
            have : (k + 1) * i.size ≤ c.toNat * i.size := Nat.mul_le_mul_right _ hlt
            rw [Nat.add_mul] at this
            omega
          show (madeCells z.cells (c.toNat * i.size))[0 + k * i.size + j]? = some y
          rw [Nat.zero_add, madeCells_get _ _ _ hq (by omega), hzl, Nat.mul_comm k, Nat.mul_add_mod, Nat.mod_eq_of_lt hjl]
          simpa using hy
        · cases hk⟩)
  refine ⟨_, h7, h8, ?_⟩
  simp only [V]
  exact ⟨_, _, _, upd_same _ _ _, Nat.le_refl _, rfl, fun _ _ => ⟨by omega, .inr (by simp), rfl⟩⟩

theorem foldl_set_get (off : Nat) : ∀ (l : List Value) (k : Nat) (cells : Array Value) (q : Nat), off + k + l.length ≤ cells.size →
    ((l.zipIdx k).foldl (fun cs (p : Value × Nat) => cs.setIfInBounds (off + p.2) p.1) cells)[q]? = if off + k ≤ q ∧ q < off + k + l.length then l[q - (off + k)]? else cells[q]?
  | [], k, cells, q, _ => by simp; intro h1 h2; omega
  | v :: l, k, cells, q, h => by
    simp only [List.zipIdx_cons, List.foldl_cons]
    rw [foldl_set_get off l (k + 1) _ q (by simp at h ⊢; omega)]
    simp only [List.length_cons] at h ⊢
    by_cases h1 : q = off + k
    · subst h1
      rw [if_neg (by omega), if_pos (by omega), Nat.sub_self, Array.getElem?_setIfInBounds, if_pos rfl, if_pos (by omega)]
      rfl
    · by_cases h2 : off + (k + 1) ≤ q ∧ q < off + (k + 1) + l.length
      · rw [if_pos h2, if_pos (by omega), show q - (off + k) = (q - (off + (k + 1))) + 1 from by omega]
        simp
      · rw [if_neg h2, if_neg (by omega), Array.getElem?_setIfInBounds_ne (by omega)]

theorem foldl_set_size (off : Nat) : ∀ (l : List Value) (k : Nat) (cells : Array Value), ((l.zipIdx k).foldl (fun cs (p : Value × Nat) => cs.setIfInBounds (off + p.2) p.1) cells).size = cells.size
  | [], _, _ => rfl
  | v :: l, k, cells => by
    simp only [List.zipIdx_cons, List.foldl_cons]
    rw [foldl_set_size off l (k + 1)]
    simp

/-- Parts laid into a row. -/
theorem fill_put {off : Nat} {v : Value} {cells : Array Value} (h : off + v.cells.size ≤ cells.size) :
    (v.cells.zipIdx.foldl (fun cs (p : Value × Nat) => cs.setIfInBounds (off + p.2) p.1) cells) = (cells.toList.take off ++ v.cells.toList ++ cells.toList.drop (off + v.cells.toList.length)).toArray := by
  apply Array.ext'
  apply List.ext_getElem?
  intro q
  have h1 : v.cells.zipIdx.foldl (fun cs (p : Value × Nat) => cs.setIfInBounds (off + p.2) p.1) cells = (v.cells.toList.zipIdx 0).foldl (fun cs (p : Value × Nat) => cs.setIfInBounds (off + p.2) p.1) cells := by
    rw [← Array.foldl_toList]
    simp
  rw [h1, Array.getElem?_toList, foldl_set_get off v.cells.toList 0 cells q (by simpa using h)]
  simp only [Nat.add_zero]
  rw [splice_get _ _ _ (by simpa using h), Array.getElem?_toList (xs := cells)]

theorem fillA_sound {im : Nat → Nat → Prop} {place : Nat → Option (Nat × Nat)} : ∀ {ps : List (Nat × AV)} {cells row : List AV} {xs : Array Value} {vs : List (Nat × Value)},
    fillA place cells ps = some row → VL im w cells E xs.toList → (∀ c ∈ cells, single c = true) → vs.map (·.1) = ps.map (·.1) → VL im w (ps.map (·.2)) E (vs.map (·.2)) →
    ∃ ys, Instr.fill place xs vs = some ys ∧ VL im w row E ys.toList ∧ ∀ c ∈ row, single c = true
  | [], cells, row, xs, vs, hf, hx, hs, hi, hv => by
    simp only [fillA, Option.some.injEq] at hf
    subst hf
    have : vs = [] := by simpa using hi
    subst this
    exact ⟨xs, rfl, hx, hs⟩
  | (i, c) :: ps, cells, row, xs, vs, hf, hx, hs, hi, hv => by
    cases vs with
    | nil => simp at hi
    | cons p vs =>
      obtain ⟨i', y⟩ := p
      simp only [List.map_cons, List.cons.injEq] at hi
      obtain ⟨rfl, hi⟩ := hi
      simp only [List.map_cons, VL] at hv
      obtain ⟨y0, r, he, hy, hv⟩ := hv
      cases he
      simp only [fillA] at hf
      split at hf
      · rename_i off size cs hp hcs
        split at hf
        · rename_i hq
          obtain ⟨hq1, hq2⟩ := hq
          obtain ⟨hvl, hsg⟩ := V_cells hcs hy
          have hyl : y.cells.size = size := by have := VL_length hvl; simp at this; omega
          have hxl : xs.size = cells.length := by have := VL_length hx; simpa using this
          have hput := fill_put (off := off) (v := y) (cells := xs) (by omega)
          have hnew : VL im w (putRow cells off cs) E (xs.toList.take off ++ y.cells.toList ++ xs.toList.drop (off + y.cells.toList.length)) := by
            unfold putRow
            refine VL_append (VL_append (VL_take hx off) hvl) ?_
            have : y.cells.toList.length = cs.length := VL_length hvl
            rw [this]
            exact VL_drop hx _
          obtain ⟨ys, h1, h2, h3⟩ := fillA_sound (place := place) (xs := (xs.toList.take off ++ y.cells.toList ++ xs.toList.drop (off + y.cells.toList.length)).toArray) hf hnew (by
            intro d hd
            simp only [putRow, List.mem_append] at hd
            rcases hd with (hd | hd) | hd
            · exact hs d (List.mem_of_mem_take hd)
            · exact hsg d hd
            · exact hs d (List.mem_of_mem_drop hd)) hi hv
          refine ⟨ys, ?_, h2, h3⟩
          simp only [Instr.fill, hp]
          have hcond : ¬ ((decide (y.cells.size ≠ size) || decide (off + y.cells.size > xs.size)) = true) := by simp; omega
          rw [if_neg hcond, hput]
          exact h1
        · cases hf
      · cases hf

theorem placesA_sound : ∀ {fs : List Field} {ps : List (Nat × Nat)}, placesA P fs = some ps → ∀ w : World, (fs.mapM (m := Sem) fun f => do pure (f.offset, ← sizeOf f.type)).run P w = .ok ps w
  | [], ps, h, w => by simp only [placesA, Option.some.injEq] at h; subst h; simp
  | f :: fs, ps, h, w => by
    simp only [placesA] at h
    split at h
    · rename_i n qs h1 h2
      cases h
      have ih := placesA_sound h2 w
      simp only [List.mapM_cons, Sem.run_bind, run_sizeOf h1, Result.andThen_ok, Sem.run_pure, ih]
    · cases h

theorem buildA_sound (h : HRel X E H w) {t : Nat} {ps : List (Nat × AV)} {vs : Array (Nat × Value)} {v : AV} (hv : buildA P t ps = some v) (hi : vs.toList.map (·.1) = ps.map (·.1))
    (hp : VL (Im X E H w) w (ps.map (·.2)) E (vs.toList.map (·.2))) : ∃ x, (Instr.build t vs).run P w = .ok x w ∧ V (Im X E H w) w v E x := by
  unfold buildA at hv
  split at hv
  · rename_i zero fields hz ht
    simp only [Option.bind_eq_some_iff] at hz hv
    obtain ⟨z, hz, hcs⟩ := hz
    obtain ⟨qs, hqs, hv⟩ := hv
    simp only [Option.map_eq_some_iff] at hv
    obtain ⟨row, hrow, rfl⟩ := hv
    obtain ⟨hvl, hsg⟩ := V_cells (im := Im X E H w) (w := w) (E := E) hcs (V_absV E z)
    obtain ⟨ys, h1, h2, _⟩ := fillA_sound hrow hvl hsg hi hp
    refine ⟨.agg ys, ?_, by simp only [V]; exact ⟨ys, rfl, h2⟩⟩
    have hm : (fields.mapM (m := Sem) fun f => do pure (f.offset, ← sizeOf f.type)).run P w = .ok qs.toArray w := by
      have := placesA_sound hqs w
      rw [Array.mapM_eq_mapM_toList, Sem.run_map, this]
      rfl
    have hg : (fun (i : Nat) => qs.toArray[i]?) = fun (i : Nat) => qs[i]? := by funext i; simp
    simp only [Instr.build, Sem.run_bind, run_zeroValue hz, Result.andThen_ok, run_underlying ht, hm, hg, h1, Sem.run_pure]
  · rename_i zero n elem hz ht
    simp only [Option.bind_eq_some_iff] at hz hv
    obtain ⟨z, hz, hcs⟩ := hz
    obtain ⟨size, hsz, hv⟩ := hv
    simp only [Option.map_eq_some_iff] at hv
    obtain ⟨row, hrow, rfl⟩ := hv
    obtain ⟨hvl, hsg⟩ := V_cells (im := Im X E H w) (w := w) (E := E) hcs (V_absV E z)
    obtain ⟨ys, h1, h2, _⟩ := fillA_sound hrow hvl hsg hi hp
    refine ⟨.agg ys, ?_, by simp only [V]; exact ⟨ys, rfl, h2⟩⟩
    simp only [Instr.build, Sem.run_bind, run_zeroValue hz, Result.andThen_ok, run_underlying ht, run_sizeOf hsz, h1, Sem.run_pure]
  · cases hv

end
end Go.Ai
