/-
  NEW MEMORY: variables, slices that are made, what an append makes.
-/
import Derived.Test.YtndloeajkfajnaaAiMem
set_option linter.unusedVariables false
namespace Go.Ai
section
variable {P : Program} {X : Nat → Nat → Prop} {E : Env} {H : List Blk} {w : World}

/-- What an operation leaves: a value, the heap and the world behind it. -/
def Good (X : Nat → Nat → Prop) (E : Env) (H : List Blk) (w : World) (v : AV) (H' : List Blk) (x : Value) (w' : World) : Prop :=
  ∃ E', HRel X E' H' w' ∧ Step X E H w E' H' w' ∧ V (Im X E' H' w') w' v E' x

theorem Good.here {v : AV} {x : Value} (h : HRel X E H w) (hv : V (Im X E H w) w v E x) : Good X E H w v H x w := ⟨E, h, Step.refl, hv⟩

theorem none_of_new {b : Nat} (h : HRel X E H w) (hb : H[b]? = none ∨ H[b]? = some .res) : E b = none := by
  rcases hb with hb | hb
  · exact h.dom b hb
  · exact h.blk b _ hb

theorem HRel.lay (h : HRel X E H w) {at_ : Option Nat} {k : Blk} {b : Nat} {H' : List Blk} (hn : newAt H at_ k = some (b, H')) {o : Obj} {w' : World}
    (hw : w'.heap = w.heap.push o) {l : LB} (hl : l.live = true) (hB : l.B = w.heap.size)
    (hk : ∀ im', (∀ B o, Im X E H w B o → im' B o ∧ w'.cell? ⟨B, o, none⟩ = w.cell? ⟨B, o, none⟩) → Le E (upd E b l) → w'.heap[l.B]? = some o → BRel im' w' (upd E b l) k (some l))
    (hos : w'.os = w.os ∧ w'.tape = w.tape := by exact ⟨rfl, rfl⟩) (hout : w'.output = w.output := by rfl) (hfr : frzO (some o) = (0, 0) := by rfl) :
    HRel X (upd E b l) H' w' ∧ Step X E H w (upd E b l) H' w' := by
  obtain ⟨hp, hb⟩ := newAt_put hn
  have he := none_of_new h hb
  have hT : Turn X E H w b k l w' :=
    { live := hl, still := Still.push hos hout hw hfr, size := by rw [hw]; simp, place := .inl (by omega),
      other := fun B hB' _ => by rw [hw, Array.getElem?_push, if_neg (Nat.ne_of_lt hB')],
      ed := fun l0 h0 => (by rw [he] at h0; cases h0),
      zone := fun l0 h0 => (by rw [he] at h0; cases h0),
      cell := fun l0 h0 => (by rw [he] at h0; cases h0) }
  have him := hT.im h hp
  refine h.turn hp hT (fun off hx => by have := h.xlt _ _ hx; omega) (hk _ him hT.le (by rw [hw, hB]; simp)) ?_
  rintro ⟨s, g, es, fz, hc⟩
  rcases hb with hb | hb <;> rw [hb] at hc <;> cases hc

/-- Rows of values. -/
theorem rows_list {im : Nat → Nat → Prop} {B size : Nat} : ∀ {ys : List (List AV)} {o : Nat}, (∀ i row, ys[i]? = some row → row.length = size ∧ At im w E B (o + i * size) row) →
    ∃ news : List Value, news.length = ys.length * size ∧ RowsIn im w E news.toArray 0 size ys ∧ ∀ (j : Nat) (u : Value), news[j]? = some u → w.cell? ⟨B, o + j, none⟩ = some u ∧ u.oneCell' = true
  | [], o, _ => ⟨[], by simp, fun i row h => by simp at h, by simp⟩
  | y :: ys, o, h => by
    obtain ⟨h1, h2⟩ := h 0 y (by simp)
    simp only [Nat.zero_mul, Nat.add_zero] at h2
    obtain ⟨xs, hx, hc⟩ := h2.list
    have hxl : xs.length = size := by rw [VL_length hx, h1]
    obtain ⟨news, hl, hr, hcell⟩ := rows_list (ys := ys) (o := o + size) (fun i row hi => by
      have := h (i + 1) row (by simpa using hi)
      rw [show o + size + i * size = o + (i + 1) * size from by rw [Nat.add_mul]; omega]
      exact this)
    refine ⟨xs ++ news, by simp [hl, hxl, Nat.add_mul]; omega, ?_, ?_⟩
    · intro i row hi
      cases i with
      | zero =>
        simp only [List.getElem?_cons_zero, Option.some.injEq] at hi
        subst hi
        refine ⟨h1, fun j c hj => ?_⟩
        obtain ⟨x, hx', hv⟩ := VL_get hx hj
        refine ⟨x, ?_, (hc j x hx').2, hv⟩
        have hlt : j < xs.length := by
          rcases Nat.lt_or_ge j xs.length with h3 | h3
          · exact h3
          · rw [List.getElem?_eq_none h3] at hx'; cases hx'
        simp only [Nat.zero_mul, Nat.zero_add, List.getElem?_toArray]
        rw [List.getElem?_append_left hlt]
        exact hx'
      | succ i =>
        have h3 := hr i row (by simpa using hi)
        refine ⟨h3.1, fun j c hj => ?_⟩
        obtain ⟨x, hx', hx1, hv⟩ := h3.2 j c hj
        refine ⟨x, ?_, hx1, hv⟩
        simp only [Nat.zero_add, List.getElem?_toArray] at hx' ⊢
        rw [List.getElem?_append_right (by rw [hxl, Nat.add_mul]; omega), hxl, show (i + 1) * size + j - size = i * size + j from by rw [Nat.add_mul]; omega]
        exact hx'
    · intro j u hu
      by_cases hj : j < size
      · rw [List.getElem?_append_left (by omega)] at hu
        exact hc j u hu
      · rw [List.getElem?_append_right (by omega), hxl] at hu
        have := hcell (j - size) u hu
        rw [show o + size + (j - size) = o + j from by omega] at this
        exact this

theorem allocA_sound (h : HRel X E H w) {at_ : Option Nat} {t : Nat} {v : AV} {H' : List Blk} (hv : allocA P H at_ t = some (v, H')) (u : Value) :
    ∃ x w', (Instr.alloc t true u).run P w = .ok x w' ∧ Good X E H w v H' x w' := by
  unfold allocA at hv
  split at hv
  · rename_i cs n hz hn
    split at hv
    · rename_i hlen
      simp only [Option.map_eq_some_iff] at hv
      obtain ⟨⟨b, H1⟩, hnew, he⟩ := hv
      cases he
      simp only [Option.bind_eq_some_iff] at hz
      obtain ⟨z, hz, hcs⟩ := hz
      obtain ⟨hvl, hsg⟩ := V_cells (im := Im X E H w) (w := w) (E := E) hcs (V_absV E z)
      refine ⟨.pointer (some ⟨w.heap.size, 0, none⟩), w.alloc (.cells z.cells t), by simp [Instr.alloc, run_zeroValue hz, newVar, newRow], ?_⟩
      obtain ⟨h1, h2⟩ := h.lay hnew (o := .cells z.cells t) (w' := w.alloc (.cells z.cells t)) rfl
        (l := { live := true, g := 0, B := w.heap.size, o := 0, K := 1, size := n }) rfl rfl (fun im' him hle ho => Or.inr <|
          ⟨_, z.cells, t, rfl, rfl, rfl, rfl, by simp, ho, by
            have := VL_length hvl
            simp at this
            show 0 + 1 * n ≤ z.cells.size
            omega, fun i row hi => by
            cases i with
            | zero =>
              simp only [List.getElem?_cons_zero, Option.some.injEq] at hi
              subst hi
              refine ⟨hlen, fun j c hj => ?_⟩
              obtain ⟨y, hy, hyv⟩ := VL_get hvl hj
              exact ⟨y, by simpa using hy, oneCell_of_single (hsg c (List.mem_of_getElem? hj)) hyv, V_mono him c hle hyv⟩
            | succ i => simp at hi⟩)
      refine ⟨_, h1, h2, ?_⟩
      simp only [V]
      exact ⟨_, _, upd_same _ _ _, Nat.le_refl _, rfl, fun _ _ => by simp⟩
    · cases hv
  · cases hv

theorem boxA_sound (h : HRel X E H w) {at_ : Option Nat} {t : Nat} {v c : AV} {x : Value} {H' : List Blk} (hc : V (Im X E H w) w c E x) (hv : boxA H at_ c = some (v, H')) :
    ∃ y w', (Instr.box t x).run P w = .ok y w' ∧ Good X E H w v H' y w' := by
  unfold boxA at hv
  split at hv
  · rename_i cs hcs
    simp only [Option.map_eq_some_iff] at hv
    obtain ⟨⟨b, H1⟩, hnew, he⟩ := hv
    cases he
    obtain ⟨hvl, hsg⟩ := V_cells hcs hc
    refine ⟨.pointer (some ⟨w.heap.size, 0, none⟩), w.alloc (.cells x.cells t), by simp [Instr.box, newVar, newRow], ?_⟩
    obtain ⟨h1, h2⟩ := h.lay hnew (o := .cells x.cells t) (w' := w.alloc (.cells x.cells t)) rfl
      (l := { live := true, g := 0, B := w.heap.size, o := 0, K := 1, size := cs.length }) rfl rfl (fun im' him hle ho => Or.inr <|
        ⟨_, x.cells, t, rfl, rfl, rfl, rfl, by simp, ho, by
          have := VL_length hvl
          simp at this
          show 0 + 1 * cs.length ≤ x.cells.size
          omega, fun i row hi => by
          cases i with
          | zero =>
            simp only [List.getElem?_cons_zero, Option.some.injEq] at hi
            subst hi
            refine ⟨rfl, fun j c hj => ?_⟩
            obtain ⟨y, hy, hyv⟩ := VL_get hvl hj
            exact ⟨y, by simpa using hy, oneCell_of_single (hsg c (List.mem_of_getElem? hj)) hyv, V_mono him c hle hyv⟩
          | succ i => simp at hi⟩)
    refine ⟨_, h1, h2, ?_⟩
    simp only [V]
    exact ⟨_, _, upd_same _ _ _, Nat.le_refl _, rfl, fun _ _ => by simp⟩
  · cases hv

/-- What a slice, or a text, hands to an append. -/
theorem elemsA_sound (h : HRel X E H w) {size : Nat} {c : AV} {x : Value} {ys : List (List AV)} (hc : V (Im X E H w) w c E x) (hy : elemsA H size c = some ys) :
    (∀ w' : World, (Builtin.lenOf x).run P w' = .ok ys.length w') ∧
    ∃ news : List Value, news.length = ys.length * size ∧ RowsIn (Im X E H w) w E news.toArray 0 size ys ∧
      (∀ w' : World, w'.heap = w.heap → (Builtin.firstCells size ys.length x).run P w' = .ok news.toArray w') ∧ ∀ u ∈ news, u.oneCell' = true := by
  have mem : ∀ (B o : Nat) (a : Addr) (n c0 : Nat) (ys : List (List AV)), n = ys.length → (ys ≠ [] → a = ⟨B, o, none⟩) →
      (∀ i row, ys[i]? = some row → row.length = size ∧ At (Im X E H w) w E B (o + i * size) row) →
      (∀ w' : World, (Builtin.lenOf (.slice (some a) n c0)).run P w' = .ok ys.length w') ∧
      ∃ news : List Value, news.length = ys.length * size ∧ RowsIn (Im X E H w) w E news.toArray 0 size ys ∧
        (∀ w' : World, w'.heap = w.heap → (Builtin.firstCells size ys.length (.slice (some a) n c0)).run P w' = .ok news.toArray w') ∧ ∀ u ∈ news, u.oneCell' = true := by
    intro B o a n c0 ys hn ha hr
    obtain ⟨news, h1, h2, h3⟩ := rows_list hr
    refine ⟨fun w' => by simp [Builtin.lenOf, hn], news, h1, h2, fun w' hw' => ?_, fun u hu => by
      obtain ⟨j, hj, rfl⟩ := List.getElem_of_mem hu
      exact (h3 j _ (List.getElem?_eq_getElem hj)).2⟩
    refine run_firstCells_some (P := P) w' size ys.length a n c0 news h1 fun j v hv => ?_
    have hne : ys ≠ [] := by
      rintro rfl
      simp at h1
      subst h1
      simp at hv
    rw [ha hne, addr_add]
    have := (h3 j v hv).1
    simpa [World.cell?, hw'] using this
  unfold elemsA at hy
  split at hy
  · cases hy
    simp only [V] at hc
    subst hc
    exact ⟨fun w' => by simp [Builtin.lenOf], [], by simp, fun i row hi => by simp at hi, fun w' _ => by simp [Builtin.firstCells], by simp⟩
  · rename_i s
    split at hy
    · rename_i hs
      cases hy
      simp only [V] at hc
      subst hc
      refine ⟨fun w' => by simp [Builtin.lenOf], s.data.toList.map fun b => .int .u8 b.toNat, by simp [hs], ?_, fun w' _ => ?_, by simp [Value.oneCell']⟩
      · intro i row hi
        subst hs
        rw [List.getElem?_map] at hi
        simp only [Option.map_eq_some_iff] at hi
        obtain ⟨b, hb, rfl⟩ := hi
        refine ⟨rfl, fun j c hj => ?_⟩
        cases j with
        | zero =>
          simp only [List.getElem?_cons_zero, Option.some.injEq] at hj
          subst hj
          exact ⟨.int .u8 b.toNat, by simp at hb ⊢; exact ⟨b, hb, rfl⟩, rfl, by simp [V]⟩
        | succ j => simp at hj
      · have hx : (s.extract 0 (List.map (fun b : UInt8 => [AV.sc (.int .u8 b.toNat)]) s.data.toList).length).data = s.data := by
          simp
        simp only [Builtin.firstCells, hx, Sem.run_pure]
        congr 1
        apply Array.ext'
        simp
    · cases hy
  · rename_i sz es cap
    split at hy
    · rename_i hs
      cases hy
      subst hs
      simp only [V] at hc
      obtain ⟨a, c0, rfl, h1, h2, h3, hR⟩ := hc
      refine mem a.block a.off a _ c0 _ rfl (fun hne => by cases a; simp at h3; simp [h3 hne]) fun i row hi => ?_
      obtain ⟨h4, h5⟩ := VRR_get hR hi
      refine ⟨h4, fun j c hj => ?_⟩
      obtain ⟨_, y, h6, h61, h7⟩ := VR_get h5 hj
      exact ⟨y, h6, h61, V_mono (fun _ _ h => ⟨h, rfl⟩) c (Le.none E) h7⟩
    · cases hy
  · rename_i b g start len cap
    split at hy
    · rename_i sz g' es fz hk
      split at hy
      · rename_i hq
        obtain ⟨hs, hg, hle⟩ := hq
        cases hy
        subst hs; subst hg
        obtain ⟨l, C, t0, hE, hl, hg, hs, hK, hh, hC, hR⟩ := h.own hk (V_sl_has hc)
        simp only [V] at hc
        obtain ⟨l', a, c0, hE', _, rfl, hpl⟩ := hc
        rw [hE] at hE'
        cases hE'
        obtain ⟨hlc, ha, _⟩ := hpl hl hg
        refine mem l.B (l.o + start * l.size) a len c0 _ (by simp; omega) (fun hne => ?_) fun i row hi => ?_
        · rcases ha with h0 | ha
          · have : len = 0 := by omega
            subst this
            simp at hne
          · exact ha
        · rw [List.getElem?_take] at hi
          split at hi
          · rw [List.getElem?_drop] at hi
            have := hR.at hh hi
            rw [hs]
            refine ⟨(hR _ _ hi).1, ?_⟩
            rw [show l.o + start * sz + i * sz = l.o + (start + i) * sz from by rw [Nat.add_mul]; omega]
            exact this
          · cases hi
      · cases hy
    · cases hy
  · cases hy

end
end Go.Ai
