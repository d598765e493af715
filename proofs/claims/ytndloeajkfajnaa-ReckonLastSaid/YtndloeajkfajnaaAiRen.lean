/-
  BLOCKS UNDER OTHER NUMBERS.
-/
import Derived.Test.YtndloeajkfajnaaAiMaps
set_option linter.unusedVariables false
set_option linter.unusedSimpArgs false
namespace Go.Ai
section
variable {P : Program} {X : Nat → Nat → Prop} {E E' : Env} {H : List Blk} {w : World} {im : Nat → Nat → Prop}

/-- A numbering that tells the same places. -/
def RenOK (E E' : Env) (base tgt : Nat) (ids : List (Nat × Nat)) : Prop :=
  ∀ b g p, renB base tgt ids b g = some p → ∀ l, E b = some l → g ≤ l.g → ∃ l', E' p.1 = some l' ∧ p.2 ≤ l'.g ∧
    (l'.live = true → l'.g = p.2 → l.live = true ∧ l.g = g ∧ l'.B = l.B ∧ l'.o = l.o ∧ l'.K = l.K ∧ l'.size = l.size)

theorem renB_zero {base tgt : Nat} {ids : List (Nat × Nat)} {b : Nat} {p : Nat × Nat} (h : renB base tgt ids b 0 = some p) : p.2 = 0 := by
  unfold renB at h
  split at h
  · cases h; rfl
  · simp only [Option.map_eq_some_iff] at h
    obtain ⟨k, _, rfl⟩ := h
    rfl

mutual
theorem V_ren {base tgt : Nat} {ids : List (Nat × Nat)} (hr : RenOK E E' base tgt ids) : ∀ {c : AV} {x : Value}, V im w c E x → V im w (ren base tgt ids c) E' x
  | .undef, x, h => by simp [ren, V]
  | .sc v, x, h => by simpa [ren, V] using h
  | .rp cs o, x, h => by simpa [ren, V] using h
  | .ro s es c, x, h => by simpa [ren, V] using h
  | .agg cs, x, h => by
    simp only [ren, V] at h ⊢
    obtain ⟨vs, hx, hv⟩ := h
    exact ⟨vs, hx, VL_ren hr hv⟩
  | .tup cs, x, h => by
    simp only [ren, V] at h ⊢
    obtain ⟨vs, hx, hv⟩ := h
    exact ⟨vs, hx, VL_ren hr hv⟩
  | .fn f cs, x, h => by
    simp only [ren, V] at h ⊢
    obtain ⟨vs, hx, hv⟩ := h
    exact ⟨vs, hx, VL_ren hr hv⟩
  | .ifc t v, x, h => by
    simp only [ren, V] at h ⊢
    obtain ⟨y, hx, hv⟩ := h
    exact ⟨y, hx, V_ren hr hv⟩
  | .ptr b g i off, x, h => by
    simp only [ren]
    split
    · rename_i p hp
      simp only [V] at h ⊢
      obtain ⟨l, a, hE, hg, rfl, ha⟩ := h
      obtain ⟨l', h1, h2, h3⟩ := hr b g p hp l hE hg
      refine ⟨l', a, h1, h2, rfl, fun hl e => ?_⟩
      obtain ⟨v1, v2, v3, v4, v5, v6⟩ := h3 hl e
      rw [v3, v4, v6]
      exact ha v1 v2
    · simp [V]
  | .sl b g start len cap, x, h => by
    simp only [ren]
    split
    · rename_i p hp
      simp only [V] at h ⊢
      obtain ⟨l, a, c, hE, hg, rfl, ha⟩ := h
      obtain ⟨l', h1, h2, h3⟩ := hr b g p hp l hE hg
      refine ⟨l', a, c, h1, h2, rfl, fun hl e => ?_⟩
      obtain ⟨v1, v2, v3, v4, v5, v6⟩ := h3 hl e
      rw [v3, v4, v5, v6]
      exact ha v1 v2
    · simp [V]
  | .mp b, x, h => by
    simp only [ren]
    split
    · rename_i p hp
      simp only [V] at h ⊢
      obtain ⟨l, r, hE, rfl, ha⟩ := h
      obtain ⟨l', h1, h2, h3⟩ := hr b 0 p hp l hE (Nat.zero_le _)
      refine ⟨l', r, h1, rfl, fun hl e => ?_⟩
      obtain ⟨v1, v2, v3, _⟩ := h3 hl (by rw [e, renB_zero hp])
      rw [v3]
      exact ha v1 v2
    · simp [V]
theorem VL_ren {base tgt : Nat} {ids : List (Nat × Nat)} (hr : RenOK E E' base tgt ids) : ∀ {cs : List AV} {xs : List Value}, VL im w cs E xs → VL im w (renL base tgt ids cs) E' xs
  | [], xs, h => by simpa [renL, VL] using h
  | c :: cs, xs, h => by
    simp only [renL, VL] at h ⊢
    obtain ⟨v, r, hx, h1, h2⟩ := h
    exact ⟨v, r, hx, V_ren hr h1, VL_ren hr h2⟩
end

theorem renL_get {base tgt : Nat} {ids : List (Nat × Nat)} : ∀ {cs : List AV} {j : Nat} {c : AV}, (renL base tgt ids cs)[j]? = some c → ∃ d, cs[j]? = some d ∧ c = ren base tgt ids d
  | [], j, c, h => by simp [renL] at h
  | d :: cs, 0, c, h => by
    simp only [renL, List.getElem?_cons_zero, Option.some.injEq] at h
    exact ⟨d, by simp, h.symm⟩
  | d :: cs, j + 1, c, h => by
    simp only [renL, List.getElem?_cons_succ] at h
    obtain ⟨e, h1, h2⟩ := renL_get h
    exact ⟨e, by simpa using h1, h2⟩

theorem renL_length {base tgt : Nat} {ids : List (Nat × Nat)} : ∀ (cs : List AV), (renL base tgt ids cs).length = cs.length
  | [] => rfl
  | d :: cs => by simp [renL, renL_length cs]

theorem RowsIn_ren {base tgt : Nat} {ids : List (Nat × Nat)} (hr : RenOK E E' base tgt ids) {C : Array Value} {o size : Nat} {es : List (List AV)} (h : RowsIn im w E C o size es) :
    RowsIn im w E' C o size (es.map (renL base tgt ids)) := by
  intro i row hi
  rw [List.getElem?_map] at hi
  simp only [Option.map_eq_some_iff] at hi
  obtain ⟨r, h1, rfl⟩ := hi
  obtain ⟨h2, h3⟩ := h i r h1
  refine ⟨by rw [renL_length]; exact h2, fun j c hj => ?_⟩
  obtain ⟨d, h4, rfl⟩ := renL_get hj
  obtain ⟨x, h5, h6, h7⟩ := h3 j d h4
  exact ⟨x, h5, h6, V_ren hr h7⟩

theorem EntsIn_ren {base tgt : Nat} {ids : List (Nat × Nat)} (hr : RenOK E E' base tgt ids) : ∀ {es : List (Value × AV × Nat)} {ms : List MapEntry}, EntsIn im w E es ms →
    EntsIn im w E' (es.map fun e => (e.1, ren base tgt ids e.2.1, e.2.2)) ms
  | [], ms, h => h
  | e :: es, ms, h => by
    obtain ⟨m, r, h1, h2, h3, h4, h5⟩ := h
    exact ⟨m, r, h1, h2, V_ren hr h3, h4, EntsIn_ren hr h5⟩

/-- The same places, the edition 0. -/
def zeroG (l : LB) : LB := { l with g := 0 }
def deadLB : LB := { live := false, g := 0, B := 0, o := 0, K := 0, size := 0 }

/-- What a block's place becomes. -/
def placeOf (k : Blk) (e : Option LB) : Option LB :=
  match k with
  | .res => none
  | .dead => some deadLB
  | _ => e.map zeroG

theorem placeOf_live {k : Blk} {e : Option LB} {l : LB} (h : placeOf k e = some l) (hl : l.live = true) : ∃ l0, e = some l0 ∧ l0.live = true ∧ l = zeroG l0 ∧ k ≠ .dead ∧ k ≠ .res := by
  cases k <;> simp only [placeOf, Option.map_eq_some_iff, Option.some.injEq] at h <;> first
    | (obtain ⟨l0, h1, rfl⟩ := h; exact ⟨l0, h1, hl, rfl, by simp, by simp⟩)
    | (subst h; simp [deadLB] at hl)
    | cases h

/-- A block that is kept under another number has its sense. -/
theorem BRel_ren {base tgt : Nat} {ids : List (Nat × Nat)} (hr : RenOK E E' base tgt ids) {k : Blk} {e : Option LB} (h : BRel im w E k e) :
    BRel im w E' (setGen (renBlk base tgt ids k)) (placeOf (setGen (renBlk base tgt ids k)) e) := by
  cases k with
  | res => simp [renBlk, setGen, placeOf, BRel]
  | dead => simp [renBlk, setGen, placeOf, BRel, deadLB]
  | cells size g es fz =>
    rcases h with rfl | ⟨l, C, t, rfl, h2, h3, h4, h5, h6, h7, h8⟩
    · exact .inl rfl
    simp only [renBlk, setGen, placeOf, Option.map_some]
    exact .inr ⟨zeroG l, C, t, rfl, h2, rfl, h4, by rw [List.length_map]; exact h5, h6, h7, RowsIn_ren hr h8⟩
  | map es clock =>
    obtain ⟨l, ms, rfl, h2, h3, h4, h5⟩ := h
    simp only [renBlk, setGen, placeOf, Option.map_some]
    exact ⟨zeroG l, ms, rfl, h2, rfl, h4, EntsIn_ren hr h5⟩
  | siter s pos =>
    obtain ⟨l, rfl, h2, h3, h4, h5, h6⟩ := h
    simp only [renBlk, setGen, placeOf, Option.map_some]
    exact ⟨zeroG l, rfl, h2, rfl, h4, h5, h6⟩
  | miter m since seen stepped =>
    obtain ⟨l, r, rfl, h2, h3, h4, h5, h6, h7⟩ := h
    cases m with
    | none =>
      simp only [renBlk, setGen, placeOf, Option.map_some]
      exact ⟨zeroG l, r, rfl, h2, rfl, h4, h5, h6, h7⟩
    | some b =>
      simp only [renBlk]
      split
      · rename_i p hp
        simp only [setGen, placeOf, Option.map_some]
        obtain ⟨l', q, h8, h9, h10⟩ := h7
        obtain ⟨l'', h11, h12, h13⟩ := hr b 0 p hp l' h8 (Nat.zero_le _)
        refine ⟨zeroG l, r, rfl, h2, rfl, h4, h5, h6, l'', q, h11, h9, fun hl e => ?_⟩
        obtain ⟨v1, v2, v3, _⟩ := h13 hl (by rw [e, renB_zero hp])
        rw [v3]
        exact h10 v1 v2
      · simp [setGen, placeOf, BRel, deadLB]

theorem reach_nodup (base : Nat) (H : List Blk) : ∀ (n : Nat) (todo seen : List Nat), seen.Nodup → (reach base H n todo seen).Nodup
  | 0, _, seen, h => by simpa [reach] using h
  | n + 1, [], seen, h => by simpa [reach] using h
  | n + 1, b :: todo, seen, h => by
    simp only [reach]
    split
    · exact reach_nodup base H n todo seen h
    · rename_i hc
      refine reach_nodup base H n _ _ ?_
      rw [List.nodup_append]
      refine ⟨h, by simp, ?_⟩
      intro a ha b' hb
      simp at hb
      subst hb
      rintro rfl
      exact hc (by simpa using ha)

theorem findIdx_ids {l : List Nat} {H : List Blk} {b g k : Nat} (h : (l.map fun b => (b, genOf H b)).findIdx? (fun p => p.1 == b && p.2 == g) = some k) : l[k]? = some b ∧ genOf H b = g := by
  obtain ⟨hlt, h1, _⟩ := List.findIdx?_eq_some_iff_getElem.1 h
  simp only [List.getElem_map, Bool.and_eq_true, beq_iff_eq] at h1
  simp only [List.length_map] at hlt
  exact ⟨by rw [List.getElem?_eq_getElem hlt, h1.1], by rw [← h1.2, h1.1]⟩

theorem genOf_eq (h : HRel X E H w) {b : Nat} {l : LB} (hE : E b = some l) (hl : l.live = true) : l.g = genOf H b := by
  obtain ⟨k, hk⟩ := h.inDom hE
  have hB := h.blk b k hk
  rw [hE] at hB
  unfold genOf
  cases k with
  | res => cases hB
  | dead => obtain ⟨l', e, e'⟩ := hB; cases e; rw [hl] at e'; cases e'
  | cells size g es fz =>
    rcases hB with hB | ⟨l', C, t, e, _, h3, _⟩
    · cases hB
    · cases e; rw [hk]; exact h3
  | map es clock => obtain ⟨l', ms, e, _, h3, _⟩ := hB; cases e; rw [hk]; exact h3
  | siter s pos => obtain ⟨l', e, _, h3, _⟩ := hB; cases e; rw [hk]; exact h3
  | miter m since seen stepped => obtain ⟨l', r, e, _, h3, _⟩ := hB; cases e; rw [hk]; exact h3

/-- The zone of what is kept is as it was. -/
theorem zone_ren {base tgt : Nat} {ids : List (Nat × Nat)} {k : Blk} {size g : Nat} {es : List (List AV)} (hk : k = .cells size g es true) :
    setGen (renBlk base tgt ids k) = .cells size 0 (es.map (renL base tgt ids)) true := by
  subst hk; rfl

section
variable {X' : Nat → Nat → Prop} {E1 : Env} {H1 : List Blk} {w0 : World}

theorem adopt_sound (h : HRel X E H w0) (h1 : HRel X' E1 H1 w) (hs : Step X' noE [] w0 E1 H1 w) (hX : ∀ B o, X B o ∨ Wr E H B o → X' B o) {v v' : AV} {x : Value} {H' : List Blk}
    (hv : V (Im X' E1 H1 w) w v E1 x) (ha : adopt H none H1 v = some (v', H')) : ∃ E', HRel X E' H' w ∧ Step X E H w0 E' H' w ∧ V (Im X E' H' w) w v' E' x := by
  simp only [adopt, Option.some.injEq, Prod.mk.injEq] at ha
  obtain ⟨rfl, rfl⟩ := ha
  have hnd := reach_nodup 0 H1 100000 (refs 0 v) [] List.nodup_nil
  generalize reach 0 H1 100000 (refs 0 v) [] = l at *
  generalize hids : (l.map fun b => (b, genOf H1 b)) = ids
  generalize hnew : (fun (b : Nat) => setGen (renBlk 0 H.length ids ((H1[b]?).getD .dead))) = nb
  have hnbe : ∀ (b : Nat), setGen (renBlk 0 H.length ids ((H1[b]?).getD .dead)) = nb b := fun b => by rw [← hnew]
  let E' : Env := fun b => if b < H.length then E b else (l[b - H.length]?).bind fun b0 => placeOf (nb b0) (E1 b0)
  have hold : ∀ b, b < H.length → E' b = E b := fun b hb => by simp only [E', hb, if_true]
  have hnewE : ∀ k, E' (H.length + k) = (l[k]?).bind fun b0 => placeOf (nb b0) (E1 b0) := fun k => by
    have : ¬ (H.length + k < H.length) := by omega
    simp only [E', this, if_false, Nat.add_sub_cancel_left]
  have hH' : ∀ k, (H ++ l.map nb)[H.length + k]? = (l[k]?).map nb := fun k => by
    rw [List.getElem?_append_right (by omega), Nat.add_sub_cancel_left, List.getElem?_map]
  have hH0 : ∀ b, b < H.length → (H ++ l.map nb)[b]? = H[b]? := fun b hb => by rw [List.getElem?_append_left hb]
  have hdomE : ∀ b lb, E b = some lb → b < H.length := fun b lb hb => by
    rcases Nat.lt_or_ge b H.length with h2 | h2
    · exact h2
    · rw [h.dom b (List.getElem?_eq_none h2)] at hb; cases hb
  -- what is live among the new ones
  have hlive : ∀ k lb, E' (H.length + k) = some lb → lb.live = true → ∃ b0 l0, l[k]? = some b0 ∧ E1 b0 = some l0 ∧ l0.live = true ∧ lb = zeroG l0 ∧ w0.heap.size ≤ l0.B := by
    intro k lb hb hl
    rw [hnewE] at hb
    simp only [Option.bind_eq_some_iff] at hb
    obtain ⟨b0, h2, h3⟩ := hb
    obtain ⟨l0, h4, h5, h6, _⟩ := placeOf_live h3 hl
    rcases hs.new b0 l0 h4 h5 with ⟨_, _, h7, _⟩ | h7
    · cases h7
    · exact ⟨b0, l0, h2, h4, h5, h6, h7⟩
  have hsplit : ∀ b, H.length ≤ b → ∃ k, b = H.length + k := fun b hb => ⟨b - H.length, by omega⟩
  have hren : RenOK E1 E' 0 H.length ids := by
    intro b g p hp lb hb _
    unfold renB at hp
    rw [if_neg (by omega)] at hp
    simp only [Option.map_eq_some_iff] at hp
    obtain ⟨k, hk, rfl⟩ := hp
    rw [← hids] at hk
    obtain ⟨hk1, hk2⟩ := findIdx_ids hk
    obtain ⟨kb, hkb⟩ := h1.inDom hb
    have h2 := BRel_ren (base := 0) (tgt := H.length) (ids := ids) (E' := E1) (E := E1) (im := Im X' E1 H1 w) (w := w)
    have hpl : ∃ l', placeOf (nb b) (E1 b) = some l' := by
      rw [hb, ← hnbe, hkb]
      simp only [Option.getD_some]
      cases hq : setGen (renBlk 0 H.length ids kb) with
      | res =>
        have : kb = .res := by
          cases kb with
          | res => rfl
          | miter m a b c =>
            cases m with
            | none => simp [renBlk, setGen] at hq
            | some m => simp only [renBlk] at hq; split at hq <;> simp [setGen] at hq
          | _ => simp [renBlk, setGen] at hq
        subst this
        have := h1.blk b _ hkb
        rw [hb] at this
        cases this
      | _ => exact ⟨_, rfl⟩
    obtain ⟨l', hl'⟩ := hpl
    refine ⟨l', by rw [hnewE, hk1]; exact hl', Nat.zero_le _, fun hv2 _ => ?_⟩
    obtain ⟨l0, h4, h5, h6, _⟩ := placeOf_live hl' hv2
    rw [hb] at h4
    cases h4
    subst h6
    exact ⟨h5, by rw [genOf_eq h1 hb h5, hk2], rfl, rfl, rfl, rfl⟩
  have hwr : ∀ B o, Wr E' (H ++ l.map nb) B o → Wr E H B o ∨ (Wr E1 H1 B o ∧ w0.heap.size ≤ B) := by
    rintro B o ⟨b, lb, hb, hl, hB, hz⟩
    rcases Nat.lt_or_ge b H.length with h2 | h2
    · left
      rw [hold b h2] at hb
      exact ⟨b, lb, hb, hl, hB, fun size g es hk => hz size g es (by rw [hH0 b h2]; exact hk)⟩
    · right
      obtain ⟨k, rfl⟩ := hsplit b h2
      obtain ⟨b0, l0, h3, h4, h5, rfl, h6⟩ := hlive k lb hb hl
      refine ⟨⟨b0, l0, h4, h5, hB, fun size g es hk => ?_⟩, by rw [← hB]; exact h6⟩
      have := hz size 0 (es.map (renL 0 H.length ids)) (by rw [hH', h3]; simp only [Option.map_some]; rw [← hnbe, hk]; rfl)
      rw [List.length_map] at this
      exact this
  have him : ∀ B o, Im X E H w0 B o → Im X E' (H ++ l.map nb) w B o ∧ w.cell? ⟨B, o, none⟩ = w0.cell? ⟨B, o, none⟩ := by
    rintro B o ⟨g1, g2, g3⟩
    refine ⟨⟨Nat.lt_of_lt_of_le g1 hs.size, g2, fun hw => ?_⟩, cell_of_heap (hs.obj B g1 fun b lb hb => by cases hb) o⟩
    rcases hwr B o hw with h2 | ⟨_, h2⟩
    · exact g3 h2
    · omega
  have him1 : ∀ B o, Im X' E1 H1 w B o → Im X E' (H ++ l.map nb) w B o := by
    rintro B o ⟨g1, g2, g3⟩
    refine ⟨g1, fun hx => g2 (hX B o (.inl hx)), fun hw => ?_⟩
    rcases hwr B o hw with h2 | ⟨h2, _⟩
    · exact g2 (hX B o (.inr h2))
    · exact g3 h2
  have hle : Le E E' := by
    intro b lb hb
    exact ⟨lb, by rw [hold b (hdomE b lb hb)]; exact hb, Nat.le_refl _, fun hl _ => ⟨hl, rfl, rfl, rfl, rfl⟩⟩
  refine ⟨E', ⟨?_, ?_, ?_, ?_, ?_⟩, ⟨hle, hs.size, him, ?_, ?_, by simp, ?_, hs.still⟩, V_mono (w := w) (fun B o hb => ⟨him1 B o hb, rfl⟩) _ (Le.refl _) (V_ren hren hv)⟩
  · intro b hb
    have hlen : H.length + l.length ≤ b := by
      rcases Nat.lt_or_ge b (H.length + l.length) with h2 | h2
      · rw [List.getElem?_eq_none_iff] at hb
        simp at hb
        omega
      · exact h2
    obtain ⟨k, rfl⟩ := hsplit b (by omega)
    rw [hnewE, List.getElem?_eq_none (by omega)]
    rfl
  · intro b k hk
    rcases Nat.lt_or_ge b H.length with h2 | h2
    · rw [hH0 b h2] at hk
      rw [hold b h2]
      refine BRel_mono him hle (fun lb hb hl => ?_) (h.blk b k hk)
      exact hs.obj lb.B (h.lt hb hl) fun b' l' hb' => by cases hb'
    · obtain ⟨j, rfl⟩ := hsplit b h2
      rw [hH'] at hk
      simp only [Option.map_eq_some_iff] at hk
      obtain ⟨b0, hb0, rfl⟩ := hk
      rw [hnewE, hb0]
      simp only [Option.bind_some]
      rw [← hnbe]
      cases hkb : H1[b0]? with
      | none => simp [renBlk, setGen, placeOf, BRel, deadLB]
      | some kb =>
        simp only [Option.getD_some]
        exact BRel_mono (fun B o hb => ⟨him1 B o hb, rfl⟩) (Le.refl _) (fun _ _ _ => rfl) (BRel_ren hren (h1.blk b0 kb hkb))
  · have mix : ∀ b1 k l1 l2, b1 < H.length → E' b1 = some l1 → E' (H.length + k) = some l2 → l1.live = true → l2.live = true → l1.B = l2.B → False := by
      intro b1 k l1 l2 hb1 h2 h3 v1 v2 e
      rw [hold b1 hb1] at h2
      have h4 := h.lt h2 v1
      obtain ⟨b0, l0, _, _, _, rfl, h5⟩ := hlive k l2 h3 v2
      have e : l1.B = l0.B := e
      omega
    intro b1 b2 l1 l2 h2 h3 v1 v2 e
    rcases Nat.lt_or_ge b1 H.length with g1 | g1 <;> rcases Nat.lt_or_ge b2 H.length with g2 | g2
    · rw [hold b1 g1] at h2
      rw [hold b2 g2] at h3
      exact h.sep b1 b2 l1 l2 h2 h3 v1 v2 e
    · obtain ⟨k, rfl⟩ := hsplit b2 g2
      exact (mix b1 k l1 l2 g1 h2 h3 v1 v2 e).elim
    · obtain ⟨k, rfl⟩ := hsplit b1 g1
      exact (mix b2 k l2 l1 g2 h3 h2 v2 v1 e.symm).elim
    · obtain ⟨k, rfl⟩ := hsplit b1 g1
      obtain ⟨j, rfl⟩ := hsplit b2 g2
      obtain ⟨c0, m0, a1, a2, a3, rfl, _⟩ := hlive k l1 h2 v1
      obtain ⟨c1, m1, a5, a6, a7, rfl, _⟩ := hlive j l2 h3 v2
      have := h1.sep c0 c1 m0 m1 a2 a6 a3 a7 e
      subst this
      have hkl : k < l.length := by
        rcases Nat.lt_or_ge k l.length with h9 | h9
        · exact h9
        · rw [List.getElem?_eq_none h9] at a1; cases a1
      have := (List.getElem?_inj hkl hnd).1 (a1.trans a5.symm)
      omega
  · intro b lb hb hl off
    rcases Nat.lt_or_ge b H.length with g1 | g1
    · rw [hold b g1] at hb
      exact h.xs b lb hb hl off
    · obtain ⟨k, rfl⟩ := hsplit b g1
      obtain ⟨b0, l0, _, _, _, rfl, h5⟩ := hlive k lb hb hl
      intro hx
      have hlt : l0.B < w0.heap.size := h.xlt _ _ hx
      omega
  · exact fun B off hx => Nat.lt_of_lt_of_le (h.xlt B off hx) hs.size
  · exact fun B hB _ => hs.obj B hB fun b lb hb => by cases hb
  · intro b lb hb hl
    rcases Nat.lt_or_ge b H.length with g1 | g1
    · rw [hold b g1] at hb
      exact .inl ⟨b, lb, hb, hl, rfl⟩
    · obtain ⟨k, rfl⟩ := hsplit b g1
      obtain ⟨b0, l0, _, _, _, rfl, h5⟩ := hlive k lb hb hl
      exact .inr h5
  · intro b h1 h2
    obtain ⟨s, g, es, fz, hk⟩ := h1
    have hlt : b < H.length := by
      rcases Nat.lt_or_ge b H.length with h9 | h9
      · exact h9
      · rw [List.getElem?_eq_none h9] at hk; cases hk
    exact ⟨⟨s, g, es, fz, by rw [hH0 b hlt]; exact hk⟩, by rw [hold b hlt]; exact h2⟩

end
end
end Go.Ai
