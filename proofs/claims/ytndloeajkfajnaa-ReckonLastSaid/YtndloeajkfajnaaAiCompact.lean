/-
  WHAT NOTHING LEADS TO IS FORGOTTEN.
-/
import Derived.Test.YtndloeajkfajnaaAiRen
set_option linter.unusedVariables false
set_option linter.unusedSimpArgs false
namespace Go.Ai
section
variable {P : Program} {X : Nat → Nat → Prop} {E E' : Env} {H : List Blk} {w : World} {im : Nat → Nat → Prop}

mutual
theorem ren_id {L tgt : Nat} {ids : List (Nat × Nat)} : ∀ {c : AV}, refs L c = [] → ren L tgt ids c = c
  | .undef, _ => by simp [ren]
  | .sc _, _ => by simp [ren]
  | .rp .., _ => by simp [ren]
  | .ro .., _ => by simp [ren]
  | .agg cs, h => by simp only [refs] at h; simp only [ren, renL_id h]
  | .tup cs, h => by simp only [refs] at h; simp only [ren, renL_id h]
  | .fn f cs, h => by simp only [refs] at h; simp only [ren, renL_id h]
  | .ifc t v, h => by simp only [refs] at h; simp only [ren, ren_id h]
  | .ptr b g i o, h => by
    simp only [refs] at h
    split at h
    · rename_i hb; simp [ren, renB, hb]
    · cases h
  | .sl b g s l c, h => by
    simp only [refs] at h
    split at h
    · rename_i hb; simp [ren, renB, hb]
    · cases h
  | .mp b, h => by
    simp only [refs] at h
    split at h
    · rename_i hb; simp [ren, renB, hb]
    · cases h
theorem renL_id {L tgt : Nat} {ids : List (Nat × Nat)} : ∀ {cs : List AV}, refsL L cs = [] → renL L tgt ids cs = cs
  | [], _ => by simp [renL]
  | c :: cs, h => by
    simp only [refsL, List.append_eq_nil_iff] at h
    simp only [renL, ren_id h.1, renL_id h.2]
end

theorem renBlk_id {L tgt : Nat} {ids : List (Nat × Nat)} {k : Blk} (h : refsBlk L k = []) : renBlk L tgt ids k = k := by
  cases k with
  | cells size g es fz =>
    simp only [refsBlk, List.flatMap_eq_nil_iff] at h
    simp only [renBlk]
    congr 1
    have : es.map (renL L tgt ids) = es.map id := List.map_congr_left fun r hr => renL_id (h r hr)
    rw [this]
    simp
  | map es clock =>
    simp only [refsBlk, List.flatMap_eq_nil_iff] at h
    simp only [renBlk]
    congr 1
    have : (es.map fun e => (e.1, ren L tgt ids e.2.1, e.2.2)) = es.map id := List.map_congr_left fun e he => by rw [ren_id (h e he)]; rfl
    rw [this]
    simp
  | miter m a b c =>
    cases m with
    | none => rfl
    | some b =>
      simp only [refsBlk] at h
      split at h
      · rename_i hb; simp [renBlk, renB, hb]
      · cases h
  | _ => rfl

def kill (l : LB) : LB := { l with live := false }

def outerOf (k : Blk) (e : Option LB) : Option LB :=
  match k with
  | .dead => e.map kill
  | _ => e

theorem TRel_ren {n : Nat} {a : Act} {base tgt : Nat} {ids : List (Nat × Nat)} (hr : RenOK E E' base tgt ids) {tmps : Tm} (h : TRel im w E n tmps a) : TRel im w E' n (renT base tgt ids tmps) a := by
  refine ⟨h.1, fun t => ?_⟩
  have h2 := h.2 t
  clear h
  induction tmps with
  | nil => simp [renT, getT, V]
  | cons p r ih =>
    obtain ⟨k, v⟩ := p
    simp only [renT, getT] at h2 ⊢
    split at h2
    · exact V_ren hr h2
    · exact ih h2

theorem BRel_outer {base tgt : Nat} {ids : List (Nat × Nat)} (hr : RenOK E E' base tgt ids) {k : Blk} {e : Option LB} (h : BRel im w E k e) : BRel im w E' (renBlk base tgt ids k) (outerOf (renBlk base tgt ids k) e) := by
  cases k with
  | res => exact h
  | dead =>
    obtain ⟨l, rfl, hl⟩ := h
    exact ⟨kill l, rfl, rfl⟩
  | cells size g es fz =>
    rcases h with rfl | ⟨l, C, t, rfl, h2, h3, h4, h5, h6, h7, h8⟩
    · exact .inl rfl
    exact .inr ⟨l, C, t, rfl, h2, h3, h4, by rw [List.length_map]; exact h5, h6, h7, RowsIn_ren hr h8⟩
  | map es clock =>
    obtain ⟨l, ms, rfl, h2, h3, h4, h5⟩ := h
    exact ⟨l, ms, rfl, h2, h3, h4, EntsIn_ren hr h5⟩
  | siter s pos => exact h
  | miter m since seen stepped =>
    obtain ⟨l, r, rfl, h2, h3, h4, h5, h6, h7⟩ := h
    cases m with
    | none => exact ⟨l, r, rfl, h2, h3, h4, h5, h6, h7⟩
    | some b =>
      simp only [renBlk]
      split
      · rename_i p hp
        obtain ⟨l', q, h8, h9, h10⟩ := h7
        obtain ⟨l'', h11, h12, h13⟩ := hr b 0 p hp l' h8 (Nat.zero_le _)
        refine ⟨l, r, rfl, h2, h3, h4, h5, h6, l'', q, h11, h9, fun hl e => ?_⟩
        obtain ⟨v1, v2, v3, _⟩ := h13 hl (by rw [e, renB_zero hp])
        rw [v3]
        exact h10 v1 v2
      · exact ⟨kill l, rfl, rfl⟩

mutual
theorem refs_ge {L : Nat} : ∀ {c : AV} {b : Nat}, b ∈ refs L c → L ≤ b
  | .undef, _, h => by simp [refs] at h
  | .sc _, _, h => by simp [refs] at h
  | .rp .., _, h => by simp [refs] at h
  | .ro .., _, h => by simp [refs] at h
  | .agg cs, _, h => refsL_ge (by simpa [refs] using h)
  | .tup cs, _, h => refsL_ge (by simpa [refs] using h)
  | .fn f cs, _, h => refsL_ge (by simpa [refs] using h)
  | .ifc t v, _, h => refs_ge (by simpa [refs] using h)
  | .ptr b g i o, x, h => by
    simp only [refs] at h
    split at h
    · cases h
    · simp at h; omega
  | .sl b g s l c, x, h => by
    simp only [refs] at h
    split at h
    · cases h
    · simp at h; omega
  | .mp b, x, h => by
    simp only [refs] at h
    split at h
    · cases h
    · simp at h; omega
theorem refsL_ge {L : Nat} : ∀ {cs : List AV} {b : Nat}, b ∈ refsL L cs → L ≤ b
  | [], _, h => by simp [refsL] at h
  | c :: cs, b, h => by
    simp only [refsL, List.mem_append] at h
    rcases h with h | h
    · exact refs_ge h
    · exact refsL_ge h
end

theorem refsBlk_ge {L : Nat} {k : Blk} {b : Nat} (h : b ∈ refsBlk L k) : L ≤ b := by
  cases k with
  | cells size g es fz =>
    simp only [refsBlk, List.mem_flatMap] at h
    obtain ⟨r, _, h⟩ := h
    exact refsL_ge h
  | map es clock =>
    simp only [refsBlk, List.mem_flatMap] at h
    obtain ⟨r, _, h⟩ := h
    exact refs_ge h
  | miter m a c d =>
    cases m with
    | none => simp [refsBlk] at h
    | some x =>
      simp only [refsBlk] at h
      split at h
      · cases h
      · simp at h; omega
  | _ => simp [refsBlk] at h

theorem refsT_ge {L : Nat} : ∀ {t : Tm} {b : Nat}, b ∈ refsT L t → L ≤ b
  | [], _, h => by simp [refsT] at h
  | (k, v) :: r, b, h => by
    simp only [refsT, List.mem_append] at h
    rcases h with h | h
    · exact refs_ge h
    · exact refsT_ge h

theorem reach_ge (L : Nat) (H : List Blk) : ∀ (n : Nat) (todo seen : List Nat), (∀ b ∈ todo, L ≤ b) → (∀ b ∈ seen, L ≤ b) → ∀ b ∈ reach L H n todo seen, L ≤ b
  | 0, _, seen, _, h => by simpa [reach] using h
  | n + 1, [], seen, _, h => by simpa [reach] using h
  | n + 1, c :: todo, seen, h1, h2 => by
    simp only [reach]
    split
    · exact reach_ge L H n todo seen (fun b hb => h1 b (by simp [hb])) h2
    · refine reach_ge L H n _ _ (fun b hb => ?_) (fun b hb => ?_)
      · rw [List.mem_append] at hb
        rcases hb with hb | hb
        · cases hk : H[c]? with
          | none => rw [hk] at hb; simp at hb
          | some k => rw [hk] at hb; exact refsBlk_ge (by simpa using hb)
        · exact h1 b (by simp [hb])
      · rw [List.mem_append] at hb
        rcases hb with hb | hb
        · exact h2 b hb
        · simp at hb
          exact h1 b (by simp [hb])

theorem compact_sound {E0 : Env} {H0 : List Blk} {w0 : World} (h : HRel X E H w) (hs : Step X E0 H0 w0 E H w) {L : Nat} (hL : H0.length ≤ L) (hLH : L ≤ H.length) (h0 : ∀ b l, E0 b = some l → b < H0.length) {n : Nat} {tmps : Tm} {a : Act}
    (ht : TRel (Im X E H w) w E n tmps a) {ds : List (FuncId × List AV)} :
    ∃ E', HRel X E' (compact L ⟨n, tmps, H, ds⟩).heap w ∧ Step X E0 H0 w0 E' (compact L ⟨n, tmps, H, ds⟩).heap w ∧
      TRel (Im X E' (compact L ⟨n, tmps, H, ds⟩).heap w) w E' n (compact L ⟨n, tmps, H, ds⟩).tmps a ∧ (compact L ⟨n, tmps, H, ds⟩).defers = ds ∧ (compact L ⟨n, tmps, H, ds⟩).n = n ∧
      (ds ≠ [] → E' = E ∧ (compact L ⟨n, tmps, H, ds⟩).heap = H) := by
  unfold compact
  split
  · exact ⟨E, h, hs, ht, rfl, rfl, fun _ => ⟨rfl, rfl⟩⟩
  split
  · exact ⟨E, h, hs, ht, rfl, rfl, fun _ => ⟨rfl, rfl⟩⟩
  rename_i hds
  have hds : ds = [] := by
    cases ds with
    | nil => rfl
    | cons d ds => simp at hds
  simp only
  have hnd := reach_nodup L H 100000 (refsT L tmps ++ (H.take L).flatMap (refsBlk L)) [] List.nodup_nil
  have hge := reach_ge L H 100000 (refsT L tmps ++ (H.take L).flatMap (refsBlk L)) [] (fun b hb => by
    rw [List.mem_append] at hb
    rcases hb with hb | hb
    · exact refsT_ge hb
    · rw [List.mem_flatMap] at hb
      obtain ⟨k, _, hb⟩ := hb
      exact refsBlk_ge hb) (by simp)
  generalize reach L H 100000 (refsT L tmps ++ (H.take L).flatMap (refsBlk L)) [] = l at *
  generalize hids : (l.map fun b => (b, genOf H b)) = ids
  have hout : (if ((H.take L).flatMap (refsBlk L)).isEmpty = true then H.take L else (H.take L).map (renBlk L L ids)) = (H.take L).map (renBlk L L ids) := by
    split
    · rename_i he
      have he : (H.take L).flatMap (refsBlk L) = [] := by simpa using he
      rw [List.flatMap_eq_nil_iff] at he
      have : (H.take L).map (renBlk L L ids) = (H.take L).map id := List.map_congr_left fun k hk => renBlk_id (he k hk)
      rw [this]
      simp
    · rfl
  rw [hout]
  generalize hnew : (fun (b : Nat) => setGen (renBlk L L ids ((H[b]?).getD .dead))) = nb
  have hnbe : ∀ (b : Nat), setGen (renBlk L L ids ((H[b]?).getD .dead)) = nb b := fun b => by rw [← hnew]
  let E' : Env := fun b => if b < L then outerOf (renBlk L L ids ((H[b]?).getD .dead)) (E b) else (l[b - L]?).bind fun b0 => placeOf (nb b0) (E b0)
  have htl : ((H.take L).map (renBlk L L ids)).length = L := by simp; omega
  have hold : ∀ b, b < L → E' b = outerOf (renBlk L L ids ((H[b]?).getD .dead)) (E b) := fun b hb => by simp only [E', hb, if_true]
  have hnewE : ∀ k, E' (L + k) = (l[k]?).bind fun b0 => placeOf (nb b0) (E b0) := fun k => by
    have : ¬ (L + k < L) := by omega
    simp only [E', this, if_false, Nat.add_sub_cancel_left]
  generalize hH' : (H.take L).map (renBlk L L ids) ++ l.map nb = H'
  have hHn : ∀ k, H'[L + k]? = (l[k]?).map nb := fun k => by
    rw [← hH', List.getElem?_append_right (by omega), htl, Nat.add_sub_cancel_left, List.getElem?_map]
  have hHo : ∀ b, b < L → H'[b]? = (H[b]?).map (renBlk L L ids) := fun b hb => by
    rw [← hH', List.getElem?_append_left (by omega), List.getElem?_map, List.getElem?_take, if_pos hb]
  have hsplit : ∀ b, L ≤ b → ∃ k, b = L + k := fun b hb => ⟨b - L, by omega⟩
  have hlive : ∀ b lb, E' b = some lb → lb.live = true → ∃ b0 l0, E b0 = some l0 ∧ l0.live = true ∧ lb.B = l0.B ∧ lb.o = l0.o ∧ (b < L → b0 = b ∧ lb = l0) ∧ (L ≤ b → l[b - L]? = some b0 ∧ lb = zeroG l0) ∧
      (∀ size g es, H[b0]? = some (.cells size g es true) → ∃ g' es', H'[b]? = some (.cells size g' es' true) ∧ es'.length = es.length) := by
    intro b lb hb hl
    rcases Nat.lt_or_ge b L with g1 | g1
    · rw [hold b g1] at hb
      have hEb : E b = some lb := by
        cases hq : renBlk L L ids ((H[b]?).getD .dead) with
        | dead =>
          rw [hq] at hb
          simp only [outerOf, Option.map_eq_some_iff] at hb
          obtain ⟨l0, _, rfl⟩ := hb
          simp [kill] at hl
        | _ => rw [hq] at hb; exact hb
      refine ⟨b, lb, hEb, hl, rfl, rfl, fun _ => ⟨rfl, rfl⟩, fun hge => by omega, fun size g es hk => ?_⟩
      exact ⟨g, es.map (renL L L ids), by rw [hHo b g1, hk]; rfl, by simp⟩
    · obtain ⟨k, rfl⟩ := hsplit b g1
      rw [hnewE] at hb
      simp only [Option.bind_eq_some_iff] at hb
      obtain ⟨b0, h2, h3⟩ := hb
      obtain ⟨l0, h4, h5, rfl, _⟩ := placeOf_live h3 hl
      refine ⟨b0, l0, h4, h5, rfl, rfl, fun hlt => by omega, fun _ => ⟨by rw [Nat.add_sub_cancel_left]; exact h2, rfl⟩, fun size g es hk => ?_⟩
      exact ⟨0, es.map (renL L L ids), by rw [hHn, h2]; simp only [Option.map_some]; rw [← hnbe, hk]; rfl, by simp⟩
  have hren : RenOK E E' L L ids := by
    intro b g p hp lb hb hg
    unfold renB at hp
    split at hp
    · rename_i hlt
      cases hp
      simp only
      rw [hold b hlt, hb]
      cases hq : renBlk L L ids ((H[b]?).getD .dead) with
      | dead => exact ⟨kill lb, rfl, hg, fun hv => by simp [kill] at hv⟩
      | _ => exact ⟨lb, rfl, hg, fun hv e => ⟨hv, e, rfl, rfl, rfl, rfl⟩⟩
    · simp only [Option.map_eq_some_iff] at hp
      obtain ⟨k, hk, rfl⟩ := hp
      rw [← hids] at hk
      obtain ⟨hk1, hk2⟩ := findIdx_ids hk
      obtain ⟨kb, hkb⟩ := h.inDom hb
      have hpl : ∃ l', placeOf (nb b) (E b) = some l' := by
        rw [hb, ← hnbe, hkb]
        simp only [Option.getD_some]
        cases hq : setGen (renBlk L L ids kb) with
        | res =>
          have : kb = .res := by
            cases kb with
            | res => rfl
            | miter m a b c =>
              cases m with
              | none => simp [renBlk, setGen] at hq
              | some m => simp only [renBlk] at hq; split at hq <;> simp [setGen] at hq
            | _ => simp [renBlk, setGen] at hq
          subst this
          have := h.blk b _ hkb
          rw [hb] at this
          cases this
        | _ => exact ⟨_, rfl⟩
      obtain ⟨l', hl'⟩ := hpl
      refine ⟨l', by rw [hnewE, hk1]; exact hl', Nat.zero_le _, fun hv2 _ => ?_⟩
      obtain ⟨l0, h4, h5, h6, _⟩ := placeOf_live hl' hv2
      rw [hb] at h4
      cases h4
      subst h6
      exact ⟨h5, by rw [genOf_eq h hb h5, hk2], rfl, rfl, rfl, rfl⟩
  have hwr : ∀ B o, Wr E' H' B o → Wr E H B o := by
    rintro B o ⟨b, lb, hb, hl, hB, hz⟩
    obtain ⟨b0, l0, h2, h3, h4, h5, _, _, h6⟩ := hlive b lb hb hl
    refine ⟨b0, l0, h2, h3, h4 ▸ hB, fun size g es hk => ?_⟩
    obtain ⟨g', es', h7, h8⟩ := h6 size g es hk
    have := hz size g' es' h7
    rw [h8, h5] at this
    exact this
  have him : ∀ B o, Im X E H w B o → Im X E' H' w B o := fun B o ⟨g1, g2, g3⟩ => ⟨g1, g2, fun hw => g3 (hwr B o hw)⟩
  refine ⟨E', ⟨?_, ?_, ?_, ?_, h.xlt⟩, ⟨?_, hs.size, fun B o hb => ⟨him B o (hs.im B o hb).1, (hs.im B o hb).2⟩, hs.obj, ?_, ?_, ?_, hs.still⟩, ?_, by first | rfl | (simp only), by first | rfl | (simp only), fun hne => absurd hds hne⟩
  · intro b hb
    have hlen : L + l.length ≤ b := by
      rcases Nat.lt_or_ge b (L + l.length) with h2 | h2
      · rw [List.getElem?_eq_none_iff, ← hH'] at hb
        simp only [List.length_append, List.length_map, List.length_take] at hb
        omega
      · exact h2
    obtain ⟨k, rfl⟩ := hsplit b (by omega)
    rw [hnewE, List.getElem?_eq_none (by omega)]
    rfl
  · intro b k hk
    rcases Nat.lt_or_ge b L with h2 | h2
    · rw [hHo b h2] at hk
      simp only [Option.map_eq_some_iff] at hk
      obtain ⟨k0, hk0, rfl⟩ := hk
      rw [hold b h2, hk0]
      exact BRel_mono (fun B o hb => ⟨him B o hb, rfl⟩) (Le.refl _) (fun _ _ _ => rfl) (BRel_outer hren (h.blk b k0 hk0))
    · obtain ⟨j, rfl⟩ := hsplit b h2
      rw [hHn] at hk
      simp only [Option.map_eq_some_iff] at hk
      obtain ⟨b0, hb0, rfl⟩ := hk
      rw [hnewE, hb0]
      simp only [Option.bind_some]
      rw [← hnbe]
      cases hkb : H[b0]? with
      | none => simp [renBlk, setGen, placeOf, BRel, deadLB]
      | some kb =>
        simp only [Option.getD_some]
        exact BRel_mono (fun B o hb => ⟨him B o hb, rfl⟩) (Le.refl _) (fun _ _ _ => rfl) (BRel_ren hren (h.blk b0 kb hkb))
  · intro b1 b2 l1 l2 h2 h3 v1 v2 e
    obtain ⟨c0, m0, a1, a2, a3, _, a4, a5, _⟩ := hlive b1 l1 h2 v1
    obtain ⟨c1, m1, d1, d2, d3, _, d4, d5, _⟩ := hlive b2 l2 h3 v2
    have hc := h.sep c0 c1 m0 m1 a1 d1 a2 d2 (by rw [← a3, ← d3]; exact e)
    subst hc
    rcases Nat.lt_or_ge b1 L with g1 | g1 <;> rcases Nat.lt_or_ge b2 L with g2 | g2
    · rw [← (a4 g1).1, ← (d4 g2).1]
    · have := hge c0 (List.mem_of_getElem? (d5 g2).1)
      have := (a4 g1).1
      omega
    · have := hge c0 (List.mem_of_getElem? (a5 g1).1)
      have := (d4 g2).1
      omega
    · have hkl : b1 - L < l.length := by
        rcases Nat.lt_or_ge (b1 - L) l.length with h9 | h9
        · exact h9
        · have := (a5 g1).1
          rw [List.getElem?_eq_none h9] at this; cases this
      have := (List.getElem?_inj hkl hnd).1 ((a5 g1).1.trans (d5 g2).1.symm)
      omega
  · intro b lb hb hl off
    obtain ⟨b0, l0, h2, h3, h4, _⟩ := hlive b lb hb hl
    rw [h4]
    exact h.xs b0 l0 h2 h3 off
  · intro b lb hb
    obtain ⟨l', h2, h3, h4⟩ := hs.le b lb hb
    have hlt : b < L := Nat.lt_of_lt_of_le (h0 b lb hb) hL
    rw [hold b hlt, h2]
    cases hq : renBlk L L ids ((H[b]?).getD .dead) with
    | dead => exact ⟨kill l', rfl, h3, fun hv => by simp [kill] at hv⟩
    | _ => exact ⟨l', rfl, h3, h4⟩
  · intro b lb hb hl
    obtain ⟨b0, l0, h2, h3, h4, _⟩ := hlive b lb hb hl
    rw [h4]
    exact hs.new b0 l0 h2 h3
  · rw [← hH']
    simp only [List.length_append, List.length_map, List.length_take]
    omega
  · intro b h1 h2
    have hb0 : b < H0.length := by
      obtain ⟨s, g, es, fz, hk⟩ := h1
      rcases Nat.lt_or_ge b H0.length with h9 | h9
      · exact h9
      · rw [List.getElem?_eq_none h9] at hk; cases hk
    obtain ⟨⟨s, g, es, fz, hk⟩, h4⟩ := hs.nb b h1 h2
    have hlt : b < L := Nat.lt_of_lt_of_le hb0 hL
    refine ⟨⟨s, g, _, fz, by rw [hHo b hlt, hk]; rfl⟩, ?_⟩
    rw [hold b hlt, h4, hk]
    rfl
  · exact (TRel_ren hren ht).mono (fun B o hb => ⟨him B o hb, rfl⟩) (Le.refl _)

end
end Go.Ai
