import Derived.Test.YtndloeajkfajnaaAiOps3
set_option linter.unusedVariables false
set_option linter.unusedSimpArgs false
namespace Go.Ai
section
variable {P : Program} {X : Nat → Nat → Prop} {E : Env} {H : List Blk} {w : World} {im : Nat → Nat → Prop}

theorem VO_conc {lo : Option AV} {lv l : Option Value} (h : VO im w E lo lv) (hc : lo.mapM conc = some l) : lv = l := by
  cases lo with
  | none =>
    cases lv with
    | none => simp at hc; exact hc
    | some v => exact h.elim
  | some a =>
    cases lv with
    | none => exact h.elim
    | some v =>
      simp only [Option.mapM_some, Option.map_eq_map, Option.map_eq_some_iff] at hc
      obtain ⟨u, hu, rfl⟩ := hc
      rw [V_conc hu h]

theorem sliceAt_other {t : TypeId} {x : Value} {lo hi mx : Option Value} {d : TypeDesc} (ht : P.underlying t = some d) (hd : ∀ n e, d ≠ .array n e) :
    (Instr.sliceAt t x lo hi mx).run P w = (Instr.slice t x lo hi mx).run P w := by
  unfold Instr.sliceAt
  rw [Sem.run_bind, run_underlying ht, Result.andThen_ok]
  split
  · rename_i n e
    exact (hd n e rfl).elim
  · rfl

theorem chunks_get (size : Nat) : ∀ (n : Nat) (cs : List AV) (i : Nat), i < n → (chunks size n cs)[i]? = some ((cs.drop (i * size)).take size)
  | 0, _, _, h => by omega
  | n + 1, cs, 0, _ => by simp [chunks]
  | n + 1, cs, i + 1, h => by
    simp only [chunks, List.getElem?_cons_succ]
    rw [chunks_get size n (cs.drop size) i (by omega), List.drop_drop, Nat.add_mul]
    congr 3
    omega

theorem chunks_length (size : Nat) : ∀ (n : Nat) (cs : List AV), (chunks size n cs).length = n
  | 0, _ => rfl
  | n + 1, cs => by simp [chunks, chunks_length]

theorem sliceA_sound (h : HRel X E H w) {t : Nat} {a v : AV} {x : Value} {lo hi mx : Option AV} {lv hv mv : Option Value} {H' : List Blk} (ha : V (Im X E H w) w a E x)
    (h1 : VO (Im X E H w) w E lo lv) (h2 : VO (Im X E H w) w E hi hv) (h3 : VO (Im X E H w) w E mx mv) (hs : sliceA P H t a lo hi mx = some (v, H')) :
    ∃ y w', (Instr.sliceAt t x lv hv mv).run P w = .ok y w' ∧ Good X E H w v H' y w' := by
  unfold sliceA at hs
  split at hs
  · -- a text
    rename_i s ht
    simp only [V] at ha
    subst ha
    split at hs
    · rename_i l r hl hr
      simp only [Option.map_eq_some_iff] at hs
      obtain ⟨u, hu, he⟩ := hs
      cases he
      have e1 := VO_conc h1 hl
      have e2 := VO_conc h2 hr
      subst e1; subst e2
      cases mv with
      | some m => exact h3.elim
      | none => exact ⟨u, w, pureRun_run P _ _ hu w, Good.here h (V_absV E u)⟩
    · cases hs
  · -- nil
    rename_i elem ht
    simp only [V] at ha
    subst ha
    split at hs
    · rename_i n r hn hb
      cases hs
      obtain ⟨l, r, c⟩ := r
      obtain ⟨m, hr, h4, h5, h6, h7, _⟩ := boundsA_sound (P := P) hb (cc := 0) (Nat.le_refl _) h1 h2 h3 true
      have : l = 0 := by omega
      have : r = 0 := by omega
      have : m = 0 := by omega
      subst_vars
      refine ⟨.slice none 0 0, w, ?_, Good.here h (by simp [V])⟩
      rw [sliceAt_other ht (by simp)]
      simp [Instr.slice, run_underlying ht, hr, run_sizeOf hn]
    · cases hs
  · -- written no more
    rename_i elem size es cap ht
    split at hs
    case h_2 => cases hs
    rename_i sz l r c hsz hb
    split at hs
    case isFalse => cases hs
    rename_i e
    subst e
    cases hs
    simp only [V] at ha
    obtain ⟨p, cc, rfl, g1, g2, g3, g4⟩ := ha
    obtain ⟨m, hr, h4, h5, h6, h7, h8, h9⟩ := boundsA_sound (P := P) hb g1 h1 h2 h3 true
    refine ⟨_, w, by rw [sliceAt_other ht (by simp)]; simp [Instr.slice, run_underlying ht, hr, run_sizeOf hsz]; rfl, Good.here h ?_⟩
    have hlen : ((es.drop l).take (r - l)).length = r - l := by simp; omega
    have hsome : ∃ q : Addr, (if m = l then some p else some (p.add (l * sz))) = some q ∧ (l < r → q = p.add (l * sz)) := by
      by_cases e : m = l
      · exact ⟨p, by rw [if_pos e], fun h => by omega⟩
      · exact ⟨_, by rw [if_neg e], fun _ => rfl⟩
    obtain ⟨q, hq, hq2⟩ := hsome
    simp only [V]
    refine ⟨q, m - l, by rw [hlen, hq], by rw [hlen]; omega, fun k hk => ?_, fun hne => ?_, ?_⟩
    · cases mx with
      | none =>
        obtain ⟨e1, e2⟩ := h8 rfl
        rw [e2] at hk
        cases cap with
        | none => simp at hk
        | some c0 =>
          simp at hk
          have := g2 c0 rfl
          omega
      | some mm =>
        obtain ⟨e1, _⟩ := h9 rfl
        rw [e1] at hk
        cases hk
        rfl
    · have hlt : l < r := by
        rcases Nat.lt_or_ge l r with h9 | h9
        · exact h9
        · exact absurd (List.length_eq_zero_iff.1 (by rw [hlen]; omega)) hne
      have hsp := g3 (by rintro rfl; simp at hne)
      rw [hq2 hlt]
      unfold Addr.add
      split
      · exact hsp
      · rfl
    · by_cases hlt : l < r
      · have hsp := g3 (by rintro rfl; simp at hlen; omega)
        have hp : p = ⟨p.block, p.off, none⟩ := by cases p; simp at hsp; simp [hsp]
        have hqe : q = ⟨p.block, p.off + l * sz, none⟩ := by rw [hq2 hlt, hp, addr_add]
        rw [hqe]
        refine VRR_of_get fun i row hi => ?_
        rw [List.getElem?_take] at hi
        split at hi
        · rw [List.getElem?_drop] at hi
          have := VRR_get g4 hi
          rw [show p.off + l * sz + i * sz = p.off + (l + i) * sz from by rw [Nat.add_mul]; omega]
          exact this
        · cases hi
      · have : (es.drop l).take (r - l) = [] := List.length_eq_zero_iff.1 (by rw [hlen]; omega)
        rw [this]
        simp [VRR]
  · -- an own one
    rename_i elem b g start len cap ht
    split at hs
    case h_2 => cases hs
    rename_i sz l r c size g' es fz hsz hb hk
    split at hs
    case isFalse => cases hs
    rename_i hq
    obtain ⟨rfl, rfl, hle⟩ := hq
    cases hs
    obtain ⟨L, C, t0, hE, hl, hg, hs2, hK, hh, hC, hR⟩ := h.own hk (V_sl_has ha)
    obtain ⟨p, cc, rfl, hlc, hp, hcn, hcs⟩ := V_slice_ok ha hE hl hg
    obtain ⟨m, hr, h4, h5, h6, h7, h8, h9⟩ := boundsA_sound (P := P) hb hlc h1 h2 h3 true
    refine ⟨_, w, by rw [sliceAt_other ht (by simp)]; simp [Instr.slice, run_underlying ht, hr, run_sizeOf hsz]; rfl, Good.here h ?_⟩
    have hsome : ∃ q : Addr, (if m = l then some p else some (p.add (l * sz))) = some q ∧ (l < m → q = p.add (l * sz)) := by
      by_cases e : m = l
      · exact ⟨p, by rw [if_pos e], fun h => by omega⟩
      · exact ⟨_, by rw [if_neg e], fun _ => rfl⟩
    obtain ⟨q, hq, hq2⟩ := hsome
    simp only [V]
    refine ⟨L, q, m - l, hE, by omega, by rw [hq], fun _ _ => ⟨by omega, ?_, ?_⟩⟩
    · by_cases hlt : l < m
      · right
        rw [hq2 hlt]
        rcases hp with h0 | h0
        · omega
        · rw [h0, addr_add, hs2, Nat.add_mul]
          simp [Nat.add_assoc]
      · left; omega
    · cases mx with
      | none =>
        obtain ⟨e1, e2⟩ := h8 rfl
        subst e2
        cases cap with
        | none =>
          have := hcn rfl
          simp
          omega
        | some c0 =>
          have := hcs c0 rfl
          simp
          omega
      | some mm =>
        obtain ⟨e1, _⟩ := h9 rfl
        subst e1
        rfl
  · -- an array
    rename_i n elem b g i off ht
    split at hs
    case h_2 => cases hs
    rename_i size l r c bs g' es fz hsz hb hk
    split at hs
    case h_2 => cases hs
    rename_i row hrow
    simp only at hs
    split at hs
    case isFalse => cases hs
    rename_i hq
    obtain ⟨rfl, hs0, hfit, hd⟩ := hq
    cases hs
    obtain ⟨L, C, t0, hE, hl, hg, hs2, hK, hh, hC, hR⟩ := h.own hk (V_ptr_has ha)
    simp only [V] at ha
    obtain ⟨L', p, hE', _, rfl, hp⟩ := ha
    rw [hE] at hE'
    cases hE'
    have hp := hp hl hg
    obtain ⟨m, hr, h4, h5, h6, h7, h8, h9⟩ := boundsA_sound (P := P) hb (cc := n) (Nat.le_refl _) h1 h2 h3 false
    have hrun : (Instr.sliceAt t (.pointer (some p)) lv hv mv).run P w = .ok (.slice (some (if m = l then p else p.add (l * size))) (r - l) (m - l)) w := by
      unfold Instr.sliceAt
      simp [run_underlying ht, Instr.sureAddr, hr, run_sizeOf hsz]
    obtain ⟨hm, hms⟩ := h.markOne b
    refine ⟨_, w, hrun, E, hm, hms, ?_⟩
    have hz := zone_mark h [b]
    simp only [V]
    refine ⟨_, _, by rw [chunks_length], by rw [chunks_length]; omega, fun k hk => (by cases hk), fun hne => ?_, ?_⟩
    · have : l < r := by
        rcases Nat.lt_or_ge l r with h9 | h9
        · exact h9
        · exact absurd (List.length_eq_zero_iff.1 (by rw [chunks_length]; omega)) hne
      rw [if_neg (by omega), hp, addr_add]
    · by_cases hlt : l < r
      · rw [if_neg (by omega), hp, addr_add]
        refine VRR_of_get fun k rw' hk' => ?_
        have hkl : k < r - l := by
          rcases Nat.lt_or_ge k (chunks size (r - l) ((row.drop (off + l * size)).take ((r - l) * size))).length with h9 | h9
          · rw [chunks_length] at h9; exact h9
          · rw [List.getElem?_eq_none h9] at hk'; cases hk'
        rw [chunks_get _ _ _ _ hkl] at hk'
        cases hk'
        have h10 : (k + 1) * size ≤ (r - l) * size := Nat.mul_le_mul_right _ hkl
        have h11 : r * size ≤ n * size := Nat.mul_le_mul_right _ h5
        have h12 : (r - l) * size + l * size = r * size := by rw [← Nat.add_mul]; congr 1; omega
        rw [Nat.add_mul] at h10
        refine ⟨by simp; omega, VR_of_get fun j d hj => ?_⟩
        rw [List.getElem?_take] at hj
        split at hj
        case isFalse => cases hj
        rename_i hjs
        rw [List.getElem?_drop, List.getElem?_take] at hj
        split at hj
        case isFalse => cases hj
        rw [List.getElem?_drop] at hj
        obtain ⟨h13, h14⟩ := hR i row hrow
        obtain ⟨y, hy, hy1, hyv⟩ := h14 _ d hj
        have hil : i < es.length := by
          rcases Nat.lt_or_ge i es.length with h9 | h9
          · exact h9
          · rw [List.getElem?_eq_none h9] at hrow; cases hrow
        have h15 : (i + 1) * bs ≤ es.length * bs := Nat.mul_le_mul_right _ hil
        rw [Nat.add_mul] at h15
        have hoff : L.o + i * L.size + off + l * size + k * size + j = L.o + i * bs + (off + l * size + (k * size + j)) := by rw [hs2]; omega
        show Im X E (markOne H b) w L.B (L.o + i * L.size + off + l * size + k * size + j) ∧ ∃ x, w.cell? ⟨L.B, L.o + i * L.size + off + l * size + k * size + j, none⟩ = some x ∧ _
        rw [hoff]
        refine ⟨hz b (by simp) L bs g es fz hE hl hk _ (by omega), y, by simp [World.cell?, hh, hy], hy1, ?_⟩
        have hdd : isData d = true := isDataL_get hd (i := k * size + j) (by
          rw [List.getElem?_take, if_pos (by omega), List.getElem?_drop]
          rw [← hj])
        exact V_mono hms.im d (Le.refl _) (V_data (E' := noE) hdd hyv)
      · have : chunks size (r - l) ((row.drop (off + l * size)).take ((r - l) * size)) = [] := List.length_eq_zero_iff.1 (by rw [chunks_length]; omega)
        rw [this]
        simp [VRR]
  · cases hs

end
end Go.Ai
