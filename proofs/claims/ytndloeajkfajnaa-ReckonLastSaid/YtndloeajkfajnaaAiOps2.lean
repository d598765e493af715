/-
  PLACES: fields, elements, parts of slices.
-/
import Derived.Test.YtndloeajkfajnaaAiLit
import Derived.Laws.BytesString
set_option linter.unusedVariables false
set_option linter.unusedSimpArgs false
namespace Go.Ai
section
variable {P : Program} {X : Nat → Nat → Prop} {E : Env} {H : List Blk} {w : World} {im : Nat → Nat → Prop}

theorem fieldT_some {s f : Nat} {fd : Field} (h : fieldT P s f = some fd) : ∃ fs, P.underlying s = some (.struct fs) ∧ fs[f]? = some fd := by
  unfold fieldT at h
  split at h
  · rename_i fs hu; exact ⟨fs, hu, h⟩
  · cases h

theorem fieldAddrA_sound {s f : Nat} {a v : AV} {x : Value} (ha : V im w a E x) (hv : fieldAddrA P s a f = some v) : ∃ y, (Instr.fieldAt s x f).run P w = .ok y w ∧ V im w v E y := by
  unfold fieldAddrA at hv
  split at hv
  case h_2 => cases hv
  rename_i fd hf
  obtain ⟨fs, hu, hfd⟩ := fieldT_some hf
  split at hv
  case h_2 => cases hv
  rename_i n hn
  have hrun : ∀ p : Addr, (Instr.fieldAt s (.pointer (some p)) f).run P w = .ok (.pointer (some (p.add fd.offset))) w := by
    intro p
    simp [Instr.fieldAt, run_underlying hu, hfd, Instr.sureAddr, fieldPlace, run_sizeOf hn]
  split at hv
  · rename_i b g i off
    cases hv
    simp only [V] at ha ⊢
    obtain ⟨l, p, hE, hg, rfl, hp⟩ := ha
    refine ⟨_, hrun p, l, _, hE, hg, rfl, fun h1 h2 => ?_⟩
    rw [hp h1 h2, addr_add]
    simp [Nat.add_assoc]
  · rename_i row off
    cases hv
    simp only [V] at ha ⊢
    obtain ⟨B, o, rfl, hr⟩ := ha
    exact ⟨_, hrun _, B, o, by rw [addr_add]; simp [Nat.add_assoc], hr⟩
  · cases hv

theorem partA_sound {t off : Nat} {row : List AV} {vs : Array Value} {v : AV} (hr : VL im w row E vs.toList) (hv : takeT P t row off = some v) :
    ∃ y, (part t vs off).run P w = .ok y w ∧ V im w v E y := by
  unfold takeT at hv
  split at hv
  · rename_i n ha hn
    split at hv
    · rename_i hle
      cases hv
      refine ⟨.agg (vs.extract off (off + n)), by simp [part, run_isAgg ha, run_sizeOf hn], ?_⟩
      simp only [V]
      refine ⟨_, rfl, ?_⟩
      have : (vs.extract off (off + n)).toList = (vs.toList.drop off).take n := by
        rw [Array.toList_extract]
        simp [List.extract]
      rw [this]
      exact VL_take (VL_drop hr off) n
    · cases hv
  · rename_i ha hn
    obtain ⟨y, hy, hyv⟩ := VL_get hr hv
    rw [Array.getElem?_toList] at hy
    exact ⟨y, by simp [part, run_isAgg ha, hy], hyv⟩
  · cases hv

theorem fieldA_sound {s f : Nat} {a v : AV} {x : Value} (ha : V im w a E x) (hv : fieldA P s a f = some v) : ∃ y, (Instr.field s x f).run P w = .ok y w ∧ V im w v E y := by
  unfold fieldA at hv
  split at hv
  case h_2 => cases hv
  rename_i fd cs hf hcs
  obtain ⟨fs, hu, hfd⟩ := fieldT_some hf
  obtain ⟨hvl, _⟩ := V_cells hcs ha
  have key : ∀ vs : Array Value, x = .agg vs → takeT P fd.type cs fd.offset = some v → ∃ y, (Instr.field s x f).run P w = .ok y w ∧ V im w v E y := by
    rintro vs rfl ht
    obtain ⟨y, h1, h2⟩ := partA_sound (P := P) (vs := vs) (by simpa [Value.cells] using hvl) ht
    exact ⟨y, by simp [Instr.field, run_underlying hu, hfd, asAgg, h1], h2⟩
  split at hv
  · simp only [V] at ha
    obtain ⟨vs, rfl, _⟩ := ha
    exact key vs rfl hv
  · simp only [V] at ha
    exact key _ ha hv
  · cases hv

theorem indexAddrA_sound (h : HRel X E H w) {t : Nat} {a ix v : AV} {x i : Value} (ha : V (Im X E H w) w a E x) (hi : V (Im X E H w) w ix E i) (hv : indexAddrA P H t a ix = some v) :
    ∃ y, (Instr.indexAt t x i).run P w = .ok y w ∧ V (Im X E H w) w v E y := by
  unfold indexAddrA at hv
  split at hv
  case h_2 => cases hv
  rename_i k n
  simp only [V] at hi
  subst hi
  split at hv
  · cases hv
  rename_i hn
  have hn0 : 0 ≤ n := by omega
  split at hv
  · rename_i elem ht
    split at hv
    case h_2 => cases hv
    rename_i size hsz
    have hrun : ∀ (p : Addr) (len c : Nat), n.toNat < len → (Instr.indexAt t (.slice (some p) len c) (.int k n)).run P w = .ok (.pointer (some (p.add (n.toNat * size)))) w := by
      intro p len c hlt
      have hc : 0 ≤ n ∧ n < (len : Int) := ⟨hn0, by omega⟩
      simp [Instr.indexAt, asIntOf, run_underlying ht, run_sizeOf hsz, hc]
    split at hv
    · rename_i sz es cap
      split at hv
      case isFalse => cases hv
      rename_i hs
      subst hs
      simp only [Option.map_eq_some_iff] at hv
      obtain ⟨row, hr, rfl⟩ := hv
      simp only [V] at ha ⊢
      obtain ⟨p, c, rfl, h1, h2, h3, h4⟩ := ha
      have hlt : n.toNat < es.length := by
        rcases Nat.lt_or_ge n.toNat es.length with h9 | h9
        · exact h9
        · rw [List.getElem?_eq_none h9] at hr; cases hr
      have hsp : p = ⟨p.block, p.off, none⟩ := by
        have := h3 (by rintro rfl; simp at hlt)
        cases p
        simp at this
        simp [this]
      refine ⟨_, hrun p _ c hlt, p.block, p.off + n.toNat * sz, ?_, (VRR_get h4 hr).2⟩
      rw [hsp, addr_add]
      simp
    · rename_i b g start len cap
      split at hv
      case h_2 => cases hv
      rename_i sz g' es fz hk
      split at hv
      case isFalse => cases hv
      rename_i hq
      obtain ⟨rfl, rfl, hlt, hle⟩ := hq
      cases hv
      obtain ⟨l, C, t0, hE, hl, hg, hs, hK, hh, hC, hR⟩ := h.own hk (V_sl_has ha)
      obtain ⟨p, c, rfl, hlc, hp, _, _⟩ := V_slice_ok ha hE hl hg
      refine ⟨_, hrun p _ c hlt, ?_⟩
      have hp2 : p = ⟨l.B, l.o + start * l.size, none⟩ := by
        rcases hp with h0 | h0
        · omega
        · exact h0
      simp only [V]
      refine ⟨l, _, hE, by omega, rfl, fun _ _ => ?_⟩
      rw [hp2, addr_add, hs, Nat.add_mul]
      simp [Nat.add_assoc]
    · cases hv
  · rename_i m elem ht
    split at hv
    case h_2 => cases hv
    rename_i size hsz
    split at hv
    case isFalse => cases hv
    rename_i hlt
    have hrun : ∀ p : Addr, (Instr.indexAt t (.pointer (some p)) (.int k n)).run P w = .ok (.pointer (some (p.add (n.toNat * size)))) w := by
      intro p
      have hc : 0 ≤ n ∧ n < (m : Int) := ⟨hn0, by omega⟩
      simp [Instr.indexAt, asIntOf, run_underlying ht, run_sizeOf hsz, hc, Instr.sureAddr]
    split at hv
    · rename_i b g j off
      cases hv
      simp only [V] at ha ⊢
      obtain ⟨l, p, hE, hg, rfl, hp⟩ := ha
      refine ⟨_, hrun p, l, _, hE, hg, rfl, fun h1 h2 => ?_⟩
      rw [hp h1 h2, addr_add]
      simp [Nat.add_assoc]
    · rename_i row off
      cases hv
      simp only [V] at ha ⊢
      obtain ⟨B, o, rfl, hr⟩ := ha
      exact ⟨_, hrun _, B, o, by rw [addr_add]; simp [Nat.add_assoc], hr⟩
    · cases hv
  · cases hv

end
end Go.Ai
