/-
  CONTROL.
-/
import Derived.Test.YtndloeajkfajnaaAiDrawC
set_option linter.unusedVariables false
set_option linter.unusedSimpArgs false
namespace Go.Ai
section
variable {C : Ctx} {X : Nat → Nat → Prop} {E E0 E1 : Env} {H H0 H1 : List Blk} {w w0 w1 : World}

theorem SR.rebase {st : St} {pv : AV} {a : Act} {px : Value} (h0 : Step X E0 H0 w0 E1 H1 w1) (h : SR X E1 H1 w1 st pv a w px) : SR X E0 H0 w0 st pv a w px := by
  obtain ⟨E, h1, h2, h3⟩ := h
  exact ⟨E, h1, h0.trans h2, h3⟩

theorem Post.rebase {r : Ex × St} {e : Exit} {a : Act} (h0 : Step X E0 H0 w0 E1 H1 w1) (h : Post X E1 H1 w1 r e a w) : Post X E0 H0 w0 r e a w := by
  obtain ⟨ex, st⟩ := r
  cases ex <;> simp only [Post] at h ⊢
  · exact ⟨h.1, h.2.rebase h0⟩
  · exact ⟨h.1, h.2.rebase h0⟩
  · exact ⟨h.1, h.2.rebase h0⟩
  · obtain ⟨x, h1, h2⟩ := h
    exact ⟨x, h1, h2.rebase h0⟩

def EOK (C : Ctx) (ex : Code → St → Option (Ex × St)) : Prop :=
  ∀ c st r, ex c st = some r → ∀ (X : Nat → Nat → Prop) (E0 : Env) (H0 : List Blk) (w0 : World) (a : Act) (w : World), SR X E0 H0 w0 st .undef a w Go.undef →
    c.wp C.P (fun e a' w' => Post X E0 H0 w0 r e a' w' ∧ Fr (writes c) a a') a w

theorem writes_region {id : Nat} {ops : Array Oper} {draw : Bool} (i : Nat) (o : Oper) (d : Tmp) (ho : ops[i]? = some o) (hd : o.dst = some d) : d ∈ writes (.region id ops draw) := by
  simp only [writes]
  rw [List.mem_filterMap]
  exact ⟨o, by simpa using Array.mem_of_getElem? ho, hd⟩

/-! ### loops -/

theorem least {p : Nat → Prop} : (∃ n, p n) → ∃ n, p n ∧ ∀ m, p m → n ≤ m := by
  rintro ⟨n, hn⟩
  induction n using Nat.strongRecOn with
  | _ n ih =>
    by_cases h : ∃ m, m < n ∧ p m
    · obtain ⟨m, h1, h2⟩ := h
      exact ih m h1 h2
    · refine ⟨n, hn, fun m hm => ?_⟩
      rcases Nat.lt_or_ge m n with h1 | h1
      · exact absurd ⟨m, h1, hm⟩ h
      · exact h1

theorem wp_loop_k {P : Program} {c : Code} {Q : Exit → Act → World → Prop} (J : Nat → Act → World → Prop)
    (round : ∀ k a w, J k a w → ∃ k', k = k' + 1 ∧ c.wp P (Exit.then (J k') Q) a w) {k : Nat} {a : Act} {w : World} (h : J k a w) : (Code.loop c).wp P Q a w := by
  classical
  refine wp_loop (fun a w => ∃ k, J k a w) (fun a w => if h : ∃ k, J k a w then (least h).choose else 0) ⟨k, h⟩ ?_
  intro a w hI
  obtain ⟨k', hk, hwp⟩ := round _ a w (least hI).choose_spec.1
  refine wp_mono hwp ?_
  intro e a' w' hq
  cases e <;> try exact hq
  have hJ : J k' a' w' := hq
  have hI' : ∃ k, J k a' w' := ⟨k', hJ⟩
  refine ⟨hI', ?_⟩
  simp only [dif_pos hI, dif_pos hI']
  have := (least hI').choose_spec.2 k' hJ
  omega

theorem getT_take (tmps : Tm) : ∀ (W : List Nat) (e : Tm) (t : Nat), getT (takeTm tmps W e) t = if t ∈ W then getT tmps t else getT e t
  | [], e, t => by simp [takeTm]
  | s :: W, e, t => by
    simp only [takeTm]
    rw [getT_cons, getT_take tmps W e t]
    by_cases h : s = t
    · subst h; simp
    · simp [h, Ne.symm h]

theorem carried_mem (tmps : Tm) : ∀ (ws acc : List Nat) (t : Nat), t ∉ carried tmps ws acc → t ∉ acc ∧ (t ∈ ws → isUndef (getT tmps t) = true)
  | [], acc, t, h => by simpa [carried] using h
  | s :: ws, acc, t, h => by
    simp only [carried] at h
    split at h
    · rename_i hc
      obtain ⟨h1, h2⟩ := carried_mem tmps ws acc t h
      refine ⟨h1, fun ht => ?_⟩
      rcases List.mem_cons.1 ht with rfl | ht
      · simp only [Bool.or_eq_true] at hc
        rcases hc with hc | hc
        · exact absurd (by simpa using hc) h1
        · exact hc
      · exact h2 ht
    · obtain ⟨h1, h2⟩ := carried_mem tmps ws (s :: acc) t h
      simp only [List.mem_cons, not_or] at h1
      refine ⟨h1.2, fun ht => ?_⟩
      rcases List.mem_cons.1 ht with rfl | ht
      · exact absurd rfl h1.1
      · exact h2 ht

theorem nrm_sound {b : Code} {st st' : St} {aL a : Act} (hH : HRel X E1 st.heap w1) (ht : TRel (Im X E1 st.heap w1) w1 E1 st.n st.tmps aL) (hs : SR X E1 st.heap w1 st' .undef a w Go.undef) (hf : Fr (writes b) aL a) :
    SR X E1 st.heap w1 (nrm (carried st.tmps (writes b) []) st st') .undef a w Go.undef := by
  obtain ⟨E, h1, h2, h3, h4, _⟩ := hs
  have ht' : TRel (Im X E st'.heap w) w E st'.n (takeTm st'.tmps (carried st.tmps (writes b) []) st.tmps) a := by
    refine ⟨h3.1, fun t => ?_⟩
    rw [getT_take]
    split
    · exact h3.2 t
    · rename_i hn
      obtain ⟨_, hc⟩ := carried_mem st.tmps (writes b) [] t hn
      by_cases hw : t ∈ writes b
      · have := hc hw
        have hu : getT st.tmps t = .undef := by
          cases hg : getT st.tmps t <;> rw [hg] at this <;> simp [isUndef] at this
        rw [hu]
        simp [V]
      · rw [hf t hw]
        exact h2.V (ht.2 t)
  have h0 : ∀ b l, E1 b = some l → b < st.heap.length := by
    intro b l hb
    obtain ⟨k, hk⟩ := hH.inDom hb
    rcases Nat.lt_or_ge b st.heap.length with h9 | h9
    · exact h9
    · rw [List.getElem?_eq_none h9] at hk; cases hk
  obtain ⟨E', g1, g2, g3, g4, g5, g6⟩ := compact_sound (ds := st'.defers) h1 h2 (L := st.heap.length) (Nat.le_refl _) h2.len h0 ht'
  unfold nrm
  refine ⟨E', g1, g2, ?_, ?_, by simp [V]⟩
  · rw [g5]; exact g3
  · rw [g4]
    by_cases hd : st'.defers = []
    · rw [hd] at h4 ⊢
      exact h4
    · obtain ⟨rfl, g8⟩ := g6 hd
      rw [g8]
      exact h4

theorem loop_sound {ex : Code → St → Option (Ex × St)} (hex : EOK C ex) {b : Code} {n : Nat} {st : St} {r : Ex × St} (hr : loopW (ex b) (nrmK (carried st.tmps (writes b) []) st) n st = some r)
    {a : Act} (hs : SR X E0 H0 w0 st .undef a w Go.undef) : (Code.loop b).wp C.P (fun e a' w' => Post X E0 H0 w0 r e a' w' ∧ Fr (writes b) a a') a w := by
  obtain ⟨E1, hH, hst, ht, hd, hu⟩ := hs
  refine wp_loop_k (fun k a' w' => ∃ st', loopW (ex b) (nrmK (carried st.tmps (writes b) []) st) k st' = some r ∧ SR X E1 st.heap w st' .undef a' w' Go.undef ∧ Fr (writes b) a a') ?_
    (k := n) ⟨st, hr, ⟨E1, hH, Step.refl, ht, hd, hu⟩, Fr.refl⟩
  rintro k a' w' ⟨st', hl, hs', hf⟩
  cases k with
  | zero => simp [loopW] at hl
  | succ k =>
    refine ⟨k, rfl, ?_⟩
    simp only [loopW] at hl
    split at hl
    · rename_i st2 he
      rw [nrmK_eq] at hl
      refine wp_mono (hex b st' _ he X E1 st.heap w a' w' hs') ?_
      rintro e a2 w2 ⟨hp, hf2⟩
      simp only [Post] at hp
      obtain ⟨rfl, hp⟩ := hp
      exact ⟨_, hl, nrm_sound hH ht hp (hf.trans hf2), hf.trans hf2⟩
    · rename_i hne
      refine wp_mono (hex b st' r hl X E1 st.heap w a' w' hs') ?_
      rintro e a2 w2 ⟨hp, hf2⟩
      have hq : Post X E0 H0 w0 r e a2 w2 ∧ Fr (writes b) a a2 := ⟨hp.rebase hst, hf.trans hf2⟩
      cases e <;> try exact hq
      exfalso
      obtain ⟨rx, rs⟩ := r
      cases rx
      · exact hne rs hl
      · simp only [Post] at hp; exact absurd hp.1 (by simp)
      · simp only [Post] at hp; exact absurd hp.1 (by simp)
      · simp only [Post] at hp; obtain ⟨_, h1, _⟩ := hp; cases h1

theorem execW_sound (hmix : C.P.follows .mixedOrders = true) {call : CallT} (hc : CallOK C.P call) (hp : ∀ f F, C.prims f = some F → PrimOK C.P f F)
    (hname : ∀ (f : FuncId) (fn : Func), C.P.funcs[f]? = some fn → fn.name ≠ "runtime.NumGoroutine") {ex : Code → St → Option (Ex × St)} (hex : EOK C ex) (n : Nat) : EOK C (execW C call ex n) := by
  intro c st r hr X E0 H0 w0 a w hs
  unfold execW at hr
  split at hr
  · cases hr
    exact wp_skip ⟨⟨rfl, hs⟩, Fr.refl⟩
  · cases hr
    exact wp_label ⟨⟨rfl, hs⟩, Fr.refl⟩
  · rename_i id ops draw
    unfold regionW at hr
    split at hr
    · rename_i hdr
      subst hdr
      exact drawW_sound hmix hc hp hname writes_region hr hs Fr.refl
    · rename_i hdr
      have : draw = false := by simpa using hdr
      subst this
      exact wp_region (runList_sound hc hp hname writes_region _ st r hr a w hs Fr.refl)
  · rename_i x y
    refine wp_seq ?_
    split at hr
    · rename_i st1 h1
      refine wp_mono (hex x st _ h1 X E0 H0 w0 a w hs) ?_
      rintro e a1 w1 ⟨hp1, hf1⟩
      simp only [Post] at hp1
      obtain ⟨rfl, hp1⟩ := hp1
      refine wp_mono (hex y st1 r hr X E0 H0 w0 a1 w1 hp1) ?_
      rintro e a2 w2 ⟨hp2, hf2⟩
      exact ⟨hp2, (hf1.sub fun t ht => by simp [writes, ht]).trans (hf2.sub fun t ht => by simp [writes, ht])⟩
    · rename_i hne
      refine wp_mono (hex x st r hr X E0 H0 w0 a w hs) ?_
      rintro e a1 w1 ⟨hp1, hf1⟩
      have hq : Post X E0 H0 w0 r e a1 w1 ∧ Fr (writes (.seq x y)) a a1 := ⟨hp1, hf1.sub fun t ht => by simp [writes, ht]⟩
      cases e <;> try exact hq
      exfalso
      obtain ⟨rx, rs⟩ := r
      cases rx
      · exact hne rs hr
      · simp only [Post] at hp1; exact absurd hp1.1 (by simp)
      · simp only [Post] at hp1; exact absurd hp1.1 (by simp)
      · simp only [Post] at hp1; obtain ⟨_, h1, _⟩ := hp1; cases h1
  · rename_i cnd x y
    have ht : ∃ E, TRel (Im X E st.heap w) w E st.n st.tmps a := by
      obtain ⟨E, _, _, ht, _⟩ := hs
      exact ⟨E, ht⟩
    obtain ⟨E, ht⟩ := ht
    split at hr
    · rename_i hc1
      have := ev_sound ht hc1
      simp only [V] at this
      refine wp_cond_true this (wp_mono (hex x st r hr X E0 H0 w0 a w hs) ?_)
      rintro e a1 w1 ⟨hp1, hf1⟩
      exact ⟨hp1, hf1.sub fun t ht => by simp [writes, ht]⟩
    · rename_i hc1
      have := ev_sound ht hc1
      simp only [V] at this
      refine wp_cond_false this (wp_mono (hex y st r hr X E0 H0 w0 a w hs) ?_)
      rintro e a1 w1 ⟨hp1, hf1⟩
      exact ⟨hp1, hf1.sub fun t ht => by simp [writes, ht]⟩
    · cases hr
  · rename_i id b
    refine wp_block ?_
    split at hr
    · rename_i j st1 h1
      refine wp_mono (hex b st _ h1 X E0 H0 w0 a w hs) ?_
      rintro e a1 w1 ⟨hp1, hf1⟩
      simp only [Post] at hp1
      obtain ⟨rfl, hp1⟩ := hp1
      simp only [Exit.inBlock]
      split at hr
      · rename_i hj
        cases hr
        rw [if_pos hj]
        exact ⟨⟨rfl, hp1⟩, hf1⟩
      · rename_i hj
        cases hr
        rw [if_neg hj]
        exact ⟨⟨rfl, hp1⟩, hf1⟩
    · rename_i hne
      refine wp_mono (hex b st r hr X E0 H0 w0 a w hs) ?_
      rintro e a1 w1 ⟨hp1, hf1⟩
      have hq : Post X E0 H0 w0 r e a1 w1 ∧ Fr (writes (.block id b)) a a1 := ⟨hp1, hf1⟩
      cases e <;> try exact hq
      exfalso
      obtain ⟨rx, rs⟩ := r
      cases rx
      · simp only [Post] at hp1; exact absurd hp1.1 (by simp)
      · exact hne _ rs hr
      · simp only [Post] at hp1; exact absurd hp1.1 (by simp)
      · simp only [Post] at hp1; obtain ⟨_, h1, _⟩ := hp1; cases h1
  · rename_i b
    exact loop_sound hex hr hs
  · rename_i b
    refine wp_scope_straight (wp_mono (hex b st r hr X E0 H0 w0 a w hs) ?_)
    rintro e a1 w1 ⟨hp1, hf1⟩
    have hq : Post X E0 H0 w0 r e a1 w1 ∧ Fr (writes (.scope b)) a a1 := ⟨hp1, hf1⟩
    cases e <;> try exact hq
    obtain ⟨rx, rs⟩ := r
    cases rx
    · simp only [Post] at hp1; exact absurd hp1.1 (by simp)
    · simp only [Post] at hp1; exact absurd hp1.1 (by simp)
    · simp only [Post] at hp1; exact absurd hp1.1 (by simp)
    · simp only [Post] at hp1; obtain ⟨_, h1, _⟩ := hp1; cases h1
  · cases hr
    exact wp_exit ⟨⟨rfl, hs⟩, Fr.refl⟩
  · cases hr
    exact wp_ret ⟨⟨rfl, hs⟩, Fr.refl⟩
  · cases hr

end
end Go.Ai
