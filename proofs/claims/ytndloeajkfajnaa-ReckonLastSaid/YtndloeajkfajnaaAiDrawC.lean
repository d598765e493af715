/-
  A REGION WHOSE ORDER IS DRAWN, whole.
-/
import Derived.Test.YtndloeajkfajnaaAiDraw
set_option linter.unusedVariables false
set_option linter.unusedSimpArgs false
namespace Go.Ai
section
variable {C : Ctx} {call : CallT} {ops : Array Oper} {n : Nat} {t0 : Tm} {Hb bs : List Blk} {S : Nat → TS} {res : Nat → DRes}
variable {X : Nat → Nat → Prop} {E E0 : Env} {H H0 : List Blk} {w w0 : World} {ds : List (FuncId × List AV)} {L : Nat → Bool}

theorem drawOp_after {Bi : Nat} {q k : Nat} {sp : Moved} {fl : Seen} {tmps : Tm} {H : List Blk} {o : Oper} {r : DRes} (h : drawOp C call ops Bi (some q) k sp fl tmps H o = some r) : r = .dead ∨ ∃ v T, r = .val v T := by
  unfold drawOp at h
  simp only at h
  split at h
  · cases h; exact .inl rfl
  · right
    split at h
    · cases h
    · cases h; exact ⟨_, _, rfl⟩
    · split at h
      · split at h
        · cases h; exact ⟨_, _, rfl⟩
        · cases h
      · split at h
        · cases h; exact ⟨_, _, rfl⟩
        · cases h
      · split at h
        · split at h
          · split at h
            · cases h; exact ⟨_, _, rfl⟩
            · cases h
          · cases h
        · cases h
      · split at h
        · split at h
          · split at h
            · cases h; exact ⟨_, _, rfl⟩
            · cases h
          · cases h
        · cases h
      · cases h

theorem Dr.pan_one (h : Dr C call ops n t0 Hb bs S res) {i j : Nat} {v v' : AV} {H H' : List Blk} (hj : j < ops.size) (hi : res i = .pan v H) (hr : res j = .pan v' H') : ¬ i < j := by
  intro hij
  obtain ⟨o, ho, hd, hn⟩ := h.at1 j hj
  obtain ⟨_, hp2⟩ := h.pan j (by omega)
  cases hpj : (S j).pan with
  | none => exact hp2 hpj i v H hij hi
  | some q =>
    rw [hr, hpj] at hd
    rcases drawOp_after hd with h1 | ⟨_, _, h1⟩ <;> cases h1

theorem undefs_get : ∀ (os : List Oper) (t : Nat), ((∃ o ∈ os, o.dst = some t) → getT (undefs os t0) t = .undef) ∧ ((∀ o ∈ os, o.dst ≠ some t) → getT (undefs os t0) t = getT t0 t)
  | [], t => by simp [undefs]
  | o :: os, t => by
    obtain ⟨h1, h2⟩ := undefs_get os t
    cases hd : o.dst with
    | none =>
      simp only [undefs, hd]
      refine ⟨?_, ?_⟩
      · rintro ⟨o', ho', hd'⟩
        refine h1 ⟨o', ?_, hd'⟩
        rcases List.mem_cons.1 ho' with rfl | h3
        · rw [hd] at hd'; cases hd'
        · exact h3
      · intro h3
        exact h2 fun o' ho' => h3 o' (by simp [ho'])
    | some d =>
      simp only [undefs, hd]
      rw [getT_cons]
      by_cases e : d = t
      · subst e
        refine ⟨fun _ => by simp, fun h3 => absurd hd (h3 o (by simp))⟩
      · rw [if_neg e]
        refine ⟨?_, ?_⟩
        · rintro ⟨o', ho', hd'⟩
          refine h1 ⟨o', ?_, hd'⟩
          rcases List.mem_cons.1 ho' with rfl | h3
          · rw [hd] at hd'; cases hd'; exact absurd rfl e
          · exact h3
        · intro h3
          exact h2 fun o' ho' => h3 o' (by simp [ho'])

/-- How a drawn region ends. -/
def endD (n : Nat) (ops : Array Oper) (t0 : Tm) (ds : List (FuncId × List AV)) (s : TS) : Ex × St :=
  match s.pan with
  | none => (.normal, ⟨n, s.tmps, s.heap, ds⟩)
  | some (_, v, H) => (.pan v, ⟨n, undefs ops.toList t0, H, ds⟩)

theorem Dr.any_sound (h : Dr C call ops n t0 Hb bs S res) (hc : CallOK C.P call) (hp : ∀ f F, C.prims f = some F → PrimOK C.P f F)
    (hname : ∀ (f : FuncId) (fn : Func), C.P.funcs[f]? = some fn → fn.name ≠ "runtime.NumGoroutine") (hb0 : H0.length ≤ Hb.length) {W : List Nat}
    (hW : ∀ (i : Nat) (o : Oper) (d : Tmp), ops[i]? = some o → o.dst = some d → d ∈ W) {a0 : Act} : ∀ (fuel : Nat) (listed : Array Bool) (l : List Nat) (a : Act) (w : World), l.length ≤ fuel →
      (∀ i, i < ops.size → listed.getD i false = false → i ∈ l) → listed.size = ops.size → Shut ops res (fun i => listed.getD i false) → Inv ops n t0 S res X E0 H0 w0 ds (fun i => listed.getD i false) a w → Fr W a0 a →
      wpAny C.P .any ops (fun e a' w' => Post X E0 H0 w0 (endD n ops t0 ds (S ops.size)) e a' w' ∧ Fr W a0 a') fuel listed a w := by
  have fin : ∀ (listed : Array Bool) (a : Act) (w : World), (∀ i, i < ops.size → listed.getD i false = true) → Shut ops res (fun i => listed.getD i false) → Inv ops n t0 S res X E0 H0 w0 ds (fun i => listed.getD i false) a w → Fr W a0 a →
      Post X E0 H0 w0 (endD n ops t0 ds (S ops.size)) .normal a w ∧ Fr W a0 a := by
    intro listed a w hall hS hI hf
    refine ⟨?_, hf⟩
    obtain ⟨hp1, hp2⟩ := h.pan ops.size (Nat.le_refl _)
    unfold endD
    split
    · rename_i hpn
      obtain ⟨E, m, hH, hm, hL, hst, ht, hd, hal⟩ := hI
      have hheap : (S ops.size).heap = (S m).heap := h.heap_same ops.size hm (Nat.le_refl _) fun i h1 h2 v H D hi => by
        have := (hL i v H D h2 hi).1 (hall i h2)
        omega
      refine ⟨rfl, E, ?_⟩
      simp only
      rw [hheap]
      refine ⟨hH, hst, ht.congr fun t => ?_, hd, by simp [V]⟩
      rw [h.tmps ops.size (Nat.le_refl _)]
      exact tmL_congr _ fun i hi _ => by rw [hS.pt i (hall i hi), hall i hi]
    · rename_i j v H hpn
      obtain ⟨h1, h2⟩ := hp1 j v H hpn
      have := hS.pt j (hall j h1)
      simp [Pt, h2] at this
  have allOf : ∀ (listed : Array Bool), listed.size = ops.size → Region.ready .any ops listed = [] → ∀ i, i < ops.size → listed.getD i false = true := by
    intro listed hsz hr i
    induction i using Nat.strongRecOn with
    | _ i ih =>
      intro hi
      cases hli : listed.getD i false with
      | true => rfl
      | false =>
        exfalso
        obtain ⟨o, ho⟩ := size_get hi
        have : i ∈ Region.ready .any ops listed := by
          rw [mem_ready]
          refine ⟨?_, o, ho, fun e he hb => ?_⟩
          · rw [Array.getD_eq_getD_getElem?] at hli ⊢
            have : i < listed.size := by omega
            simp [this] at hli ⊢
            exact hli
          · have hlt := edgesOK_spec h.edges i o (by simpa using ho) e (by simpa using he) hb
            exact ih e.on (by omega) (by omega)
        rw [hr] at this
        cases this
  intro fuel
  induction fuel with
  | zero =>
    intro listed l a w hl hin hsz hS hI hf
    have hl0 : l = [] := by cases l with | nil => rfl | cons x xs => simp at hl
    subst hl0
    have hall : ∀ i, i < ops.size → listed.getD i false = true := by
      intro i hi
      cases hli : listed.getD i false with
      | true => rfl
      | false => have := hin i hi hli; cases this
    refine ⟨?_, fin listed a w hall hS hI hf⟩
    cases hr : Region.ready .any ops listed with
    | nil => rfl
    | cons j js =>
      exfalso
      have hj : j ∈ Region.ready .any ops listed := by rw [hr]; simp
      obtain ⟨h1, o, ho, _⟩ := mem_ready.1 hj
      have hjs : j < ops.size := (Array.getElem?_eq_some_iff.1 ho).1
      have h2 := hall j hjs
      rw [Array.getD_eq_getD_getElem?] at h1 h2
      have : j < listed.size := by omega
      simp [this] at h1 h2
      rw [h1] at h2
      cases h2
  | succ fuel ih =>
    intro listed l a w hl hin hsz hS hI hf
    refine ⟨fun hr => fin listed a w (allOf listed hsz hr) hS hI hf, fun j hj => ?_⟩
    obtain ⟨h1, o, ho, hall⟩ := mem_ready.1 hj
    have hjs : j < ops.size := (Array.getElem?_eq_some_iff.1 ho).1
    have hjl : j < listed.size := by omega
    have hun : listed.getD j false = false := by
      rw [Array.getD_eq_getD_getElem?] at h1 ⊢
      simp [hjl] at h1 ⊢
      exact h1
    have hR : Ripe ops (fun i => listed.getD i false) j o := by
      refine ⟨ho, hun, fun i hb => ?_⟩
      obtain ⟨e, he, hbd, hon⟩ := (bef_spec h.edges ho).1 hb
      have h2 := hall e (by simpa using he) hbd
      rcases hon with rfl | hon
      · exact h2
      · exact hS.cl e.on i h2 hon
    have hset : (fun i => (listed.setIfInBounds j true).getD i false) = addL (fun i => listed.getD i false) j := by
      funext i
      by_cases e : i = j
      · subst e
        simp [addL, Array.getD_eq_getD_getElem?, hjl]
      · simp [addL, Array.getD_eq_getD_getElem?, Array.getElem?_setIfInBounds_ne (Ne.symm e), e]
    refine h.op_sound hc hp hname hb0 hS hR hI ?_ ?_
    · intro x w' hpt hI'
      refine ih (listed.setIfInBounds j true) (l.erase j) _ w' ?_ ?_ (by simpa using hsz) ?_ ?_ ?_
      · rw [List.length_erase_of_mem (hin j hjs hun)]
        omega
      · intro i hi hli
        have hli' : addL (fun i => listed.getD i false) j i = false := by rw [← hset]; exact hli
        simp only [addL, Bool.or_eq_false_iff, beq_eq_false_iff_ne] at hli'
        exact (List.mem_erase_of_ne hli'.1).2 (hin i hi hli'.2)
      · rw [hset]
        exact h.shut hS hR hpt
      · rw [hset]
        exact hI'
      · exact hf.trans (Fr.put fun t e => hW j o t ho e)
    · intro v H' x w' E hrj g1 g2 g3 g4 g5
      refine ⟨?_, hf⟩
      obtain ⟨hp1, hp2⟩ := h.pan ops.size (Nat.le_refl _)
      unfold endD
      split
      · rename_i hpn
        exact absurd hrj (hp2 hpn j v H' hjs)
      · rename_i j' v' H2 hpn
        obtain ⟨h2, h3⟩ := hp1 j' v' H2 hpn
        have : j' = j := by
          rcases Nat.lt_trichotomy j' j with h4 | h4 | h4
          · exact absurd h4 (h.pan_one hjs h3 hrj)
          · exact h4
          · exact absurd h4 (h.pan_one h2 hrj h3)
        subst this
        rw [hrj] at h3
        cases h3
        refine ⟨x, rfl, E, g1, g2, ⟨g3.1, fun t => ?_⟩, g4, g5⟩
        obtain ⟨u1, u2⟩ := undefs_get (t0 := t0) ops.toList t
        simp only
        by_cases hd : ∃ o ∈ ops.toList, o.dst = some t
        · rw [u1 hd]
          simp [V]
        · have hd' : ∀ o ∈ ops.toList, o.dst ≠ some t := fun o ho hq => hd ⟨o, ho, hq⟩
          rw [u2 hd']
          have h5 := g3.2 t
          rw [tmL_ext (j := 0) ops.size (Nat.zero_le _) ?_] at h5
          · exact h5
          · intro i _ hi _ hdi
            obtain ⟨oi, hoi⟩ := size_get hi
            simp only [dstAt, hoi, Option.bind_some] at hdi
            exact hd' oi (by simpa using Array.mem_of_getElem? hoi) hdi

/-- Blocks that nobody knows of yet may be laid. -/
theorem HRel.more (h : HRel X E H w) {bs : List Blk} (hb : ∀ k ∈ bs, ∃ s g es fz, k = .cells s g es fz) : HRel X E (H ++ bs) w ∧ Step X E H w E (H ++ bs) w := by
  have hlt : ∀ {b l}, E b = some l → b < H.length := by
    intro b l hE
    obtain ⟨k, hk⟩ := h.inDom hE
    rcases Nat.lt_or_ge b H.length with h9 | h9
    · exact h9
    · rw [List.getElem?_eq_none h9] at hk; cases hk
  have hw : ∀ B o, Wr E (H ++ bs) B o → Wr E H B o := by
    rintro B o ⟨b, l, hE, hl, hB, hz⟩
    exact ⟨b, l, hE, hl, hB, fun s g es hk => hz s g es (by rw [List.getElem?_append_left (hlt hE)]; exact hk)⟩
  have him : ∀ B o, Im X E H w B o → Im X E (H ++ bs) w B o ∧ w.cell? ⟨B, o, none⟩ = w.cell? ⟨B, o, none⟩ := fun B o ⟨h1, h2, h3⟩ => ⟨⟨h1, h2, fun hx => h3 (hw B o hx)⟩, rfl⟩
  refine ⟨⟨?_, ?_, h.sep, h.xs, h.xlt⟩, ⟨Le.refl _, Nat.le_refl _, him, fun _ _ _ => rfl, fun b l hb hl => .inl ⟨b, l, hb, hl, rfl⟩, by simp, ?_, Still.refl⟩⟩
  · intro b hn
    refine h.dom b ?_
    rw [List.getElem?_eq_none_iff] at hn ⊢
    simp at hn
    omega
  · intro b k hk
    rcases Nat.lt_or_ge b H.length with h1 | h1
    · rw [List.getElem?_append_left h1] at hk
      exact BRel_mono him (Le.refl _) (fun _ _ _ => rfl) (h.blk b k hk)
    · rw [List.getElem?_append_right h1] at hk
      obtain ⟨s, g, es, fz, rfl⟩ := hb k (List.mem_of_getElem? hk)
      exact .inl (h.dom b (List.getElem?_eq_none h1))
  · intro b h1 h2
    obtain ⟨s, g, es, fz, hk⟩ := h1
    have hl : b < H.length := by
      rcases Nat.lt_or_ge b H.length with h9 | h9
      · exact h9
      · rw [List.getElem?_eq_none h9] at hk; cases hk
    exact ⟨⟨s, g, es, fz, by rw [List.getElem?_append_left hl]; exact hk⟩, h2⟩

theorem layAllocs_cells {P : Program} : ∀ {os : List Oper} {bs : List Blk}, layAllocs P os = some bs → ∀ k ∈ bs, ∃ s g es fz, k = .cells s g es fz
  | [], bs, h, k, hk => by simp only [layAllocs, Option.some.injEq] at h; subst h; simp at hk
  | o :: os, bs, h, k, hk => by
    simp only [layAllocs] at h
    split at h
    · split at h
      · rename_i cs n bs' h1 h2 h3
        split at h
        · cases h
          rcases List.mem_cons.1 hk with rfl | hk
          · exact ⟨_, _, _, _, rfl⟩
          · exact layAllocs_cells h3 k hk
        · cases h
      · cases h
    · exact layAllocs_cells h k hk

theorem drawW_sound {id : Nat} (hmix : C.P.follows .mixedOrders = true) (hc : CallOK C.P call) (hp : ∀ f F, C.prims f = some F → PrimOK C.P f F)
    (hname : ∀ (f : FuncId) (fn : Func), C.P.funcs[f]? = some fn → fn.name ≠ "runtime.NumGoroutine") {W : List Nat}
    (hW : ∀ (i : Nat) (o : Oper) (d : Tmp), ops[i]? = some o → o.dst = some d → d ∈ W) {a0 a : Act} {st : St} {r : Ex × St} (hr : drawW C call ops st = some r) (hs : SR X E0 H0 w0 st .undef a w Go.undef) (hf : Fr W a0 a) :
    (Code.region id ops true).wp C.P (fun e a' w' => Post X E0 H0 w0 r e a' w' ∧ Fr W a0 a') a w := by
  unfold drawW at hr
  simp only at hr
  split at hr
  case isFalse => cases hr
  rename_i hok
  split at hr
  case h_2 => cases hr
  rename_i bs hlay
  obtain ⟨E, h, hst, ht, hd, _⟩ := hs
  have hd1 : ∃ d, drawList C call ops (befs ops.toList []) st.n (List.range ops.size) st.heap.length [] [] none st.tmps (st.heap ++ bs) = some d ∧
      r = match d.pan with
        | none => (.normal, ⟨st.n, d.tmps, d.heap, st.defers⟩)
        | some (_, v, H) => (.pan v, ⟨st.n, undefs ops.toList st.tmps, H, st.defers⟩) := by
    split at hr
    · rename_i t H he; cases hr; exact ⟨_, he, rfl⟩
    · rename_i t H j v H' he; cases hr; exact ⟨_, he, rfl⟩
    · cases hr
  obtain ⟨d, hdl, hrd⟩ := hd1
  rw [List.range_eq_range'] at hdl
  obtain ⟨S, hS0, hS, hde⟩ := drawList_trace ops.size 0 ⟨st.heap.length, [], [], none, st.tmps, st.heap ++ bs⟩ d hdl
  have hres : ∃ res : Nat → DRes, ∀ i, i < ops.size → ∃ o, At1 C call ops (befs ops.toList []) st.n i o (res i) (S i) (S (i + 1)) := by
    classical
    refine ⟨fun i => if hq : ∃ r o, At1 C call ops (befs ops.toList []) st.n i o r (S i) (S (i + 1)) then hq.choose else .dead, fun i hi => ?_⟩
    obtain ⟨o, r, h1⟩ := hS i (Nat.zero_le _) (by omega)
    have hq : ∃ r o, At1 C call ops (befs ops.toList []) st.n i o r (S i) (S (i + 1)) := ⟨r, o, h1⟩
    simp only [dif_pos hq]
    exact hq.choose_spec
  obtain ⟨res, hres⟩ := hres
  have D : Dr C call ops st.n st.tmps st.heap bs S res := ⟨hok, hlay, hS0, hres⟩
  have hre : r = endD st.n ops st.tmps st.defers (S ops.size) := by
    rw [hrd, hde]
    simp only [Nat.zero_add, endD]
  rw [hre]
  refine wp_region_any hmix ?_
  obtain ⟨h1, hs1⟩ := h.idle (w' := { w with drawn := w.drawn + 1 }) ⟨⟨rfl, rfl⟩, rfl, fun _ => rfl⟩ (Nat.le_refl _) (fun _ _ => rfl)
  obtain ⟨h2, hs2⟩ := h1.more (layAllocs_cells hlay)
  have hH0 : (S 0).heap = st.heap ++ bs := by rw [hS0]
  have hno : (fun i => (Array.replicate ops.size false).getD i false) = fun _ => false := by
    funext i
    simp [Array.getD_eq_getD_getElem?, Array.getElem?_replicate]
    split <;> rfl
  refine D.any_sound hc hp hname (by exact hst.len) hW ops.size (Array.replicate ops.size false) (List.range ops.size) a _ (by simp) (fun i hi _ => by simpa using hi) (by simp) ?_ ?_ hf
  · rw [hno]
    refine ⟨fun i hi => ?_, fun i hi => ?_, fun i k hi _ => ?_⟩
    · cases hi
    · cases hi
    · cases hi
  · rw [hno]
    refine ⟨E, 0, by rw [hH0]; exact h2, Nat.zero_le _, fun i v H D hi hri => by simp, by rw [hH0]; exact (hst.trans hs1).trans hs2, ?_, ?_, fun i ha _ => ?_⟩
    · rw [hH0]
      refine ((ht.mono hs1.im hs1.le).mono hs2.im hs2.le).congr fun t => ?_
      exact tmL_ext (j := 0) ops.size (Nat.zero_le _) (fun i _ _ hf => by cases hf)
    · rw [hH0]
      exact (hd.mono hs1.im hs1.le).mono hs2.im hs2.le
    · obtain ⟨cs, nn, o, t, _, _, _, _, _, _, hk⟩ := D.al_cells ha
      exact h1.dom _ (List.getElem?_eq_none hk)

end
end Go.Ai
