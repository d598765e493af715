/-
  A REGION WHOSE ORDER IS DRAWN.
-/
import Derived.Test.YtndloeajkfajnaaAiDrawB
import Derived.Test.YtndloeajkfajnaaAiBirth
set_option linter.unusedVariables false
set_option linter.unusedSimpArgs false
namespace Go.Ai
section
variable {C : Ctx} {call : CallT} {ops : Array Oper} {n : Nat} {t0 : Tm} {Hb bs : List Blk} {S : Nat → TS} {res : Nat → DRes}
variable {X : Nat → Nat → Prop} {E0 : Env} {H0 : List Blk} {w0 : World} {ds : List (FuncId × List AV)} {L : Nat → Bool}

theorem TRel.congr {im : Nat → Nat → Prop} {w : World} {E : Env} {tmps tmps' : Tm} {a : Act} (h : TRel im w E n tmps a) (hc : ∀ t, getT tmps' t = getT tmps t) : TRel im w E n tmps' a :=
  ⟨h.1, fun t => by rw [hc t]; exact h.2 t⟩

/-- A variable that the region makes. -/
def Al (ops : Array Oper) (S : Nat → TS) (res : Nat → DRes) (i : Nat) : Prop :=
  ∃ o t, ops[i]? = some o ∧ kindOf o.op = .alloc t ∧ (∀ e ∈ (S i).sp, hits e.2 (S i).k = false) ∧ res i = .val (.ptr (S i).k 0 0 0) [(S i).k]

def Inv (ops : Array Oper) (n : Nat) (t0 : Tm) (S : Nat → TS) (res : Nat → DRes) (X : Nat → Nat → Prop) (E0 : Env) (H0 : List Blk) (w0 : World) (ds : List (FuncId × List AV)) (L : Nat → Bool) (a : Act) (w : World) : Prop :=
  ∃ E m, HRel X E (S m).heap w ∧ m ≤ ops.size ∧ (∀ i v H D, i < ops.size → res i = .mov v H D → (L i = true ↔ i < m)) ∧ Step X E0 H0 w0 E (S m).heap w ∧
    TRel (Im X E (S m).heap w) w E n (tmL ops res t0 L ops.size) a ∧ DRel (Im X E (S m).heap w) w E ds a.defers ∧ ∀ i, Al ops S res i → L i = false → E (S i).k = none

theorem mov_bits {Bi : Nat} {sp : Moved} {fl : Seen} {D : Dirt} (h : movesOK Bi sp fl D = true) : (∀ e ∈ sp, Nat.testBit Bi e.1 = true) ∧ ∀ e ∈ fl, Nat.testBit Bi e.1 = true ∨ freeOf D e.2 = true := by
  simp only [movesOK, Bool.and_eq_true, List.all_eq_true, Bool.or_eq_true] at h
  exact h

theorem free_hits {D : Dirt} {T : List Nat} {b : Nat} (h : freeOf D T = true) (hb : b ∈ T) : hits D b = false := by
  simp only [freeOf, List.all_eq_true] at h
  simpa using h b hb

/-- A move: what has moved before it in the text stands before it; what was looked at before it does so too, or is free of it. -/
theorem Dr.moved (h : Dr C call ops n t0 Hb bs S res) {j : Nat} {v : AV} {H : List Blk} {D : Dirt} (hj : j < ops.size) (hr : res j = .mov v H D) :
    (∀ i v' H' D', i < j → res i = .mov v' H' D' → bef (befs ops.toList []) i j = true) ∧ ∀ i v' T, i < j → res i = .val v' T → bef (befs ops.toList []) i j = true ∨ freeOf D T = true := by
  obtain ⟨o, ho⟩ := size_get hj
  rcases h.way ho with ⟨hr', _⟩ | hw
  · rw [hr] at hr'; cases hr'
  · rw [hr] at hw
    cases hw with
    | mov _ _ _ hwt hdt hmv hev =>
      obtain ⟨h1, h2⟩ := mov_bits hmv
      exact ⟨fun i v' H' D' hi hri => h1 _ ((h.sp j (by omega) i D').2 ⟨hi, v', H', hri⟩), fun i v' T hi hri => h2 _ ((h.fl j (by omega) i T).2 ⟨hi, v', hri⟩)⟩

theorem Dr.al_cells (h : Dr C call ops n t0 Hb bs S res) {i : Nat} (ha : Al ops S res i) : ∃ cs nn o t, ops[i]? = some o ∧ kindOf o.op = .alloc t ∧ (S 0).heap[(S i).k]? = some (.cells nn 0 [cs] false) ∧
    (zeroT C.P t).bind (fun z => cellsA (absV z)) = some cs ∧ szT C.P t = some nn ∧ cs.length = nn ∧ Hb.length ≤ (S i).k := by
  obtain ⟨o, t, ho, hk, _, hr⟩ := ha
  have hi : i < ops.size := (Array.getElem?_eq_some_iff.1 ho).1
  obtain ⟨cs, nn, h1, h2, h3, h4⟩ := layAllocs_spec h.lay i o t (by simpa using ho) hk
  refine ⟨cs, nn, o, t, ho, hk, ?_, h2, h3, h4, ?_⟩
  · rw [h.k i (by omega), h.s0]
    simp only
    rw [List.getElem?_append_right (by omega), Nat.add_sub_cancel_left]
    exact h1
  · rw [h.k i (by omega)]; omega

theorem Dr.al_ne (h : Dr C call ops n t0 Hb bs S res) {i j : Nat} (hi : Al ops S res i) (hj : Al ops S res j) (hne : i ≠ j) : (S i).k ≠ (S j).k := by
  have key : ∀ {i j : Nat}, Al ops S res i → Al ops S res j → i < j → (S i).k < (S j).k := by
    intro i j hi hj hlt
    obtain ⟨o, t, ho, hk, _, _⟩ := hi
    obtain ⟨o', t', ho', hk', _, _⟩ := hj
    have hjs : j < ops.size := (Array.getElem?_eq_some_iff.1 ho').1
    rw [h.k i (by omega), h.k j (by omega)]
    have h1 := cnt_succ (os := ops.toList) (i := i) (o := o) (by simpa using ho)
    simp only [hk] at h1
    have mono : ∀ (d p : Nat), p + d ≤ ops.size → cnt ops.toList p ≤ cnt ops.toList (p + d) := by
      intro d
      induction d with
      | zero => intro p _; exact Nat.le_refl _
      | succ d ih =>
        intro p hp
        have h2 := ih p (by omega)
        obtain ⟨x, hx⟩ := size_get (ops := ops) (i := p + d) (by omega)
        have h3 := cnt_succ (os := ops.toList) (i := p + d) (o := x) (by simpa using hx)
        rw [show p + (d + 1) = p + d + 1 by omega, h3]
        omega
    have h2 := mono (j - (i + 1)) (i + 1) (by omega)
    rw [show i + 1 + (j - (i + 1)) = j by omega] at h2
    omega
  rcases Nat.lt_or_gt_of_ne hne with h1 | h1
  · have := key hi hj h1; omega
  · have := key hj hi h1; omega

/-- A variable's block is as it was laid, as long as its turn has not come. -/
theorem Dr.al_keep (h : Dr C call ops n t0 Hb bs S res) (hS : Shut ops res L) {m : Nat} (hm : m ≤ ops.size) (hL : ∀ i v H D, i < ops.size → res i = .mov v H D → (L i = true ↔ i < m)) {i : Nat} (ha : Al ops S res i) (hu : L i = false) :
    sameB (S 0).heap[(S i).k]? (S m).heap[(S i).k]? := by
  obtain ⟨cs, nn, o, t, ho, hk, h1, _⟩ := h.al_cells ha
  obtain ⟨_, _, _, _, hsp, hri⟩ := ha
  have hi : i < ops.size := (Array.getElem?_eq_some_iff.1 ho).1
  have hlt : (S i).k < (S 0).heap.length := by
    rcases Nat.lt_or_ge (S i).k (S 0).heap.length with h9 | h9
    · exact h9
    · rw [List.getElem?_eq_none h9] at h1; cases h1
  refine (h.heap_keep hlt m (by omega) hm fun q h2 h3 v H D hq => ?_).1
  have hLq := (hL q v H D (by omega) hq).2 h3
  rcases Nat.lt_or_ge q i with h4 | h4
  · exact hsp (q, D) ((h.sp i (by omega) q D).2 ⟨h4, v, H, hq⟩)
  · have hne : q ≠ i := by rintro rfl; rw [hri] at hq; cases hq
    rcases (h.moved (by omega) hq).2 i _ _ (by omega) hri with hb | hf
    · have := hS.cl q i hLq hb
      rw [hu] at this
      cases this
    · exact free_hits hf (by simp)

theorem Dr.al_isC (h : Dr C call ops n t0 Hb bs S res) (hS : Shut ops res L) {m : Nat} (hm : m ≤ ops.size) (hL : ∀ i v H D, i < ops.size → res i = .mov v H D → (L i = true ↔ i < m)) {i : Nat} (ha : Al ops S res i) (hu : L i = false) :
    IsC (S m).heap (S i).k := by
  obtain ⟨cs, nn, o, t, ho, hk, h1, _⟩ := h.al_cells ha
  obtain ⟨fz, h2⟩ := (h.al_keep hS hm hL ha hu).cells h1
  exact ⟨_, _, _, _, h2⟩

theorem looksAt_op {o : Oper} {t : Tmp} (h : Operand.tmp t ∈ o.op.operands.toList) : t ∈ o.looksAt ops :=
  List.mem_append_left _ (List.mem_filterMap.2 ⟨.tmp t, h, rfl⟩)

theorem Dr.evs (h : Dr C call ops n t0 Hb bs S res) (hS : Shut ops res L) {j : Nat} {o : Oper} (hR : Ripe ops L j o) : ∀ x ∈ o.op.operands.toList, ev (S j).tmps x = ev (tmL ops res t0 L ops.size) x := by
  intro x hx
  cases x with
  | tmp t => simp only [ev, h.sees hS hR (looksAt_op hx)]
  | _ => rfl

theorem Dr.wants (h : Dr C call ops n t0 Hb bs S res) (hS : Shut ops res L) {j : Nat} {o : Oper} (hR : Ripe ops L j o) : wantedA ops (tmL ops res t0 L ops.size) o = wantedA ops (S j).tmps o := by
  unfold wantedA
  split
  · rfl
  · rename_i g want hg
    split
    · rfl
    · rename_i d hd
      rw [h.sees hS hR (t := d) (List.mem_append_right _ (by simp [hg, hd]))]

theorem putA_any {r r' : Tm} {d : Option Tmp} {v t} (h : putA n r d v = some t) : ∃ t', putA n r' d v = some t' ∧ ∀ x, getT t' x = if d = some x then v else getT r' x := by
  cases d with
  | none =>
    refine ⟨r', rfl, fun x => by simp⟩
  | some d =>
    simp only [putA] at h ⊢
    split at h
    · rename_i hb
      refine ⟨(d, v) :: r', by simp [hb], fun x => ?_⟩
      rw [getT_cons]
      simp
    · cases h

theorem Dr.put (h : Dr C call ops n t0 Hb bs S res) (hS : Shut ops res L) {j : Nat} {o : Oper} (hR : Ripe ops L j o) {im : Nat → Nat → Prop} {w : World} {E : Env} {a : Act} {x : Value}
    (ht : TRel im w E n (tmL ops res t0 L ops.size) a) (hv : V im w (valAt res j) E x) (hp : Pt res j = true) : TRel im w E n (tmL ops res t0 (addL L j) ops.size) (a.put o.dst x) := by
  have hput : ∃ t, putA n (S j).tmps o.dst (valAt res j) = some t := by
    obtain ⟨o', ho', hd, hn⟩ := h.at1 j hR.lt
    rw [hR.op] at ho'
    cases ho'
    cases hr : res j with
    | dead => simp [Pt, hr] at hp
    | pan v H => simp [Pt, hr] at hp
    | val v U => rw [hr] at hn; simp only [Next] at hn; obtain ⟨t, hp, _⟩ := hn; exact ⟨t, by simpa [valAt, hr] using hp⟩
    | mov v H U => rw [hr] at hn; simp only [Next] at hn; obtain ⟨t, hp, _⟩ := hn; exact ⟨t, by simpa [valAt, hr] using hp⟩
  obtain ⟨t, hput⟩ := hput
  obtain ⟨t', h1, h2⟩ := putA_any (r' := tmL ops res t0 L ops.size) hput
  exact (ht.put h1 hv).congr fun y => by rw [h.puts hS hR y, h2 y]

/-- What only looks finds the same. -/
theorem Dr.look_alike (h : Dr C call ops n t0 Hb bs S res) (hS : Shut ops res L) {j : Nat} {o : Oper} (hR : Ripe ops L j o) {m : Nat} (hm : m ≤ ops.size)
    (hL : ∀ i v H D, i < ops.size → res i = .mov v H D → (L i = true ↔ i < m)) {v : AV} {T : List Nat} (hr : res j = .val v T) (hlt : ∀ b ∈ T, b < (S j).heap.length)
    (hsp : ∀ e ∈ (S j).sp, Nat.testBit ((befs ops.toList []).getD j 0) e.1 = true ∨ freeOf e.2 T = true) (hin : ∀ b ∈ T, b < (S m).heap.length) : Alike T (S j).heap (S m).heap := by
  intro b hb
  have hj := hR.lt
  rcases Nat.le_total m j with hmj | hmj
  · refine (h.heap_keep (hin b hb) j hmj (by omega) fun i h1 h2 v' H D hi => ?_).1.symm
    rcases hsp (i, D) ((h.sp j (by omega) i D).2 ⟨h2, v', H, hi⟩) with hbt | hf
    · have := (hL i v' H D (by omega) hi).1 (hR.all i hbt)
      omega
    · exact free_hits hf hb
  · refine (h.heap_keep (hlt b hb) m hmj hm fun i h1 h2 v' H D hi => ?_).1
    have hLi := (hL i v' H D (by omega) hi).2 h2
    have hne : i ≠ j := by rintro rfl; rw [hr] at hi; cases hi
    rcases (h.moved (by omega) hi).2 j _ _ (by omega) hr with hbt | hf
    · have := hS.cl i j hLi hbt
      rw [hR.un] at this
      cases this
    · exact free_hits hf hb

theorem Dr.not_dead (h : Dr C call ops n t0 Hb bs S res) (hS : Shut ops res L) {j : Nat} {o : Oper} (hR : Ripe ops L j o) : Way C call ops ((befs ops.toList []).getD j 0) (S j).k (S j).sp (S j).fl (S j).tmps (S j).heap o (res j) := by
  rcases h.way hR.op with ⟨_, j', v, H, hp, hb⟩ | hw
  · have h1 := hS.pt j' (hR.all j' hb)
    have h2 := ((h.pan j (by have := hR.lt; omega)).1 j' v H hp).2
    simp [Pt, h2] at h1
  · exact hw

/-- A move finds the heap as in the text's run. -/
theorem Dr.mov_heap (h : Dr C call ops n t0 Hb bs S res) {j : Nat} {o : Oper} (hR : Ripe ops L j o) {m : Nat} (hm : m ≤ ops.size)
    (hL : ∀ i v H D, i < ops.size → res i = .mov v H D → (L i = true ↔ i < m)) (hb : ∀ i v' H' D', i < j → res i = .mov v' H' D' → bef (befs ops.toList []) i j = true) (hmj : (∃ v H D, res j = .mov v H D) ∨ ∀ i v H D, j ≤ i → i < ops.size → res i ≠ .mov v H D) :
    (S m).heap = (S j).heap := by
  have hj := hR.lt
  rcases Nat.le_total m j with h1 | h1
  · exact (h.heap_same j h1 (by omega) fun i h2 h3 v H D hi => by
      have := (hL i v H D (by omega) hi).1 (hR.all i (hb i v H D h3 hi))
      omega).symm
  · rcases hmj with ⟨v, H, D, hr⟩ | hno
    · rcases Nat.eq_or_lt_of_le h1 with h2 | h2
      · rw [h2]
      · have := (hL j v H D hj hr).2 h2
        rw [hR.un] at this
        cases this
    · exact h.heap_same m h1 hm fun i h2 h3 => fun v H D => hno i v H D h2 (by omega)

theorem Dr.op_sound (h : Dr C call ops n t0 Hb bs S res) (hc : CallOK C.P call) (hp : ∀ f F, C.prims f = some F → PrimOK C.P f F)
    (hname : ∀ (f : FuncId) (fn : Func), C.P.funcs[f]? = some fn → fn.name ≠ "runtime.NumGoroutine") (hb0 : H0.length ≤ Hb.length) (hS : Shut ops res L) {j : Nat} {o : Oper} (hR : Ripe ops L j o)
    {a : Act} {w : World} (hI : Inv ops n t0 S res X E0 H0 w0 ds L a w) {K : Act → World → Prop} {Q : Exit → Act → World → Prop}
    (hK : ∀ (x : Value) (w' : World), Pt res j = true → Inv ops n t0 S res X E0 H0 w0 ds (addL L j) (a.put o.dst x) w' → K (a.put o.dst x) w')
    (hQ : ∀ (v : AV) (H' : List Blk) (x : Value) (w' : World) (E : Env), res j = .pan v H' → HRel X E H' w' → Step X E0 H0 w0 E H' w' → TRel (Im X E H' w') w' E n (tmL ops res t0 L ops.size) a →
      DRel (Im X E H' w') w' E ds a.defers → V (Im X E H' w') w' v E x → Q (.panic [{ v := x, recovered := false }]) a w') : wpOp C.P ops Q j K a w := by
  obtain ⟨E, m, hH, hm, hL, hst, ht, hd, hal⟩ := hI
  have hj := hR.lt
  have hw := h.wants hS hR
  have hev : ∀ (H : List Blk), evalOp C call none (tmL ops res t0 L ops.size) H o = evalOp C call none (S j).tmps H o := fun H => (evalOp_congr (h.evs hS hR)).symm
  -- all but the moves: nothing of the text's heap turns
  have stay : ∀ (x : Value) (w' : World) (E' : Env), Pt res j = true → (∀ v H D, res j ≠ .mov v H D) → HRel X E' (S m).heap w' → Step X E0 H0 w0 E' (S m).heap w' →
      (∀ B o, Im X E (S m).heap w B o → Im X E' (S m).heap w' B o ∧ w'.cell? ⟨B, o, none⟩ = w.cell? ⟨B, o, none⟩) → Le E E' → V (Im X E' (S m).heap w') w' (valAt res j) E' x →
      (∀ i, Al ops S res i → addL L j i = false → E' (S i).k = none) → K (a.put o.dst x) w' := by
    intro x w' E' hpt hnm h1 h2 h3 h4 h5 h6
    refine hK x w' hpt ⟨E', m, h1, hm, fun i v H D hi hri => ?_, h2, h.put hS hR (ht.mono h3 h4) h5 hpt, ?_, h6⟩
    · have hne : i ≠ j := by rintro rfl; exact hnm v H D hri
      simpa [addL, hne] using hL i v H D hi hri
    · rw [put_defers']
      exact hd.mono h3 h4
  have sub : ∀ i, addL L j i = false → i ≠ j ∧ L i = false := by
    intro i hi
    simp only [addL, Bool.or_eq_false_iff, beq_eq_false_iff_ne] at hi
    exact hi
  unfold wpOp
  simp only [hR.op]
  have hway := h.not_dead hS hR
  generalize hrj : res j = rj at hway
  cases hway with
  | off hwf =>
    rw [wanted_sound ht (hw.trans hwf)]
    simp only [Bool.false_eq_true, if_false]
    refine stay _ w E (by simp [Pt, hrj]) (by rw [hrj]; simp) hH hst (fun B o hi => ⟨hi, rfl⟩) (Le.refl _) ?_ fun i h1 h2 => hal i h1 (sub i h2).2
    simp only [valAt, hrj]
    exact unit_ok
  | new t hwt hk hsp =>
    rw [wanted_sound ht (hw.trans hwt)]
    simp only [if_true]
    left
    have ha : Al ops S res j := ⟨o, t, hR.op, hk, hsp, hrj⟩
    obtain ⟨cs, nn, o', t', ho', hk', h1, h2, h3, h4, h5⟩ := h.al_cells ha
    rw [hR.op] at ho'
    cases ho'
    rw [hk] at hk'
    cases hk'
    obtain ⟨fz, h6⟩ := (h.al_keep hS hm hL ha hR.un).cells h1
    obtain ⟨x, w', E', hr, g1, g2, g3, g4, g5, g6⟩ := hH.birth hst h6 (hal j ha hR.un) (by omega) h2 h3 h4 (.tuple #[])
    have hop : ∃ t2, o.op = .alloc t2 ∧ t2 = t := by
      obtain ⟨dst, op, ty, pos, after, guard⟩ := o
      simp only at hk
      cases op
      case alloc t2 => simp only [kindOf, Kind.alloc.injEq] at hk; exact ⟨t2, rfl, hk⟩
      case call c =>
        obtain ⟨cal, args, tys⟩ := c
        cases cal with
        | builtin b => cases b <;> simp only [kindOf] at hk <;> cases hk
        | _ => simp only [kindOf] at hk; cases hk
      all_goals (simp only [kindOf] at hk; cases hk)
    obtain ⟨t2, hop, rfl⟩ := hop
    refine wp_val (Instr.alloc t2 true (.tuple #[])) (by simp only [execOp, hop] <;> rfl) hr ?_
    refine stay x w' E' (by simp [Pt, hrj]) (by rw [hrj]; simp) g1 g2 g4 g5 (by simpa only [valAt, hrj] using g3) fun i k1 k2 => ?_
    obtain ⟨k3, k4⟩ := sub i k2
    exact g6 _ (h.al_ne k1 ha k3) (h.al_isC hS hm hL k1 k4) (hal i k1 k4)
  | look v T hwt hlk hlt hsp hin hnk =>
    rw [wanted_sound ht (hw.trans hwt)]
    simp only [if_true]
    left
    have hT : ∀ b ∈ T, b < (S m).heap.length := by
      intro b hb
      obtain ⟨us, hu, hbu⟩ := hin b hb
      have hu' : evL (tmL ops res t0 L ops.size) o.op.operands.toList = some us := by
        rw [← hu]
        exact (evL_congr (h.evs hS hR)).symm
      obtain ⟨l, hl⟩ := VL_refs (evL_sound ht hu') hbu
      obtain ⟨k, hk⟩ := hH.inDom hl
      rcases Nat.lt_or_ge b (S m).heap.length with h9 | h9
      · exact h9
      · rw [List.getElem?_eq_none h9] at hk; cases hk
    have he := hlk _ (h.look_alike hS hR hm hL hrj hlt hsp hT)
    rw [← hev] at he
    refine evalOp_sound hc hp hname hH ht he ?_
    rintro x w' ⟨E', g1, g2, g3⟩
    refine stay x w' E' (by simp [Pt, hrj]) (by rw [hrj]; simp) g1 (hst.trans g2) g2.im g2.le (by simpa only [valAt, hrj] using g3) fun i k1 k2 => ?_
    obtain ⟨k3, k4⟩ := sub i k2
    exact (g2.nb _ (h.al_isC hS hm hL k1 k4) (hal i k1 k4)).2
  | mov v H' D hwt hdt hmv hevl =>
    rw [wanted_sound ht (hw.trans hwt)]
    simp only [if_true]
    left
    obtain ⟨hb1, _⟩ := h.moved hj hrj
    have hheap := h.mov_heap hR hm hL hb1 (.inl ⟨v, H', D, hrj⟩)
    have hS1 : (S (j + 1)).heap = H' := by
      obtain ⟨o', ho', hd', hn⟩ := h.at1 j hj
      rw [hrj] at hn
      simp only [Next] at hn
      obtain ⟨t, _, hn⟩ := hn
      rw [hn]
    have hmj : m ≤ j := by
      rcases Nat.lt_or_ge j m with h1 | h1
      · have := (hL j v H' D hj hrj).2 h1
        rw [hR.un] at this
        cases this
      · exact h1
    have go : ∀ (x : Value) (w' : World) (E' : Env), HRel X E' H' w' → Step X E (S m).heap w E' H' w' → V (Im X E' H' w') w' v E' x → K (a.put o.dst x) w' := by
      intro x w' E' g1 g2 g3
      have hpt : Pt res j = true := by simp [Pt, hrj]
      refine hK x w' hpt ⟨E', j + 1, by rw [hS1]; exact g1, by omega, fun i v' H2 D' hi hri => ?_, by rw [hS1]; exact hst.trans g2, ?_, ?_, fun i k1 k2 => ?_⟩
      · by_cases e : i = j
        · subst e; simp [addL]
        · have h1 := hL i v' H2 D' hi hri
          simp only [addL, beq_iff_eq, e, Bool.or_eq_true, false_or]
          rw [h1]
          constructor
          · intro h2; omega
          · intro h2
            exact h1.1 (hR.all i (hb1 i v' H2 D' (by omega) hri))
      · rw [hS1]
        exact h.put hS hR (ht.mono g2.im g2.le) (by simpa only [valAt, hrj] using g3) hpt
      · rw [hS1, put_defers']
        exact hd.mono g2.im g2.le
      · obtain ⟨k3, k4⟩ := sub i k2
        exact (g2.nb _ (h.al_isC hS hm hL k1 k4) (hal i k1 k4)).2
    rcases hevl with he | ⟨he, rfl⟩
    · rw [← hheap, ← hev] at he
      refine evalOp_sound hc hp hname hH ht he ?_
      rintro x w' ⟨E', g1, g2, g3⟩
      exact go x w' E' g1 g2 g3
    · rw [← hheap, ← hev] at he
      refine evalOp_sound hc hp hname hH ht he ?_
      rintro w' g1 g2
      exact go _ w' E g1 g2 unit_ok
  | pan v H' D hwt hmv hevl =>
    rw [wanted_sound ht (hw.trans hwt)]
    simp only [if_true]
    left
    obtain ⟨hb1, _⟩ := mov_bits hmv
    have hheap : (S m).heap = (S j).heap := by
      refine h.mov_heap hR hm hL (fun i v' H2 D' hi hri => hb1 _ ((h.sp j (by omega) i D').2 ⟨hi, v', H2, hri⟩)) (.inr fun i v' H2 D' hji hi hri => ?_)
      -- behind a panic nothing moves
      have hne : i ≠ j := by rintro rfl; rw [hrj] at hri; cases hri
      obtain ⟨o', ho', hd', hn⟩ := h.at1 i hi
      obtain ⟨_, hp2⟩ := h.pan i (by omega)
      cases hpi : (S i).pan with
      | none => exact hp2 hpi j v H' (by omega) hrj
      | some q =>
        rw [hri, hpi] at hd'
        unfold drawOp at hd'
        simp only [Option.map_some] at hd'
        split at hd'
        · cases hd'
        · split at hd'
          · cases hd'
          · cases hd'
          · split at hd'
            · split at hd' <;> cases hd'
            · split at hd' <;> cases hd'
            · split at hd'
              · split at hd'
                · split at hd' <;> cases hd'
                · cases hd'
              · cases hd'
            · split at hd'
              · split at hd'
                · split at hd' <;> cases hd'
                · cases hd'
              · cases hd'
            · cases hd'
    rw [← hheap, ← hev] at hevl
    refine evalOp_sound hc hp hname hH ht hevl ?_
    rintro x w' ⟨E', g1, g2, g3⟩
    exact hQ v H' x w' E' hrj g1 (hst.trans g2) (ht.mono g2.im g2.le) (hd.mono g2.im g2.le) g3

end
end Go.Ai
