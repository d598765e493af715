/-
  ANOTHER ORDER FINDS THE SAME: operands, heaps.
-/
import Derived.Test.YtndloeajkfajnaaAiMc
import Derived.Test.YtndloeajkfajnaaAiLone
import Derived.Laws.Sem
import Derived.Recover
import Derived.RowKit3
import Derived.Below
set_option linter.unusedVariables false
set_option linter.unusedSimpArgs false
namespace Go.Ai
section
variable {C : Ctx} {call : CallT} {ops : Array Oper} {n : Nat} {t0 : Tm} {Hb bs : List Blk} {S : Nat → TS} {res : Nat → DRes}

def dstAt (ops : Array Oper) (i : Nat) : Option Tmp := (ops[i]?).bind (·.dst)

theorem tmL_succ (L : Nat → Bool) (i t : Nat) : getT (tmL ops res t0 L (i + 1)) t = if L i = true ∧ dstAt ops i = some t then valAt res i else getT (tmL ops res t0 L i) t := by
  simp only [tmL, dstAt]
  by_cases hL : L i = true
  · simp only [hL, if_true, true_and]
    split
    · rename_i d hd
      rw [getT_cons, hd]
      simp only [Option.some.injEq]
    · rename_i hd
      rw [hd]
      simp
  · simp [hL]

theorem tmL_congr {L L' : Nat → Bool} {t : Nat} : ∀ (m : Nat), (∀ i, i < m → dstAt ops i = some t → L i = L' i) → getT (tmL ops res t0 L m) t = getT (tmL ops res t0 L' m) t
  | 0, _ => rfl
  | m + 1, h => by
    rw [tmL_succ, tmL_succ, tmL_congr m fun i hi => h i (by omega)]
    by_cases hd : dstAt ops m = some t
    · rw [h m (by omega) hd]
    · simp [hd]

theorem tmL_ext {L : Nat → Bool} {t j : Nat} : ∀ (m : Nat), j ≤ m → (∀ i, j ≤ i → i < m → L i = true → dstAt ops i ≠ some t) → getT (tmL ops res t0 L m) t = getT (tmL ops res t0 L j) t
  | 0, hj, _ => by
    have : j = 0 := by omega
    subst this
    rfl
  | m + 1, hj, h => by
    by_cases e : j = m + 1
    · rw [e]
    · rw [tmL_succ, if_neg (fun hq => h m (by omega) (by omega) hq.1 hq.2)]
      exact tmL_ext m (by omega) fun i h1 h2 => h i h1 (by omega)

/-- What has come is such that nothing comes before what must stand before it, and comes in the text's run too. -/
structure Shut (ops : Array Oper) (res : Nat → DRes) (L : Nat → Bool) : Prop where
  lt : ∀ i, L i = true → i < ops.size
  pt : ∀ i, L i = true → Pt res i = true
  cl : ∀ i h, L i = true → bef (befs ops.toList []) h i = true → L h = true

/-- j may come next. -/
structure Ripe (ops : Array Oper) (L : Nat → Bool) (j : Nat) (o : Oper) : Prop where
  op : ops[j]? = some o
  un : L j = false
  all : ∀ i, bef (befs ops.toList []) i j = true → L i = true

theorem Ripe.lt {L : Nat → Bool} {j : Nat} {o : Oper} (h : Ripe ops L j o) : j < ops.size := (Array.getElem?_eq_some_iff.1 h.op).1

theorem size_get {i : Nat} (h : i < ops.size) : ∃ o, ops[i]? = some o := ⟨ops[i], Array.getElem?_eq_getElem h⟩

theorem Dr.sees (h : Dr C call ops n t0 Hb bs S res) {L : Nat → Bool} (hS : Shut ops res L) {j : Nat} {o : Oper} (hR : Ripe ops L j o) {t : Nat} (ht : t ∈ o.looksAt ops) :
    getT (tmL ops res t0 L ops.size) t = getT (S j).tmps t := by
  have hj := hR.lt
  rw [h.tmps j (by omega), tmL_ext (j := j) ops.size (by omega) ?_]
  · refine tmL_congr j fun i hi hd => ?_
    obtain ⟨x, hx⟩ := size_get (ops := ops) (i := i) (by omega)
    rcases h.pairs hx hR.op hi with hb | hap
    · have := hR.all i hb
      rw [this, hS.pt i this]
    · obtain ⟨h1, _, _⟩ := Oper.apart_spec hap
      exact absurd ht (h1 t (by simpa [dstAt, hx] using hd))
  · intro i h1 h2 hL hd
    have hne : i ≠ j := by rintro rfl; rw [hR.un] at hL; cases hL
    obtain ⟨y, hy⟩ := size_get (ops := ops) (i := i) h2
    rcases h.pairs hR.op hy (by omega) with hb | hap
    · have := hS.cl i j hL hb
      rw [hR.un] at this
      cases this
    · obtain ⟨_, _, h3⟩ := Oper.apart_spec hap
      exact absurd ht (h3 t (by simpa [dstAt, hy] using hd))

def addL (L : Nat → Bool) (j : Nat) : Nat → Bool := fun i => i == j || L i

theorem Dr.puts (h : Dr C call ops n t0 Hb bs S res) {L : Nat → Bool} (hS : Shut ops res L) {j : Nat} {o : Oper} (hR : Ripe ops L j o) (t : Nat) :
    getT (tmL ops res t0 (addL L j) ops.size) t = if o.dst = some t then valAt res j else getT (tmL ops res t0 L ops.size) t := by
  have hj := hR.lt
  have hdj : dstAt ops j = o.dst := by simp [dstAt, hR.op]
  by_cases hd : o.dst = some t
  · rw [if_pos hd, tmL_ext (j := j + 1) ops.size (by omega) ?_, tmL_succ, if_pos ⟨by simp [addL], by rw [hdj, hd]⟩]
    intro i h1 h2 hL hdi
    have hne : i ≠ j := by omega
    have hL : L i = true := by simpa [addL, hne] using hL
    obtain ⟨y, hy⟩ := size_get (ops := ops) (i := i) h2
    rcases h.pairs hR.op hy (by omega) with hb | hap
    · have := hS.cl i j hL hb
      rw [hR.un] at this
      cases this
    · obtain ⟨_, h3, _⟩ := Oper.apart_spec hap
      exact h3 t hd (by simpa [dstAt, hy] using hdi)
  · rw [if_neg hd]
    refine tmL_congr _ fun i hi hdi => ?_
    have hne : i ≠ j := by rintro rfl; rw [hdj] at hdi; exact hd hdi
    simp [addL, hne]

theorem Dr.shut (h : Dr C call ops n t0 Hb bs S res) {L : Nat → Bool} (hS : Shut ops res L) {j : Nat} {o : Oper} (hR : Ripe ops L j o) (hp : Pt res j = true) : Shut ops res (addL L j) where
  lt := fun i hi => by
    by_cases e : i = j
    · rw [e]; exact hR.lt
    · exact hS.lt i (by simpa [addL, e] using hi)
  pt := fun i hi => by
    by_cases e : i = j
    · rw [e]; exact hp
    · exact hS.pt i (by simpa [addL, e] using hi)
  cl := fun i k hi hb => by
    have : L k = true := by
      by_cases e : i = j
      · exact hR.all k (e ▸ hb)
      · exact hS.cl i k (by simpa [addL, e] using hi) hb
    simp [addL, this]

/-! ### the results, looked into -/

theorem drawMove_inv {Bi : Nat} {sp : Moved} {fl : Seen} {tmps : Tm} {H : List Blk} {o : Oper} {r : DRes} (h : drawMove C call Bi sp fl tmps H o = some r) :
    (∃ v H' D, r = .mov v H' D ∧ dirtOf C tmps H o = some D ∧ movesOK Bi sp fl D = true ∧ (evalOp C call none tmps H o = some (.val v H') ∨ (evalOp C call none tmps H o = some (.skip H') ∧ v = unit))) ∨
    (∃ v H' D, r = .pan v H' ∧ movesOK Bi sp fl D = true ∧ evalOp C call none tmps H o = some (.pan v H')) := by
  unfold drawMove at h
  split at h
  · cases h
  · rename_i D hD
    split at h
    · rename_i hm
      split at h
      · rename_i v H' he; cases h; exact .inl ⟨v, H', D, rfl, hD, hm, .inl he⟩
      · rename_i H' he; cases h; exact .inl ⟨_, H', D, rfl, hD, hm, .inr ⟨he, rfl⟩⟩
      · rename_i v H' he; cases h; exact .inr ⟨v, H', D, rfl, hm, he⟩
      · cases h
    · cases h

/-- How it stands with an operation that has come in the text's run. -/
inductive Way (C : Ctx) (call : CallT) (ops : Array Oper) (Bi k : Nat) (sp : Moved) (fl : Seen) (tmps : Tm) (H : List Blk) (o : Oper) : DRes → Prop where
  | off : wantedA ops tmps o = some false → Way C call ops Bi k sp fl tmps H o (.val unit [])
  | new (t : TypeId) : wantedA ops tmps o = some true → kindOf o.op = .alloc t → (∀ e ∈ sp, hits e.2 k = false) → Way C call ops Bi k sp fl tmps H o (.val (.ptr k 0 0 0) [k])
  | look (v : AV) (T : List Nat) : wantedA ops tmps o = some true → (∀ H2, Alike T H H2 → evalOp C call none tmps H2 o = some (.val v H2)) → (∀ b ∈ T, b < H.length) →
      (∀ e ∈ sp, Nat.testBit Bi e.1 = true ∨ freeOf e.2 T = true) → (∀ b ∈ T, ∃ us, evL tmps o.op.operands.toList = some us ∧ b ∈ refsL 0 us) → (∀ t, kindOf o.op ≠ .alloc t) → Way C call ops Bi k sp fl tmps H o (.val v T)
  | mov (v : AV) (H' : List Blk) (D : Dirt) : wantedA ops tmps o = some true → dirtOf C tmps H o = some D → movesOK Bi sp fl D = true →
      (evalOp C call none tmps H o = some (.val v H') ∨ (evalOp C call none tmps H o = some (.skip H') ∧ v = unit)) → Way C call ops Bi k sp fl tmps H o (.mov v H' D)
  | pan (v : AV) (H' : List Blk) (D : Dirt) : wantedA ops tmps o = some true → movesOK Bi sp fl D = true → evalOp C call none tmps H o = some (.pan v H') → Way C call ops Bi k sp fl tmps H o (.pan v H')

theorem drawOp_inv {Bi : Nat} {pan : Option Nat} {k : Nat} {sp : Moved} {fl : Seen} {tmps : Tm} {H : List Blk} {o : Oper} {r : DRes} (h : drawOp C call ops Bi pan k sp fl tmps H o = some r) :
    (r = .dead ∧ ∃ j, pan = some j ∧ Nat.testBit Bi j = true) ∨ Way C call ops Bi k sp fl tmps H o r := by
  have hmove : wantedA ops tmps o = some true → drawMove C call Bi sp fl tmps H o = some r → Way C call ops Bi k sp fl tmps H o r := by
    intro hw hm
    rcases drawMove_inv hm with ⟨v, H', D, rfl, h1, h2, h3⟩ | ⟨v, H', D, rfl, h1, h2⟩
    · exact .mov v H' D hw h1 h2 h3
    · exact .pan v H' D hw h1 h2
  unfold drawOp at h
  split at h
  · rename_i hd
    cases h
    left
    refine ⟨rfl, ?_⟩
    split at hd
    · rename_i j; exact ⟨j, rfl, hd⟩
    · cases hd
  · right
    split at h
    · cases h
    · rename_i hw; cases h; exact .off hw
    · rename_i hw
      split at h
      · rename_i t hk
        split at h
        · rename_i hs
          cases h
          refine .new t hw hk fun e he => ?_
          simpa using List.all_eq_true.1 hs e he
        · cases h
      · rename_i hk
        split at h
        · rename_i v H1 he
          cases h
          obtain ⟨_, h2⟩ := evalOp_pure hk he
          refine .look v [] hw (fun H2 _ => h2 H2) (by simp) (fun e _ => .inr ?_) (by simp) (fun t => by rw [hk]; simp)
          simp [freeOf]
        · cases h
      · rename_i hk
        split at h
        · rename_i us hu
          split at h
          · rename_i hlk
            split at h
            · rename_i v H1 he
              cases h
              obtain ⟨_, h2⟩ := evalOp_looks hk hu he
              simp only [looksOK, Bool.and_eq_true, List.all_eq_true, Nat.blt_eq, Bool.or_eq_true] at hlk
              exact .look v _ hw h2 hlk.1 hlk.2 (fun b hb => ⟨us, hu, hb⟩) (fun t => by rw [hk]; simp)
            · cases h
          · cases h
        · cases h
      · rename_i hk
        split at h
        · rename_i us hu
          split at h
          · rename_i hdt
            split at h
            · rename_i v H1 he
              cases h
              simp only [Bool.and_eq_true] at hdt
              obtain ⟨_, h2⟩ := evalOp_lit hk hu hdt.1 hdt.2 he
              refine .look v [] hw (fun H2 _ => h2 H2) (by simp) (fun e _ => .inr ?_) (by simp) (fun t => by rw [hk]; simp)
              simp [freeOf]
            · cases h
          · split at h
            · exact hmove hw h
            · cases h
        · cases h
      · split at h
        · exact hmove hw h
        · cases h

theorem Dr.way (h : Dr C call ops n t0 Hb bs S res) {i : Nat} {o : Oper} (ho : ops[i]? = some o) :
    (res i = .dead ∧ ∃ j v H, (S i).pan = some (j, v, H) ∧ bef (befs ops.toList []) j i = true) ∨
      Way C call ops ((befs ops.toList []).getD i 0) (S i).k (S i).sp (S i).fl (S i).tmps (S i).heap o (res i) := by
  obtain ⟨o', ho', hd, hn⟩ := h.at1 i (Array.getElem?_eq_some_iff.1 ho).1
  rw [ho] at ho'
  cases ho'
  rcases drawOp_inv hd with ⟨h1, j, h2, h3⟩ | h1
  · left
    simp only [Option.map_eq_some_iff] at h2
    obtain ⟨⟨j', v, H⟩, h4, rfl⟩ := h2
    exact ⟨h1, j', v, H, h4, h3⟩
  · exact .inr h1

theorem Dr.heap_step (h : Dr C call ops n t0 Hb bs S res) {i : Nat} (hi : i < ops.size) (hm : ∀ v H D, res i ≠ .mov v H D) : (S (i + 1)).heap = (S i).heap := by
  obtain ⟨o, ho, hd, hn⟩ := h.at1 i hi
  cases hr : res i with
  | dead => rw [hr] at hn; simp only [Next] at hn; rw [hn]
  | pan v H => rw [hr] at hn; simp only [Next] at hn; rw [hn]
  | val v U => rw [hr] at hn; simp only [Next] at hn; obtain ⟨t, _, hn⟩ := hn; rw [hn]
  | mov v H D => exact absurd hr (hm v H D)

theorem Dr.heap_same (h : Dr C call ops n t0 Hb bs S res) {p : Nat} : ∀ (q : Nat), p ≤ q → q ≤ ops.size → (∀ i, p ≤ i → i < q → ∀ v H D, res i ≠ .mov v H D) → (S q).heap = (S p).heap
  | 0, hp, _, _ => by
    have : p = 0 := by omega
    rw [this]
  | q + 1, hp, hq, hm => by
    by_cases e : p = q + 1
    · rw [e]
    · rw [h.heap_step (by omega) (hm q (by omega) (by omega)), h.heap_same q (by omega) (by omega) fun i h1 h2 => hm i h1 (by omega)]

theorem Dr.heap_keep (h : Dr C call ops n t0 Hb bs S res) {p b : Nat} (hb : b < (S p).heap.length) : ∀ (q : Nat), p ≤ q → q ≤ ops.size →
    (∀ i, p ≤ i → i < q → ∀ v H D, res i = .mov v H D → hits D b = false) → sameB (S p).heap[b]? (S q).heap[b]? ∧ b < (S q).heap.length
  | 0, hp, _, _ => by
    have : p = 0 := by omega
    subst this
    exact ⟨.refl _, hb⟩
  | q + 1, hp, hq, hm => by
    by_cases e : p = q + 1
    · subst e; exact ⟨.refl _, hb⟩
    · obtain ⟨h1, h2⟩ := h.heap_keep hb q (by omega) (by omega) fun i h1 h2 => hm i h1 (by omega)
      by_cases hmov : ∃ v H D, res q = .mov v H D
      · obtain ⟨v, H', D, hr⟩ := hmov
        have hh := hm q (by omega) (by omega) v H' D hr
        obtain ⟨o, ho, hd, hn⟩ := h.at1 q (by omega)
        have hH : (S (q + 1)).heap = H' := by
          rw [hr] at hn; simp only [Next] at hn; obtain ⟨t, _, hn⟩ := hn; rw [hn]
        rcases h.way ho with ⟨hr', _⟩ | hw
        · rw [hr] at hr'; cases hr'
        · rw [hr] at hw
          cases hw with
          | mov _ _ _ hwt hdt hmv hev =>
            cases D with
            | none => simp [hits] at hh
            | some D =>
              have hk : Kept D (S q).heap H' := by
                rcases hev with hev | ⟨hev, _⟩
                · exact dirt_kept hdt hev (.inl ⟨v, rfl⟩)
                · exact dirt_kept hdt hev (.inr rfl)
              rw [hH]
              refine ⟨h1.trans (hk.2 b h2 ?_), Nat.lt_of_lt_of_le h2 hk.1⟩
              simp only [hits] at hh
              intro hmem
              rw [List.contains_iff_mem.2 hmem] at hh
              cases hh
      · have hm' : ∀ v H D, res q ≠ .mov v H D := fun v H D hr => hmov ⟨v, H, D, hr⟩
        rw [h.heap_step (by omega) hm']
        exact ⟨h1, h2⟩

end
end Go.Ai

/-
  A REGION WHOSE ORDER IS DRAWN.
-/
set_option linter.unusedVariables false
set_option linter.unusedSimpArgs false
namespace Go.Ai
section
variable {C : Ctx} {call : CallT} {ops : Array Oper} {n : Nat} {t0 : Tm} {Hb bs : List Blk} {S : Nat → TS} {res : Nat → DRes}
variable {X : Nat → Nat → Prop} {E0 : Env} {H0 : List Blk} {w0 : World} {ds : List (FuncId × List AV)} {L : Nat → Bool}

theorem TRel.congr {im : Nat → Nat → Prop} {w : World} {E : Env} {tmps tmps' : Tm} {a : Act} (h : TRel im w E n tmps a) (hc : ∀ t, getT tmps' t = getT tmps t) : TRel im w E n tmps' a :=
  ⟨h.1, fun t => by rw [hc t]; exact h.2 t⟩

/-- A variable that the region makes. -/
def Al (ops : Array Oper) (S : Nat → TS) (res : Nat → DRes) (i : Nat) : Prop :=
  ∃ o t, ops[i]? = some o ∧ kindOf o.op = .alloc t ∧ (∀ e ∈ (S i).sp, hits e.2 (S i).k = false) ∧ res i = .val (.ptr (S i).k 0 0 0) [(S i).k]

def Inv (ops : Array Oper) (n : Nat) (t0 : Tm) (S : Nat → TS) (res : Nat → DRes) (X : Nat → Nat → Prop) (E0 : Env) (H0 : List Blk) (w0 : World) (ds : List (FuncId × List AV)) (L : Nat → Bool) (a : Act) (w : World) : Prop :=
  ∃ E m, HRel X E (S m).heap w ∧ m ≤ ops.size ∧ (∀ i v H D, i < ops.size → res i = .mov v H D → (L i = true ↔ i < m)) ∧ Step X E0 H0 w0 E (S m).heap w ∧
    TRel (Im X E (S m).heap w) w E n (tmL ops res t0 L ops.size) a ∧ DRel (Im X E (S m).heap w) w E ds a.defers ∧ ∀ i, Al ops S res i → L i = false → E (S i).k = none

theorem mov_bits {Bi : Nat} {sp : Moved} {fl : Seen} {D : Dirt} (h : movesOK Bi sp fl D = true) : (∀ e ∈ sp, Nat.testBit Bi e.1 = true) ∧ ∀ e ∈ fl, Nat.testBit Bi e.1 = true ∨ freeOf D e.2 = true := by
  simp only [movesOK, Bool.and_eq_true, List.all_eq_true, Bool.or_eq_true] at h
  exact h

theorem free_hits {D : Dirt} {T : List Nat} {b : Nat} (h : freeOf D T = true) (hb : b ∈ T) : hits D b = false := by
  simp only [freeOf, List.all_eq_true] at h
  simpa using h b hb

/-- A move: what has moved before it in the text stands before it; what was looked at before it does so too, or is free of it. -/
theorem Dr.moved (h : Dr C call ops n t0 Hb bs S res) {j : Nat} {v : AV} {H : List Blk} {D : Dirt} (hj : j < ops.size) (hr : res j = .mov v H D) :
    (∀ i v' H' D', i < j → res i = .mov v' H' D' → bef (befs ops.toList []) i j = true) ∧ ∀ i v' T, i < j → res i = .val v' T → bef (befs ops.toList []) i j = true ∨ freeOf D T = true := by
  obtain ⟨o, ho⟩ := size_get hj
  rcases h.way ho with ⟨hr', _⟩ | hw
  · rw [hr] at hr'; cases hr'
  · rw [hr] at hw
    cases hw with
    | mov _ _ _ hwt hdt hmv hev =>
      obtain ⟨h1, h2⟩ := mov_bits hmv
      exact ⟨fun i v' H' D' hi hri => h1 _ ((h.sp j (by omega) i D').2 ⟨hi, v', H', hri⟩), fun i v' T hi hri => h2 _ ((h.fl j (by omega) i T).2 ⟨hi, v', hri⟩)⟩

theorem Dr.al_cells (h : Dr C call ops n t0 Hb bs S res) {i : Nat} (ha : Al ops S res i) : ∃ cs nn o t, ops[i]? = some o ∧ kindOf o.op = .alloc t ∧ (S 0).heap[(S i).k]? = some (.cells nn 0 [cs] false) ∧
    (zeroT C.P t).bind (fun z => cellsA (absV z)) = some cs ∧ szT C.P t = some nn ∧ cs.length = nn ∧ Hb.length ≤ (S i).k := by
  obtain ⟨o, t, ho, hk, _, hr⟩ := ha
  have hi : i < ops.size := (Array.getElem?_eq_some_iff.1 ho).1
  obtain ⟨cs, nn, h1, h2, h3, h4⟩ := layAllocs_spec h.lay i o t (by simpa using ho) hk
  refine ⟨cs, nn, o, t, ho, hk, ?_, h2, h3, h4, ?_⟩
  · rw [h.k i (by omega), h.s0]
    simp only
    rw [List.getElem?_append_right (by omega), Nat.add_sub_cancel_left]
    exact h1
  · rw [h.k i (by omega)]; omega

theorem Dr.al_ne (h : Dr C call ops n t0 Hb bs S res) {i j : Nat} (hi : Al ops S res i) (hj : Al ops S res j) (hne : i ≠ j) : (S i).k ≠ (S j).k := by
  have key : ∀ {i j : Nat}, Al ops S res i → Al ops S res j → i < j → (S i).k < (S j).k := by
    intro i j hi hj hlt
    obtain ⟨o, t, ho, hk, _, _⟩ := hi
    obtain ⟨o', t', ho', hk', _, _⟩ := hj
    have hjs : j < ops.size := (Array.getElem?_eq_some_iff.1 ho').1
    rw [h.k i (by omega), h.k j (by omega)]
    have h1 := cnt_succ (os := ops.toList) (i := i) (o := o) (by simpa using ho)
    simp only [hk] at h1
    have mono : ∀ (d p : Nat), p + d ≤ ops.size → cnt ops.toList p ≤ cnt ops.toList (p + d) := by
      intro d
      induction d with
      | zero => intro p _; exact Nat.le_refl _
      | succ d ih =>
        intro p hp
        have h2 := ih p (by omega)
        obtain ⟨x, hx⟩ := size_get (ops := ops) (i := p + d) (by omega)
        have h3 := cnt_succ (os := ops.toList) (i := p + d) (o := x) (by simpa using hx)
        rw [show p + (d + 1) = p + d + 1 by omega, h3]
        omega
    have h2 := mono (j - (i + 1)) (i + 1) (by omega)
    rw [show i + 1 + (j - (i + 1)) = j by omega] at h2
    omega
  rcases Nat.lt_or_gt_of_ne hne with h1 | h1
  · have := key hi hj h1; omega
  · have := key hj hi h1; omega

/-- A variable's block is as it was laid, as long as its turn has not come. -/
theorem Dr.al_keep (h : Dr C call ops n t0 Hb bs S res) (hS : Shut ops res L) {m : Nat} (hm : m ≤ ops.size) (hL : ∀ i v H D, i < ops.size → res i = .mov v H D → (L i = true ↔ i < m)) {i : Nat} (ha : Al ops S res i) (hu : L i = false) :
    sameB (S 0).heap[(S i).k]? (S m).heap[(S i).k]? := by
  obtain ⟨cs, nn, o, t, ho, hk, h1, _⟩ := h.al_cells ha
  obtain ⟨_, _, _, _, hsp, hri⟩ := ha
  have hi : i < ops.size := (Array.getElem?_eq_some_iff.1 ho).1
  have hlt : (S i).k < (S 0).heap.length := by
    rcases Nat.lt_or_ge (S i).k (S 0).heap.length with h9 | h9
    · exact h9
    · rw [List.getElem?_eq_none h9] at h1; cases h1
  refine (h.heap_keep hlt m (by omega) hm fun q h2 h3 v H D hq => ?_).1
  have hLq := (hL q v H D (by omega) hq).2 h3
  rcases Nat.lt_or_ge q i with h4 | h4
  · exact hsp (q, D) ((h.sp i (by omega) q D).2 ⟨h4, v, H, hq⟩)
  · have hne : q ≠ i := by rintro rfl; rw [hri] at hq; cases hq
    rcases (h.moved (by omega) hq).2 i _ _ (by omega) hri with hb | hf
    · have := hS.cl q i hLq hb
      rw [hu] at this
      cases this
    · exact free_hits hf (by simp)

theorem Dr.al_isC (h : Dr C call ops n t0 Hb bs S res) (hS : Shut ops res L) {m : Nat} (hm : m ≤ ops.size) (hL : ∀ i v H D, i < ops.size → res i = .mov v H D → (L i = true ↔ i < m)) {i : Nat} (ha : Al ops S res i) (hu : L i = false) :
    IsC (S m).heap (S i).k := by
  obtain ⟨cs, nn, o, t, ho, hk, h1, _⟩ := h.al_cells ha
  obtain ⟨fz, h2⟩ := (h.al_keep hS hm hL ha hu).cells h1
  exact ⟨_, _, _, _, h2⟩

theorem looksAt_op {o : Oper} {t : Tmp} (h : Operand.tmp t ∈ o.op.operands.toList) : t ∈ o.looksAt ops :=
  List.mem_append_left _ (List.mem_filterMap.2 ⟨.tmp t, h, rfl⟩)

theorem Dr.evs (h : Dr C call ops n t0 Hb bs S res) (hS : Shut ops res L) {j : Nat} {o : Oper} (hR : Ripe ops L j o) : ∀ x ∈ o.op.operands.toList, ev (S j).tmps x = ev (tmL ops res t0 L ops.size) x := by
  intro x hx
  cases x with
  | tmp t => simp only [ev, h.sees hS hR (looksAt_op hx)]
  | _ => rfl

theorem Dr.wants (h : Dr C call ops n t0 Hb bs S res) (hS : Shut ops res L) {j : Nat} {o : Oper} (hR : Ripe ops L j o) : wantedA ops (tmL ops res t0 L ops.size) o = wantedA ops (S j).tmps o := by
  unfold wantedA
  split
  · rfl
  · rename_i g want hg
    split
    · rfl
    · rename_i d hd
      rw [h.sees hS hR (t := d) (List.mem_append_right _ (by simp [hg, hd]))]

theorem putA_any {r r' : Tm} {d : Option Tmp} {v t} (h : putA n r d v = some t) : ∃ t', putA n r' d v = some t' ∧ ∀ x, getT t' x = if d = some x then v else getT r' x := by
  cases d with
  | none =>
    refine ⟨r', rfl, fun x => by simp⟩
  | some d =>
    simp only [putA] at h ⊢
    split at h
    · rename_i hb
      refine ⟨(d, v) :: r', by simp [hb], fun x => ?_⟩
      rw [getT_cons]
      simp
    · cases h

theorem Dr.put (h : Dr C call ops n t0 Hb bs S res) (hS : Shut ops res L) {j : Nat} {o : Oper} (hR : Ripe ops L j o) {im : Nat → Nat → Prop} {w : World} {E : Env} {a : Act} {x : Value}
    (ht : TRel im w E n (tmL ops res t0 L ops.size) a) (hv : V im w (valAt res j) E x) (hp : Pt res j = true) : TRel im w E n (tmL ops res t0 (addL L j) ops.size) (a.put o.dst x) := by
  have hput : ∃ t, putA n (S j).tmps o.dst (valAt res j) = some t := by
    obtain ⟨o', ho', hd, hn⟩ := h.at1 j hR.lt
    rw [hR.op] at ho'
    cases ho'
    cases hr : res j with
    | dead => simp [Pt, hr] at hp
    | pan v H => simp [Pt, hr] at hp
    | val v U => rw [hr] at hn; simp only [Next] at hn; obtain ⟨t, hp, _⟩ := hn; exact ⟨t, by simpa [valAt, hr] using hp⟩
    | mov v H U => rw [hr] at hn; simp only [Next] at hn; obtain ⟨t, hp, _⟩ := hn; exact ⟨t, by simpa [valAt, hr] using hp⟩
  obtain ⟨t, hput⟩ := hput
  obtain ⟨t', h1, h2⟩ := putA_any (r' := tmL ops res t0 L ops.size) hput
  exact (ht.put h1 hv).congr fun y => by rw [h.puts hS hR y, h2 y]

/-- What only looks finds the same. -/
theorem Dr.look_alike (h : Dr C call ops n t0 Hb bs S res) (hS : Shut ops res L) {j : Nat} {o : Oper} (hR : Ripe ops L j o) {m : Nat} (hm : m ≤ ops.size)
    (hL : ∀ i v H D, i < ops.size → res i = .mov v H D → (L i = true ↔ i < m)) {v : AV} {T : List Nat} (hr : res j = .val v T) (hlt : ∀ b ∈ T, b < (S j).heap.length)
    (hsp : ∀ e ∈ (S j).sp, Nat.testBit ((befs ops.toList []).getD j 0) e.1 = true ∨ freeOf e.2 T = true) (hin : ∀ b ∈ T, b < (S m).heap.length) : Alike T (S j).heap (S m).heap := by
  intro b hb
  have hj := hR.lt
  rcases Nat.le_total m j with hmj | hmj
  · refine (h.heap_keep (hin b hb) j hmj (by omega) fun i h1 h2 v' H D hi => ?_).1.symm
    rcases hsp (i, D) ((h.sp j (by omega) i D).2 ⟨h2, v', H, hi⟩) with hbt | hf
    · have := (hL i v' H D (by omega) hi).1 (hR.all i hbt)
      omega
    · exact free_hits hf hb
  · refine (h.heap_keep (hlt b hb) m hmj hm fun i h1 h2 v' H D hi => ?_).1
    have hLi := (hL i v' H D (by omega) hi).2 h2
    have hne : i ≠ j := by rintro rfl; rw [hr] at hi; cases hi
    rcases (h.moved (by omega) hi).2 j _ _ (by omega) hr with hbt | hf
    · have := hS.cl i j hLi hbt
      rw [hR.un] at this
      cases this
    · exact free_hits hf hb

theorem Dr.not_dead (h : Dr C call ops n t0 Hb bs S res) (hS : Shut ops res L) {j : Nat} {o : Oper} (hR : Ripe ops L j o) : Way C call ops ((befs ops.toList []).getD j 0) (S j).k (S j).sp (S j).fl (S j).tmps (S j).heap o (res j) := by
  rcases h.way hR.op with ⟨_, j', v, H, hp, hb⟩ | hw
  · have h1 := hS.pt j' (hR.all j' hb)
    have h2 := ((h.pan j (by have := hR.lt; omega)).1 j' v H hp).2
    simp [Pt, h2] at h1
  · exact hw

/-- A move finds the heap as in the text's run. -/
theorem Dr.mov_heap (h : Dr C call ops n t0 Hb bs S res) {j : Nat} {o : Oper} (hR : Ripe ops L j o) {m : Nat} (hm : m ≤ ops.size)
    (hL : ∀ i v H D, i < ops.size → res i = .mov v H D → (L i = true ↔ i < m)) (hb : ∀ i v' H' D', i < j → res i = .mov v' H' D' → bef (befs ops.toList []) i j = true) (hmj : (∃ v H D, res j = .mov v H D) ∨ ∀ i v H D, j ≤ i → i < ops.size → res i ≠ .mov v H D) :
    (S m).heap = (S j).heap := by
  have hj := hR.lt
  rcases Nat.le_total m j with h1 | h1
  · exact (h.heap_same j h1 (by omega) fun i h2 h3 v H D hi => by
      have := (hL i v H D (by omega) hi).1 (hR.all i (hb i v H D h3 hi))
      omega).symm
  · rcases hmj with ⟨v, H, D, hr⟩ | hno
    · rcases Nat.eq_or_lt_of_le h1 with h2 | h2
      · rw [h2]
      · have := (hL j v H D hj hr).2 h2
        rw [hR.un] at this
        cases this
    · exact h.heap_same m h1 hm fun i h2 h3 => fun v H D => hno i v H D h2 (by omega)

theorem Dr.op_sound (h : Dr C call ops n t0 Hb bs S res) (hc : CallOK C.P call) (hp : ∀ f F, C.prims f = some F → PrimOK C.P f F)
    (hname : ∀ (f : FuncId) (fn : Func), C.P.funcs[f]? = some fn → fn.name ≠ "runtime.NumGoroutine") (hb0 : H0.length ≤ Hb.length) (hS : Shut ops res L) {j : Nat} {o : Oper} (hR : Ripe ops L j o)
    {a : Act} {w : World} (hI : Inv ops n t0 S res X E0 H0 w0 ds L a w) {K : Act → World → Prop} {Q : Exit → Act → World → Prop}
    (hK : ∀ (x : Value) (w' : World), Pt res j = true → Inv ops n t0 S res X E0 H0 w0 ds (addL L j) (a.put o.dst x) w' → K (a.put o.dst x) w')
    (hQ : ∀ (v : AV) (H' : List Blk) (x : Value) (w' : World) (E : Env), res j = .pan v H' → HRel X E H' w' → Step X E0 H0 w0 E H' w' → TRel (Im X E H' w') w' E n (tmL ops res t0 L ops.size) a →
      DRel (Im X E H' w') w' E ds a.defers → V (Im X E H' w') w' v E x → Q (.panic [{ v := x, recovered := false }]) a w') : wpOp C.P ops Q j K a w := by
  obtain ⟨E, m, hH, hm, hL, hst, ht, hd, hal⟩ := hI
  have hj := hR.lt
  have hw := h.wants hS hR
  have hev : ∀ (H : List Blk), evalOp C call none (tmL ops res t0 L ops.size) H o = evalOp C call none (S j).tmps H o := fun H => (evalOp_congr (h.evs hS hR)).symm
  -- all but the moves: nothing of the text's heap turns
  have stay : ∀ (x : Value) (w' : World) (E' : Env), Pt res j = true → (∀ v H D, res j ≠ .mov v H D) → HRel X E' (S m).heap w' → Step X E0 H0 w0 E' (S m).heap w' →
      (∀ B o, Im X E (S m).heap w B o → Im X E' (S m).heap w' B o ∧ w'.cell? ⟨B, o, none⟩ = w.cell? ⟨B, o, none⟩) → Le E E' → V (Im X E' (S m).heap w') w' (valAt res j) E' x →
      (∀ i, Al ops S res i → addL L j i = false → E' (S i).k = none) → K (a.put o.dst x) w' := by
    intro x w' E' hpt hnm h1 h2 h3 h4 h5 h6
    refine hK x w' hpt ⟨E', m, h1, hm, fun i v H D hi hri => ?_, h2, h.put hS hR (ht.mono h3 h4) h5 hpt, ?_, h6⟩
    · have hne : i ≠ j := by rintro rfl; exact hnm v H D hri
      simpa [addL, hne] using hL i v H D hi hri
    · rw [put_defers']
      exact hd.mono h3 h4
  have sub : ∀ i, addL L j i = false → i ≠ j ∧ L i = false := by
    intro i hi
    simp only [addL, Bool.or_eq_false_iff, beq_eq_false_iff_ne] at hi
    exact hi
  unfold wpOp
  simp only [hR.op]
  have hway := h.not_dead hS hR
  generalize hrj : res j = rj at hway
  cases hway with
  | off hwf =>
    rw [wanted_sound ht (hw.trans hwf)]
    simp only [Bool.false_eq_true, if_false]
    refine stay _ w E (by simp [Pt, hrj]) (by rw [hrj]; simp) hH hst (fun B o hi => ⟨hi, rfl⟩) (Le.refl _) ?_ fun i h1 h2 => hal i h1 (sub i h2).2
    simp only [valAt, hrj]
    exact unit_ok
  | new t hwt hk hsp =>
    rw [wanted_sound ht (hw.trans hwt)]
    simp only [if_true]
    left
    have ha : Al ops S res j := ⟨o, t, hR.op, hk, hsp, hrj⟩
    obtain ⟨cs, nn, o', t', ho', hk', h1, h2, h3, h4, h5⟩ := h.al_cells ha
    rw [hR.op] at ho'
    cases ho'
    rw [hk] at hk'
    cases hk'
    obtain ⟨fz, h6⟩ := (h.al_keep hS hm hL ha hR.un).cells h1
    obtain ⟨x, w', E', hr, g1, g2, g3, g4, g5, g6⟩ := hH.birth hst h6 (hal j ha hR.un) (by omega) h2 h3 h4 (.tuple #[])
    have hop : ∃ t2, o.op = .alloc t2 ∧ t2 = t := by
      obtain ⟨dst, op, ty, pos, after, guard⟩ := o
      simp only at hk
      cases op
      case alloc t2 => simp only [kindOf, Kind.alloc.injEq] at hk; exact ⟨t2, rfl, hk⟩
      case call c =>
        obtain ⟨cal, args, tys⟩ := c
        cases cal with
        | builtin b => cases b <;> simp only [kindOf] at hk <;> cases hk
        | _ => simp only [kindOf] at hk; cases hk
      all_goals (simp only [kindOf] at hk; cases hk)
    obtain ⟨t2, hop, rfl⟩ := hop
    refine wp_val (Instr.alloc t2 true (.tuple #[])) (by simp only [execOp, hop] <;> rfl) hr ?_
    refine stay x w' E' (by simp [Pt, hrj]) (by rw [hrj]; simp) g1 g2 g4 g5 (by simpa only [valAt, hrj] using g3) fun i k1 k2 => ?_
    obtain ⟨k3, k4⟩ := sub i k2
    exact g6 _ (h.al_ne k1 ha k3) (h.al_isC hS hm hL k1 k4) (hal i k1 k4)
  | look v T hwt hlk hlt hsp hin hnk =>
    rw [wanted_sound ht (hw.trans hwt)]
    simp only [if_true]
    left
    have hT : ∀ b ∈ T, b < (S m).heap.length := by
      intro b hb
      obtain ⟨us, hu, hbu⟩ := hin b hb
      have hu' : evL (tmL ops res t0 L ops.size) o.op.operands.toList = some us := by
        rw [← hu]
        exact (evL_congr (h.evs hS hR)).symm
      obtain ⟨l, hl⟩ := VL_refs (evL_sound ht hu') hbu
      obtain ⟨k, hk⟩ := hH.inDom hl
      rcases Nat.lt_or_ge b (S m).heap.length with h9 | h9
      · exact h9
      · rw [List.getElem?_eq_none h9] at hk; cases hk
    have he := hlk _ (h.look_alike hS hR hm hL hrj hlt hsp hT)
    rw [← hev] at he
    refine evalOp_sound hc hp hname hH ht he ?_
    rintro x w' ⟨E', g1, g2, g3⟩
    refine stay x w' E' (by simp [Pt, hrj]) (by rw [hrj]; simp) g1 (hst.trans g2) g2.im g2.le (by simpa only [valAt, hrj] using g3) fun i k1 k2 => ?_
    obtain ⟨k3, k4⟩ := sub i k2
    exact (g2.nb _ (h.al_isC hS hm hL k1 k4) (hal i k1 k4)).2
  | mov v H' D hwt hdt hmv hevl =>
    rw [wanted_sound ht (hw.trans hwt)]
    simp only [if_true]
    left
    obtain ⟨hb1, _⟩ := h.moved hj hrj
    have hheap := h.mov_heap hR hm hL hb1 (.inl ⟨v, H', D, hrj⟩)
    have hS1 : (S (j + 1)).heap = H' := by
      obtain ⟨o', ho', hd', hn⟩ := h.at1 j hj
      rw [hrj] at hn
      simp only [Next] at hn
      obtain ⟨t, _, hn⟩ := hn
      rw [hn]
    have hmj : m ≤ j := by
      rcases Nat.lt_or_ge j m with h1 | h1
      · have := (hL j v H' D hj hrj).2 h1
        rw [hR.un] at this
        cases this
      · exact h1
    have go : ∀ (x : Value) (w' : World) (E' : Env), HRel X E' H' w' → Step X E (S m).heap w E' H' w' → V (Im X E' H' w') w' v E' x → K (a.put o.dst x) w' := by
      intro x w' E' g1 g2 g3
      have hpt : Pt res j = true := by simp [Pt, hrj]
      refine hK x w' hpt ⟨E', j + 1, by rw [hS1]; exact g1, by omega, fun i v' H2 D' hi hri => ?_, by rw [hS1]; exact hst.trans g2, ?_, ?_, fun i k1 k2 => ?_⟩
      · by_cases e : i = j
        · subst e; simp [addL]
        · have h1 := hL i v' H2 D' hi hri
          simp only [addL, beq_iff_eq, e, Bool.or_eq_true, false_or]
          rw [h1]
          constructor
          · intro h2; omega
          · intro h2
            exact h1.1 (hR.all i (hb1 i v' H2 D' (by omega) hri))
      · rw [hS1]
        exact h.put hS hR (ht.mono g2.im g2.le) (by simpa only [valAt, hrj] using g3) hpt
      · rw [hS1, put_defers']
        exact hd.mono g2.im g2.le
      · obtain ⟨k3, k4⟩ := sub i k2
        exact (g2.nb _ (h.al_isC hS hm hL k1 k4) (hal i k1 k4)).2
    rcases hevl with he | ⟨he, rfl⟩
    · rw [← hheap, ← hev] at he
      refine evalOp_sound hc hp hname hH ht he ?_
      rintro x w' ⟨E', g1, g2, g3⟩
      exact go x w' E' g1 g2 g3
    · rw [← hheap, ← hev] at he
      refine evalOp_sound hc hp hname hH ht he ?_
      rintro w' g1 g2
      exact go _ w' E g1 g2 unit_ok
  | pan v H' D hwt hmv hevl =>
    rw [wanted_sound ht (hw.trans hwt)]
    simp only [if_true]
    left
    obtain ⟨hb1, _⟩ := mov_bits hmv
    have hheap : (S m).heap = (S j).heap := by
      refine h.mov_heap hR hm hL (fun i v' H2 D' hi hri => hb1 _ ((h.sp j (by omega) i D').2 ⟨hi, v', H2, hri⟩)) (.inr fun i v' H2 D' hji hi hri => ?_)
      -- behind a panic nothing moves
      have hne : i ≠ j := by rintro rfl; rw [hrj] at hri; cases hri
      obtain ⟨o', ho', hd', hn⟩ := h.at1 i hi
      obtain ⟨_, hp2⟩ := h.pan i (by omega)
      cases hpi : (S i).pan with
      | none => exact hp2 hpi j v H' (by omega) hrj
      | some q =>
        rw [hri, hpi] at hd'
        unfold drawOp at hd'
        simp only [Option.map_some] at hd'
        split at hd'
        · cases hd'
        · split at hd'
          · cases hd'
          · cases hd'
          · split at hd'
            · split at hd' <;> cases hd'
            · split at hd' <;> cases hd'
            · split at hd'
              · split at hd'
                · split at hd' <;> cases hd'
                · cases hd'
              · cases hd'
            · split at hd'
              · split at hd'
                · split at hd' <;> cases hd'
                · cases hd'
              · cases hd'
            · cases hd'
    rw [← hheap, ← hev] at hevl
    refine evalOp_sound hc hp hname hH ht hevl ?_
    rintro x w' ⟨E', g1, g2, g3⟩
    exact hQ v H' x w' E' hrj g1 (hst.trans g2) (ht.mono g2.im g2.le) (hd.mono g2.im g2.le) g3

end
end Go.Ai

/-
  A REGION WHOSE ORDER IS DRAWN, whole.
-/
set_option linter.unusedVariables false
set_option linter.unusedSimpArgs false
namespace Go.Ai
section
variable {C : Ctx} {call : CallT} {ops : Array Oper} {n : Nat} {t0 : Tm} {Hb bs : List Blk} {S : Nat → TS} {res : Nat → DRes}
variable {X : Nat → Nat → Prop} {E E0 : Env} {H H0 : List Blk} {w w0 : World} {ds : List (FuncId × List AV)} {L : Nat → Bool}

theorem drawOp_after {Bi : Nat} {q k : Nat} {sp : Moved} {fl : Seen} {tmps : Tm} {H : List Blk} {o : Oper} {r : DRes} (h : drawOp C call ops Bi (some q) k sp fl tmps H o = some r) : r = .dead ∨ ∃ v T, r = .val v T := by
  unfold drawOp at h
  simp only at h
  split at h
  · cases h; exact .inl rfl
  · right
    split at h
    · cases h
    · cases h; exact ⟨_, _, rfl⟩
    · split at h
      · split at h
        · cases h; exact ⟨_, _, rfl⟩
        · cases h
      · split at h
        · cases h; exact ⟨_, _, rfl⟩
        · cases h
      · split at h
        · split at h
          · split at h
            · cases h; exact ⟨_, _, rfl⟩
            · cases h
          · cases h
        · cases h
      · split at h
        · split at h
          · split at h
            · cases h; exact ⟨_, _, rfl⟩
            · cases h
          · cases h
        · cases h
      · cases h

theorem Dr.pan_one (h : Dr C call ops n t0 Hb bs S res) {i j : Nat} {v v' : AV} {H H' : List Blk} (hj : j < ops.size) (hi : res i = .pan v H) (hr : res j = .pan v' H') : ¬ i < j := by
  intro hij
  obtain ⟨o, ho, hd, hn⟩ := h.at1 j hj
  obtain ⟨_, hp2⟩ := h.pan j (by omega)
  cases hpj : (S j).pan with
  | none => exact hp2 hpj i v H hij hi
  | some q =>
    rw [hr, hpj] at hd
    rcases drawOp_after hd with h1 | ⟨_, _, h1⟩ <;> cases h1

theorem undefs_get : ∀ (os : List Oper) (t : Nat), ((∃ o ∈ os, o.dst = some t) → getT (undefs os t0) t = .undef) ∧ ((∀ o ∈ os, o.dst ≠ some t) → getT (undefs os t0) t = getT t0 t)
  | [], t => by simp [undefs]
  | o :: os, t => by
    obtain ⟨h1, h2⟩ := undefs_get os t
    cases hd : o.dst with
    | none =>
      simp only [undefs, hd]
      refine ⟨?_, ?_⟩
      · rintro ⟨o', ho', hd'⟩
        refine h1 ⟨o', ?_, hd'⟩
        rcases List.mem_cons.1 ho' with rfl | h3
        · rw [hd] at hd'; cases hd'
        · exact h3
      · intro h3
        exact h2 fun o' ho' => h3 o' (by simp [ho'])
    | some d =>
      simp only [undefs, hd]
      rw [getT_cons]
      by_cases e : d = t
      · subst e
        refine ⟨fun _ => by simp, fun h3 => absurd hd (h3 o (by simp))⟩
      · rw [if_neg e]
        refine ⟨?_, ?_⟩
        · rintro ⟨o', ho', hd'⟩
          refine h1 ⟨o', ?_, hd'⟩
          rcases List.mem_cons.1 ho' with rfl | h3
          · rw [hd] at hd'; cases hd'; exact absurd rfl e
          · exact h3
        · intro h3
          exact h2 fun o' ho' => h3 o' (by simp [ho'])

/-- How a drawn region ends. -/
def endD (n : Nat) (ops : Array Oper) (t0 : Tm) (ds : List (FuncId × List AV)) (s : TS) : Ex × St :=
  match s.pan with
  | none => (.normal, ⟨n, s.tmps, s.heap, ds⟩)
  | some (_, v, H) => (.pan v, ⟨n, undefs ops.toList t0, H, ds⟩)

theorem Dr.any_sound (h : Dr C call ops n t0 Hb bs S res) (hc : CallOK C.P call) (hp : ∀ f F, C.prims f = some F → PrimOK C.P f F)
    (hname : ∀ (f : FuncId) (fn : Func), C.P.funcs[f]? = some fn → fn.name ≠ "runtime.NumGoroutine") (hb0 : H0.length ≤ Hb.length) {W : List Nat}
    (hW : ∀ (i : Nat) (o : Oper) (d : Tmp), ops[i]? = some o → o.dst = some d → d ∈ W) {a0 : Act} : ∀ (fuel : Nat) (listed : Array Bool) (l : List Nat) (a : Act) (w : World), l.length ≤ fuel →
      (∀ i, i < ops.size → listed.getD i false = false → i ∈ l) → listed.size = ops.size → Shut ops res (fun i => listed.getD i false) → Inv ops n t0 S res X E0 H0 w0 ds (fun i => listed.getD i false) a w → Fr W a0 a →
      wpAny C.P .any ops (fun e a' w' => Post X E0 H0 w0 (endD n ops t0 ds (S ops.size)) e a' w' ∧ Fr W a0 a') fuel listed a w := by
  have fin : ∀ (listed : Array Bool) (a : Act) (w : World), (∀ i, i < ops.size → listed.getD i false = true) → Shut ops res (fun i => listed.getD i false) → Inv ops n t0 S res X E0 H0 w0 ds (fun i => listed.getD i false) a w → Fr W a0 a →
      Post X E0 H0 w0 (endD n ops t0 ds (S ops.size)) .normal a w ∧ Fr W a0 a := by
    intro listed a w hall hS hI hf
    refine ⟨?_, hf⟩
    obtain ⟨hp1, hp2⟩ := h.pan ops.size (Nat.le_refl _)
    unfold endD
    split
    · rename_i hpn
      obtain ⟨E, m, hH, hm, hL, hst, ht, hd, hal⟩ := hI
      have hheap : (S ops.size).heap = (S m).heap := h.heap_same ops.size hm (Nat.le_refl _) fun i h1 h2 v H D hi => by
        have := (hL i v H D h2 hi).1 (hall i h2)
        omega
      refine ⟨rfl, E, ?_⟩
      simp only
      rw [hheap]
      refine ⟨hH, hst, ht.congr fun t => ?_, hd, by simp [V]⟩
      rw [h.tmps ops.size (Nat.le_refl _)]
      exact tmL_congr _ fun i hi _ => by rw [hS.pt i (hall i hi), hall i hi]
    · rename_i j v H hpn
      obtain ⟨h1, h2⟩ := hp1 j v H hpn
      have := hS.pt j (hall j h1)
      simp [Pt, h2] at this
  have allOf : ∀ (listed : Array Bool), listed.size = ops.size → Region.ready .any ops listed = [] → ∀ i, i < ops.size → listed.getD i false = true := by
    intro listed hsz hr i
    induction i using Nat.strongRecOn with
    | _ i ih =>
      intro hi
      cases hli : listed.getD i false with
      | true => rfl
      | false =>
        exfalso
        obtain ⟨o, ho⟩ := size_get hi
        have : i ∈ Region.ready .any ops listed := by
          rw [mem_ready]
          refine ⟨?_, o, ho, fun e he hb => ?_⟩
          · rw [Array.getD_eq_getD_getElem?] at hli ⊢
            have : i < listed.size := by omega
            simp [this] at hli ⊢
            exact hli
          · have hlt := edgesOK_spec h.edges i o (by simpa using ho) e (by simpa using he) hb
            exact ih e.on (by omega) (by omega)
        rw [hr] at this
        cases this
  intro fuel
  induction fuel with
  | zero =>
    intro listed l a w hl hin hsz hS hI hf
    have hl0 : l = [] := by cases l with | nil => rfl | cons x xs => simp at hl
    subst hl0
    have hall : ∀ i, i < ops.size → listed.getD i false = true := by
      intro i hi
      cases hli : listed.getD i false with
      | true => rfl
      | false => have := hin i hi hli; cases this
    refine ⟨?_, fin listed a w hall hS hI hf⟩
    cases hr : Region.ready .any ops listed with
    | nil => rfl
    | cons j js =>
      exfalso
      have hj : j ∈ Region.ready .any ops listed := by rw [hr]; simp
      obtain ⟨h1, o, ho, _⟩ := mem_ready.1 hj
      have hjs : j < ops.size := (Array.getElem?_eq_some_iff.1 ho).1
      have h2 := hall j hjs
      rw [Array.getD_eq_getD_getElem?] at h1 h2
      have : j < listed.size := by omega
      simp [this] at h1 h2
      rw [h1] at h2
      cases h2
  | succ fuel ih =>
    intro listed l a w hl hin hsz hS hI hf
    refine ⟨fun hr => fin listed a w (allOf listed hsz hr) hS hI hf, fun j hj => ?_⟩
    obtain ⟨h1, o, ho, hall⟩ := mem_ready.1 hj
    have hjs : j < ops.size := (Array.getElem?_eq_some_iff.1 ho).1
    have hjl : j < listed.size := by omega
    have hun : listed.getD j false = false := by
      rw [Array.getD_eq_getD_getElem?] at h1 ⊢
      simp [hjl] at h1 ⊢
      exact h1
    have hR : Ripe ops (fun i => listed.getD i false) j o := by
      refine ⟨ho, hun, fun i hb => ?_⟩
      obtain ⟨e, he, hbd, hon⟩ := (bef_spec h.edges ho).1 hb
      have h2 := hall e (by simpa using he) hbd
      rcases hon with rfl | hon
      · exact h2
      · exact hS.cl e.on i h2 hon
    have hset : (fun i => (listed.setIfInBounds j true).getD i false) = addL (fun i => listed.getD i false) j := by
      funext i
      by_cases e : i = j
      · subst e
        simp [addL, Array.getD_eq_getD_getElem?, hjl]
      · simp [addL, Array.getD_eq_getD_getElem?, Array.getElem?_setIfInBounds_ne (Ne.symm e), e]
    refine h.op_sound hc hp hname hb0 hS hR hI ?_ ?_
    · intro x w' hpt hI'
      refine ih (listed.setIfInBounds j true) (l.erase j) _ w' ?_ ?_ (by simpa using hsz) ?_ ?_ ?_
      · rw [List.length_erase_of_mem (hin j hjs hun)]
        omega
      · intro i hi hli
        have hli' : addL (fun i => listed.getD i false) j i = false := by rw [← hset]; exact hli
        simp only [addL, Bool.or_eq_false_iff, beq_eq_false_iff_ne] at hli'
        exact (List.mem_erase_of_ne hli'.1).2 (hin i hi hli'.2)
      · rw [hset]
        exact h.shut hS hR hpt
      · rw [hset]
        exact hI'
      · exact hf.trans (Fr.put fun t e => hW j o t ho e)
    · intro v H' x w' E hrj g1 g2 g3 g4 g5
      refine ⟨?_, hf⟩
      obtain ⟨hp1, hp2⟩ := h.pan ops.size (Nat.le_refl _)
      unfold endD
      split
      · rename_i hpn
        exact absurd hrj (hp2 hpn j v H' hjs)
      · rename_i j' v' H2 hpn
        obtain ⟨h2, h3⟩ := hp1 j' v' H2 hpn
        have : j' = j := by
          rcases Nat.lt_trichotomy j' j with h4 | h4 | h4
          · exact absurd h4 (h.pan_one hjs h3 hrj)
          · exact h4
          · exact absurd h4 (h.pan_one h2 hrj h3)
        subst this
        rw [hrj] at h3
        cases h3
        refine ⟨x, rfl, E, g1, g2, ⟨g3.1, fun t => ?_⟩, g4, g5⟩
        obtain ⟨u1, u2⟩ := undefs_get (t0 := t0) ops.toList t
        simp only
        by_cases hd : ∃ o ∈ ops.toList, o.dst = some t
        · rw [u1 hd]
          simp [V]
        · have hd' : ∀ o ∈ ops.toList, o.dst ≠ some t := fun o ho hq => hd ⟨o, ho, hq⟩
          rw [u2 hd']
          have h5 := g3.2 t
          rw [tmL_ext (j := 0) ops.size (Nat.zero_le _) ?_] at h5
          · exact h5
          · intro i _ hi _ hdi
            obtain ⟨oi, hoi⟩ := size_get hi
            simp only [dstAt, hoi, Option.bind_some] at hdi
            exact hd' oi (by simpa using Array.mem_of_getElem? hoi) hdi

/-- Blocks that nobody knows of yet may be laid. -/
theorem HRel.more (h : HRel X E H w) {bs : List Blk} (hb : ∀ k ∈ bs, ∃ s g es fz, k = .cells s g es fz) : HRel X E (H ++ bs) w ∧ Step X E H w E (H ++ bs) w := by
  have hlt : ∀ {b l}, E b = some l → b < H.length := by
    intro b l hE
    obtain ⟨k, hk⟩ := h.inDom hE
    rcases Nat.lt_or_ge b H.length with h9 | h9
    · exact h9
    · rw [List.getElem?_eq_none h9] at hk; cases hk
  have hw : ∀ B o, Wr E (H ++ bs) B o → Wr E H B o := by
    rintro B o ⟨b, l, hE, hl, hB, hz⟩
    exact ⟨b, l, hE, hl, hB, fun s g es hk => hz s g es (by rw [List.getElem?_append_left (hlt hE)]; exact hk)⟩
  have him : ∀ B o, Im X E H w B o → Im X E (H ++ bs) w B o ∧ w.cell? ⟨B, o, none⟩ = w.cell? ⟨B, o, none⟩ := fun B o ⟨h1, h2, h3⟩ => ⟨⟨h1, h2, fun hx => h3 (hw B o hx)⟩, rfl⟩
  refine ⟨⟨?_, ?_, h.sep, h.xs, h.xlt⟩, ⟨Le.refl _, Nat.le_refl _, him, fun _ _ _ => rfl, fun b l hb hl => .inl ⟨b, l, hb, hl, rfl⟩, by simp, ?_, Still.refl⟩⟩
  · intro b hn
    refine h.dom b ?_
    rw [List.getElem?_eq_none_iff] at hn ⊢
    simp at hn
    omega
  · intro b k hk
    rcases Nat.lt_or_ge b H.length with h1 | h1
    · rw [List.getElem?_append_left h1] at hk
      exact BRel_mono him (Le.refl _) (fun _ _ _ => rfl) (h.blk b k hk)
    · rw [List.getElem?_append_right h1] at hk
      obtain ⟨s, g, es, fz, rfl⟩ := hb k (List.mem_of_getElem? hk)
      exact .inl (h.dom b (List.getElem?_eq_none h1))
  · intro b h1 h2
    obtain ⟨s, g, es, fz, hk⟩ := h1
    have hl : b < H.length := by
      rcases Nat.lt_or_ge b H.length with h9 | h9
      · exact h9
      · rw [List.getElem?_eq_none h9] at hk; cases hk
    exact ⟨⟨s, g, es, fz, by rw [List.getElem?_append_left hl]; exact hk⟩, h2⟩

theorem layAllocs_cells {P : Program} : ∀ {os : List Oper} {bs : List Blk}, layAllocs P os = some bs → ∀ k ∈ bs, ∃ s g es fz, k = .cells s g es fz
  | [], bs, h, k, hk => by simp only [layAllocs, Option.some.injEq] at h; subst h; simp at hk
  | o :: os, bs, h, k, hk => by
    simp only [layAllocs] at h
    split at h
    · split at h
      · rename_i cs n bs' h1 h2 h3
        split at h
        · cases h
          rcases List.mem_cons.1 hk with rfl | hk
          · exact ⟨_, _, _, _, rfl⟩
          · exact layAllocs_cells h3 k hk
        · cases h
      · cases h
    · exact layAllocs_cells h k hk

theorem drawW_sound {id : Nat} (hmix : C.P.follows .mixedOrders = true) (hc : CallOK C.P call) (hp : ∀ f F, C.prims f = some F → PrimOK C.P f F)
    (hname : ∀ (f : FuncId) (fn : Func), C.P.funcs[f]? = some fn → fn.name ≠ "runtime.NumGoroutine") {W : List Nat}
    (hW : ∀ (i : Nat) (o : Oper) (d : Tmp), ops[i]? = some o → o.dst = some d → d ∈ W) {a0 a : Act} {st : St} {r : Ex × St} (hr : drawW C call ops st = some r) (hs : SR X E0 H0 w0 st .undef a w Go.undef) (hf : Fr W a0 a) :
    (Code.region id ops true).wp C.P (fun e a' w' => Post X E0 H0 w0 r e a' w' ∧ Fr W a0 a') a w := by
  unfold drawW at hr
  simp only at hr
  split at hr
  case isFalse => cases hr
  rename_i hok
  split at hr
  case h_2 => cases hr
  rename_i bs hlay
  obtain ⟨E, h, hst, ht, hd, _⟩ := hs
  have hd1 : ∃ d, drawList C call ops (befs ops.toList []) st.n (List.range ops.size) st.heap.length [] [] none st.tmps (st.heap ++ bs) = some d ∧
      r = match d.pan with
        | none => (.normal, ⟨st.n, d.tmps, d.heap, st.defers⟩)
        | some (_, v, H) => (.pan v, ⟨st.n, undefs ops.toList st.tmps, H, st.defers⟩) := by
    split at hr
    · rename_i t H he; cases hr; exact ⟨_, he, rfl⟩
    · rename_i t H j v H' he; cases hr; exact ⟨_, he, rfl⟩
    · cases hr
  obtain ⟨d, hdl, hrd⟩ := hd1
  rw [List.range_eq_range'] at hdl
  obtain ⟨S, hS0, hS, hde⟩ := drawList_trace ops.size 0 ⟨st.heap.length, [], [], none, st.tmps, st.heap ++ bs⟩ d hdl
  have hres : ∃ res : Nat → DRes, ∀ i, i < ops.size → ∃ o, At1 C call ops (befs ops.toList []) st.n i o (res i) (S i) (S (i + 1)) := by
    classical
    refine ⟨fun i => if hq : ∃ r o, At1 C call ops (befs ops.toList []) st.n i o r (S i) (S (i + 1)) then hq.choose else .dead, fun i hi => ?_⟩
    obtain ⟨o, r, h1⟩ := hS i (Nat.zero_le _) (by omega)
    have hq : ∃ r o, At1 C call ops (befs ops.toList []) st.n i o r (S i) (S (i + 1)) := ⟨r, o, h1⟩
    simp only [dif_pos hq]
    exact hq.choose_spec
  obtain ⟨res, hres⟩ := hres
  have D : Dr C call ops st.n st.tmps st.heap bs S res := ⟨hok, hlay, hS0, hres⟩
  have hre : r = endD st.n ops st.tmps st.defers (S ops.size) := by
    rw [hrd, hde]
    simp only [Nat.zero_add, endD]
  rw [hre]
  refine wp_region_any hmix ?_
  obtain ⟨h1, hs1⟩ := h.idle (w' := { w with drawn := w.drawn + 1 }) ⟨⟨rfl, rfl⟩, rfl⟩ (Nat.le_refl _) (fun _ _ => rfl)
  obtain ⟨h2, hs2⟩ := h1.more (layAllocs_cells hlay)
  have hH0 : (S 0).heap = st.heap ++ bs := by rw [hS0]
  have hno : (fun i => (Array.replicate ops.size false).getD i false) = fun _ => false := by
    funext i
    simp [Array.getD_eq_getD_getElem?, Array.getElem?_replicate]
    split <;> rfl
  refine D.any_sound hc hp hname (by exact hst.len) hW ops.size (Array.replicate ops.size false) (List.range ops.size) a _ (by simp) (fun i hi _ => by simpa using hi) (by simp) ?_ ?_ hf
  · rw [hno]
    refine ⟨fun i hi => ?_, fun i hi => ?_, fun i k hi _ => ?_⟩
    · cases hi
    · cases hi
    · cases hi
  · rw [hno]
    refine ⟨E, 0, by rw [hH0]; exact h2, Nat.zero_le _, fun i v H D hi hri => by simp, by rw [hH0]; exact (hst.trans hs1).trans hs2, ?_, ?_, fun i ha _ => ?_⟩
    · rw [hH0]
      refine ((ht.mono hs1.im hs1.le).mono hs2.im hs2.le).congr fun t => ?_
      exact tmL_ext (j := 0) ops.size (Nat.zero_le _) (fun i _ _ hf => by cases hf)
    · rw [hH0]
      exact (hd.mono hs1.im hs1.le).mono hs2.im hs2.le
    · obtain ⟨cs, nn, o, t, _, _, _, _, _, _, hk⟩ := D.al_cells ha
      exact h1.dom _ (List.getElem?_eq_none hk)

end
end Go.Ai

/-
  CONTROL.
-/
set_option linter.unusedVariables false
set_option linter.unusedSimpArgs false
namespace Go.Ai
section
variable {C : Ctx} {X : Nat → Nat → Prop} {E E0 E1 : Env} {H H0 H1 : List Blk} {w w0 w1 : World}

theorem SR.rebase {st : St} {pv : AV} {a : Act} {px : Value} (h0 : Step X E0 H0 w0 E1 H1 w1) (h : SR X E1 H1 w1 st pv a w px) : SR X E0 H0 w0 st pv a w px := by
  obtain ⟨E, h1, h2, h3⟩ := h
  exact ⟨E, h1, h0.trans h2, h3⟩

theorem Post.rebase {r : Ex × St} {e : Exit} {a : Act} (h0 : Step X E0 H0 w0 E1 H1 w1) (h : Post X E1 H1 w1 r e a w) : Post X E0 H0 w0 r e a w := by
  obtain ⟨ex, st⟩ := r
  cases ex <;> simp only [Post] at h ⊢
  · exact ⟨h.1, h.2.rebase h0⟩
  · exact ⟨h.1, h.2.rebase h0⟩
  · exact ⟨h.1, h.2.rebase h0⟩
  · obtain ⟨x, h1, h2⟩ := h
    exact ⟨x, h1, h2.rebase h0⟩

def EOK (C : Ctx) (ex : Code → St → Option (Ex × St)) : Prop :=
  ∀ c st r, ex c st = some r → ∀ (X : Nat → Nat → Prop) (E0 : Env) (H0 : List Blk) (w0 : World) (a : Act) (w : World), SR X E0 H0 w0 st .undef a w Go.undef →
    c.wp C.P (fun e a' w' => Post X E0 H0 w0 r e a' w' ∧ Fr (writes c) a a') a w

theorem writes_region {id : Nat} {ops : Array Oper} {draw : Bool} (i : Nat) (o : Oper) (d : Tmp) (ho : ops[i]? = some o) (hd : o.dst = some d) : d ∈ writes (.region id ops draw) := by
  simp only [writes]
  rw [List.mem_filterMap]
  exact ⟨o, by simpa using Array.mem_of_getElem? ho, hd⟩

/-! ### loops -/

theorem least {p : Nat → Prop} : (∃ n, p n) → ∃ n, p n ∧ ∀ m, p m → n ≤ m := by
  rintro ⟨n, hn⟩
  induction n using Nat.strongRecOn with
  | _ n ih =>
    by_cases h : ∃ m, m < n ∧ p m
    · obtain ⟨m, h1, h2⟩ := h
      exact ih m h1 h2
    · refine ⟨n, hn, fun m hm => ?_⟩
      rcases Nat.lt_or_ge m n with h1 | h1
      · exact absurd ⟨m, h1, hm⟩ h
      · exact h1

theorem wp_loop_k {P : Program} {c : Code} {Q : Exit → Act → World → Prop} (J : Nat → Act → World → Prop)
    (round : ∀ k a w, J k a w → ∃ k', k = k' + 1 ∧ c.wp P (Exit.then (J k') Q) a w) {k : Nat} {a : Act} {w : World} (h : J k a w) : (Code.loop c).wp P Q a w := by
  classical
  refine wp_loop (fun a w => ∃ k, J k a w) (fun a w => if h : ∃ k, J k a w then (least h).choose else 0) ⟨k, h⟩ ?_
  intro a w hI
  obtain ⟨k', hk, hwp⟩ := round _ a w (least hI).choose_spec.1
  refine wp_mono hwp ?_
  intro e a' w' hq
  cases e <;> try exact hq
  have hJ : J k' a' w' := hq
  have hI' : ∃ k, J k a' w' := ⟨k', hJ⟩
  refine ⟨hI', ?_⟩
  simp only [dif_pos hI, dif_pos hI']
  have := (least hI').choose_spec.2 k' hJ
  omega

theorem getT_take (tmps : Tm) : ∀ (W : List Nat) (e : Tm) (t : Nat), getT (takeTm tmps W e) t = if t ∈ W then getT tmps t else getT e t
  | [], e, t => by simp [takeTm]
  | s :: W, e, t => by
    simp only [takeTm]
    rw [getT_cons, getT_take tmps W e t]
    by_cases h : s = t
    · subst h; simp
    · simp [h, Ne.symm h]

theorem carried_mem (tmps : Tm) : ∀ (ws acc : List Nat) (t : Nat), t ∉ carried tmps ws acc → t ∉ acc ∧ (t ∈ ws → isUndef (getT tmps t) = true)
  | [], acc, t, h => by simpa [carried] using h
  | s :: ws, acc, t, h => by
    simp only [carried] at h
    split at h
    · rename_i hc
      obtain ⟨h1, h2⟩ := carried_mem tmps ws acc t h
      refine ⟨h1, fun ht => ?_⟩
      rcases List.mem_cons.1 ht with rfl | ht
      · simp only [Bool.or_eq_true] at hc
        rcases hc with hc | hc
        · exact absurd (by simpa using hc) h1
        · exact hc
      · exact h2 ht
    · obtain ⟨h1, h2⟩ := carried_mem tmps ws (s :: acc) t h
      simp only [List.mem_cons, not_or] at h1
      refine ⟨h1.2, fun ht => ?_⟩
      rcases List.mem_cons.1 ht with rfl | ht
      · exact absurd rfl h1.1
      · exact h2 ht

theorem nrm_sound {b : Code} {st st' : St} {aL a : Act} (hH : HRel X E1 st.heap w1) (ht : TRel (Im X E1 st.heap w1) w1 E1 st.n st.tmps aL) (hs : SR X E1 st.heap w1 st' .undef a w Go.undef) (hf : Fr (writes b) aL a) :
    SR X E1 st.heap w1 (nrm (carried st.tmps (writes b) []) st st') .undef a w Go.undef := by
  obtain ⟨E, h1, h2, h3, h4, _⟩ := hs
  have ht' : TRel (Im X E st'.heap w) w E st'.n (takeTm st'.tmps (carried st.tmps (writes b) []) st.tmps) a := by
    refine ⟨h3.1, fun t => ?_⟩
    rw [getT_take]
    split
    · exact h3.2 t
    · rename_i hn
      obtain ⟨_, hc⟩ := carried_mem st.tmps (writes b) [] t hn
      by_cases hw : t ∈ writes b
      · have := hc hw
        have hu : getT st.tmps t = .undef := by
          cases hg : getT st.tmps t <;> rw [hg] at this <;> simp [isUndef] at this
        rw [hu]
        simp [V]
      · rw [hf t hw]
        exact h2.V (ht.2 t)
  have h0 : ∀ b l, E1 b = some l → b < st.heap.length := by
    intro b l hb
    obtain ⟨k, hk⟩ := hH.inDom hb
    rcases Nat.lt_or_ge b st.heap.length with h9 | h9
    · exact h9
    · rw [List.getElem?_eq_none h9] at hk; cases hk
  obtain ⟨E', g1, g2, g3, g4, g5, g6⟩ := compact_sound (ds := st'.defers) h1 h2 (L := st.heap.length) (Nat.le_refl _) h2.len h0 ht'
  unfold nrm
  refine ⟨E', g1, g2, ?_, ?_, by simp [V]⟩
  · rw [g5]; exact g3
  · rw [g4]
    by_cases hd : st'.defers = []
    · rw [hd] at h4 ⊢
      exact h4
    · obtain ⟨rfl, g8⟩ := g6 hd
      rw [g8]
      exact h4

theorem loop_sound {ex : Code → St → Option (Ex × St)} (hex : EOK C ex) {b : Code} {n : Nat} {st : St} {r : Ex × St} (hr : loopW (ex b) (nrmK (carried st.tmps (writes b) []) st) n st = some r)
    {a : Act} (hs : SR X E0 H0 w0 st .undef a w Go.undef) : (Code.loop b).wp C.P (fun e a' w' => Post X E0 H0 w0 r e a' w' ∧ Fr (writes b) a a') a w := by
  obtain ⟨E1, hH, hst, ht, hd, hu⟩ := hs
  refine wp_loop_k (fun k a' w' => ∃ st', loopW (ex b) (nrmK (carried st.tmps (writes b) []) st) k st' = some r ∧ SR X E1 st.heap w st' .undef a' w' Go.undef ∧ Fr (writes b) a a') ?_
    (k := n) ⟨st, hr, ⟨E1, hH, Step.refl, ht, hd, hu⟩, Fr.refl⟩
  rintro k a' w' ⟨st', hl, hs', hf⟩
  cases k with
  | zero => simp [loopW] at hl
  | succ k =>
    refine ⟨k, rfl, ?_⟩
    simp only [loopW] at hl
    split at hl
    · rename_i st2 he
      rw [nrmK_eq] at hl
      refine wp_mono (hex b st' _ he X E1 st.heap w a' w' hs') ?_
      rintro e a2 w2 ⟨hp, hf2⟩
      simp only [Post] at hp
      obtain ⟨rfl, hp⟩ := hp
      exact ⟨_, hl, nrm_sound hH ht hp (hf.trans hf2), hf.trans hf2⟩
    · rename_i hne
      refine wp_mono (hex b st' r hl X E1 st.heap w a' w' hs') ?_
      rintro e a2 w2 ⟨hp, hf2⟩
      have hq : Post X E0 H0 w0 r e a2 w2 ∧ Fr (writes b) a a2 := ⟨hp.rebase hst, hf.trans hf2⟩
      cases e <;> try exact hq
      exfalso
      obtain ⟨rx, rs⟩ := r
      cases rx
      · exact hne rs hl
      · simp only [Post] at hp; exact absurd hp.1 (by simp)
      · simp only [Post] at hp; exact absurd hp.1 (by simp)
      · simp only [Post] at hp; obtain ⟨_, h1, _⟩ := hp; cases h1

theorem execW_sound (hmix : C.P.follows .mixedOrders = true) {call : CallT} (hc : CallOK C.P call) (hp : ∀ f F, C.prims f = some F → PrimOK C.P f F)
    (hname : ∀ (f : FuncId) (fn : Func), C.P.funcs[f]? = some fn → fn.name ≠ "runtime.NumGoroutine") {ex : Code → St → Option (Ex × St)} (hex : EOK C ex) (n : Nat) : EOK C (execW C call ex n) := by
  intro c st r hr X E0 H0 w0 a w hs
  unfold execW at hr
  split at hr
  · cases hr
    exact wp_skip ⟨⟨rfl, hs⟩, Fr.refl⟩
  · cases hr
    exact wp_label ⟨⟨rfl, hs⟩, Fr.refl⟩
  · rename_i id ops draw
    unfold regionW at hr
    split at hr
    · rename_i hdr
      subst hdr
      exact drawW_sound hmix hc hp hname writes_region hr hs Fr.refl
    · rename_i hdr
      have : draw = false := by simpa using hdr
      subst this
      exact wp_region (runList_sound hc hp hname writes_region _ st r hr a w hs Fr.refl)
  · rename_i x y
    refine wp_seq ?_
    split at hr
    · rename_i st1 h1
      refine wp_mono (hex x st _ h1 X E0 H0 w0 a w hs) ?_
      rintro e a1 w1 ⟨hp1, hf1⟩
      simp only [Post] at hp1
      obtain ⟨rfl, hp1⟩ := hp1
      refine wp_mono (hex y st1 r hr X E0 H0 w0 a1 w1 hp1) ?_
      rintro e a2 w2 ⟨hp2, hf2⟩
      exact ⟨hp2, (hf1.sub fun t ht => by simp [writes, ht]).trans (hf2.sub fun t ht => by simp [writes, ht])⟩
    · rename_i hne
      refine wp_mono (hex x st r hr X E0 H0 w0 a w hs) ?_
      rintro e a1 w1 ⟨hp1, hf1⟩
      have hq : Post X E0 H0 w0 r e a1 w1 ∧ Fr (writes (.seq x y)) a a1 := ⟨hp1, hf1.sub fun t ht => by simp [writes, ht]⟩
      cases e <;> try exact hq
      exfalso
      obtain ⟨rx, rs⟩ := r
      cases rx
      · exact hne rs hr
      · simp only [Post] at hp1; exact absurd hp1.1 (by simp)
      · simp only [Post] at hp1; exact absurd hp1.1 (by simp)
      · simp only [Post] at hp1; obtain ⟨_, h1, _⟩ := hp1; cases h1
  · rename_i cnd x y
    have ht : ∃ E, TRel (Im X E st.heap w) w E st.n st.tmps a := by
      obtain ⟨E, _, _, ht, _⟩ := hs
      exact ⟨E, ht⟩
    obtain ⟨E, ht⟩ := ht
    split at hr
    · rename_i hc1
      have := ev_sound ht hc1
      simp only [V] at this
      refine wp_cond_true this (wp_mono (hex x st r hr X E0 H0 w0 a w hs) ?_)
      rintro e a1 w1 ⟨hp1, hf1⟩
      exact ⟨hp1, hf1.sub fun t ht => by simp [writes, ht]⟩
    · rename_i hc1
      have := ev_sound ht hc1
      simp only [V] at this
      refine wp_cond_false this (wp_mono (hex y st r hr X E0 H0 w0 a w hs) ?_)
      rintro e a1 w1 ⟨hp1, hf1⟩
      exact ⟨hp1, hf1.sub fun t ht => by simp [writes, ht]⟩
    · cases hr
  · rename_i id b
    refine wp_block ?_
    split at hr
    · rename_i j st1 h1
      refine wp_mono (hex b st _ h1 X E0 H0 w0 a w hs) ?_
      rintro e a1 w1 ⟨hp1, hf1⟩
      simp only [Post] at hp1
      obtain ⟨rfl, hp1⟩ := hp1
      simp only [Exit.inBlock]
      split at hr
      · rename_i hj
        cases hr
        rw [if_pos hj]
        exact ⟨⟨rfl, hp1⟩, hf1⟩
      · rename_i hj
        cases hr
        rw [if_neg hj]
        exact ⟨⟨rfl, hp1⟩, hf1⟩
    · rename_i hne
      refine wp_mono (hex b st r hr X E0 H0 w0 a w hs) ?_
      rintro e a1 w1 ⟨hp1, hf1⟩
      have hq : Post X E0 H0 w0 r e a1 w1 ∧ Fr (writes (.block id b)) a a1 := ⟨hp1, hf1⟩
      cases e <;> try exact hq
      exfalso
      obtain ⟨rx, rs⟩ := r
      cases rx
      · simp only [Post] at hp1; exact absurd hp1.1 (by simp)
      · exact hne _ rs hr
      · simp only [Post] at hp1; exact absurd hp1.1 (by simp)
      · simp only [Post] at hp1; obtain ⟨_, h1, _⟩ := hp1; cases h1
  · rename_i b
    exact loop_sound hex hr hs
  · rename_i b
    refine wp_scope_straight (wp_mono (hex b st r hr X E0 H0 w0 a w hs) ?_)
    rintro e a1 w1 ⟨hp1, hf1⟩
    have hq : Post X E0 H0 w0 r e a1 w1 ∧ Fr (writes (.scope b)) a a1 := ⟨hp1, hf1⟩
    cases e <;> try exact hq
    obtain ⟨rx, rs⟩ := r
    cases rx
    · simp only [Post] at hp1; exact absurd hp1.1 (by simp)
    · simp only [Post] at hp1; exact absurd hp1.1 (by simp)
    · simp only [Post] at hp1; exact absurd hp1.1 (by simp)
    · simp only [Post] at hp1; obtain ⟨_, h1, _⟩ := hp1; cases h1
  · cases hr
    exact wp_exit ⟨⟨rfl, hs⟩, Fr.refl⟩
  · cases hr
    exact wp_ret ⟨⟨rfl, hs⟩, Fr.refl⟩
  · cases hr

end
end Go.Ai

/-
  WHOLE CALLS: what the evaluator tells of a call, the machine does.
-/
set_option linter.unusedVariables false
set_option linter.unusedSimpArgs false
namespace Go.Ai
section
variable {P : Program} {C : Ctx} {X : Nat → Nat → Prop} {E E0 E1 : Env} {H H0 H1 : List Blk} {w w0 w1 : World} {im : Nat → Nat → Prop}

/-- How a deferred function finds the frame that left. -/
def Met (im : Nat → Nat → Prop) (w : World) (E : Env) (u : FrameMode) : Option AV → Prop
  | none => u = .returning
  | some v => ∃ x, u = .panicking [{ v := x, recovered := false }] ∧ V im w v E x

/-- What is told of a deferred function beforehand: given its cells, the panic it meets, and the heap: has it recovered? and the heap behind it. -/
def RecOK (P : Program) (g : FuncId) (F : List AV → Option AV → List Blk → Option (Bool × List Blk)) : Prop :=
  ∀ cs e H back H', F cs e H = some (back, H') → (∃ fn, P.funcs[g]? = some fn ∧ fn.body.isSome = true) ∧
    ∀ (X : Nat → Nat → Prop) (E : Env) (w : World) (vs : List Value) (u : FrameMode), HRel X E H w → VL (Im X E H w) w cs E vs →
      Met (Im X E H w) w E u e →
      CallsD P g vs.toArray u w fun en u' w' => ∃ x E', en = .returned x ∧ settle u' = (match e, back with
        | some _, false => u
        | _, _ => .returning) ∧ HRel X E' H' w' ∧ Step X E H w E' H' w'

theorem callFunc_run {f : FuncId} {args : Array Value} (hname : ∀ (f : FuncId) (fn : Func), P.funcs[f]? = some fn → fn.name ≠ "runtime.NumGoroutine") (hb : ∃ fn, P.funcs[f]? = some fn ∧ fn.body.isSome = true) (w : World) :
    (callFunc f args).run P w = .ok (.enter f args) w := by
  obtain ⟨fn, hf, hbody⟩ := hb
  have hn : (fn.name == "runtime.NumGoroutine") = false := by simpa using hname f fn hf
  unfold callFunc
  have : fn.body.isNone = false := by cases hfb : fn.body <;> simp_all
  rw [Sem.run_bind]
  simp only [program, Sem.run, Result.andThen_ok, hf, hn, this]
  rfl

theorem initT_get : ∀ (args : List AV) (i t : Nat), getT (initT i args) t = if i ≤ t then (args[t - i]?).getD .undef else .undef
  | [], i, t => by simp [initT, getT]
  | v :: vs, i, t => by
    simp only [initT]
    rw [getT_cons, initT_get vs (i + 1) t]
    by_cases h : i = t
    · subst h; simp
    · rw [if_neg h]
      by_cases h2 : i + 1 ≤ t
      · rw [if_pos h2, if_pos (by omega), show t - i = (t - (i + 1)) + 1 by omega, List.getElem?_cons_succ]
      · rw [if_neg h2, if_neg (by omega)]

theorem init_TRel {args : List AV} {vs : List Value} {k : Nat} (hv : VL im w args E vs) : TRel im w E (args.length + (k - args.length)) (initT 0 args) { tmps := vs.toArray ++ Array.replicate (k - vs.toArray.size) Go.undef, defers := [] } := by
  have hl := VL_length hv
  refine ⟨by simp [hl], fun t => ?_⟩
  rw [initT_get]
  simp only [Nat.zero_le, if_true, Nat.sub_zero]
  cases hc : args[t]? with
  | none => simp [V]
  | some c =>
    obtain ⟨x, hx, hxv⟩ := VL_get hv hc
    have hlt : t < vs.length := by
      rcases Nat.lt_or_ge t vs.length with h9 | h9
      · exact h9
      · rw [List.getElem?_eq_none h9] at hx; cases hx
    simp only [Option.getD_some]
    rw [Array.getD_eq_getD_getElem?, Array.getElem?_append_left (by simpa using hlt)]
    simp only [List.getElem?_toArray, hx, Option.getD_some]
    exact hxv

/-! ### results -/

def resM (tmps : Array Value) : ResultVar → Sem Value
  | .tmp t => pure (tmps.getD t undef)
  | .cell a t => do loadVar t (← asAddr (tmps.getD a undef))

theorem results_eq (fn : Func) (tmps : Array Value) : results fn tmps = (do let vs ← fn.results.mapM (resM tmps); pure (if h : vs.size = 1 then vs[0] else .tuple vs)) := by
  unfold results
  congr 1

theorem resultA_sound (h : HRel X E H w) {n : Nat} {tmps : Tm} {a : Act} (ht : TRel (Im X E H w) w E n tmps a) {r : ResultVar} {v : AV} (hv : resultA P tmps H r = some v) :
    ∃ y, (resM a.tmps r).run P w = .ok y w ∧ V (Im X E H w) w v E y := by
  cases r with
  | tmp t =>
    simp only [resultA, Option.some.injEq] at hv
    subst hv
    exact ⟨_, rfl, ht.2 t⟩
  | cell c t =>
    simp only [resultA] at hv
    have hc := ht.2 c
    obtain ⟨y, hy, hyv⟩ := loadA_sound (P := P) h hc hv
    refine ⟨y, ?_, hyv⟩
    have hptr : ∃ p, a.tmps.getD c Go.undef = .pointer (some p) := by
      unfold loadA at hv
      split at hv
      · rename_i e
        rw [e] at hc
        simp only [V] at hc
        obtain ⟨l, p, _, _, hx, _⟩ := hc
        exact ⟨p, hx⟩
      · rename_i e
        rw [e] at hc
        simp only [V] at hc
        obtain ⟨B, o, hx, _⟩ := hc
        exact ⟨_, hx⟩
      · cases hv
    obtain ⟨p, hp⟩ := hptr
    simp only [Instr.loadAt, hp, Instr.sureAddr] at hy
    simp only [resM, hp, asAddr]
    exact hy

theorem resultsA_sound (h : HRel X E H w) {n : Nat} {tmps : Tm} {a : Act} (ht : TRel (Im X E H w) w E n tmps a) : ∀ {rs : List ResultVar} {vs : List AV}, resultsA P tmps H rs = some vs →
    ∃ ys, (rs.mapM (resM a.tmps)).run P w = .ok ys w ∧ VL (Im X E H w) w vs E ys
  | [], vs, hv => by
    simp only [resultsA, Option.some.injEq] at hv
    subst hv
    exact ⟨[], rfl, by simp [VL]⟩
  | r :: rs, vs, hv => by
    simp only [resultsA] at hv
    split at hv
    · rename_i v us e1 e2
      cases hv
      obtain ⟨y, h1, h2⟩ := resultA_sound h ht e1
      obtain ⟨ys, h3, h4⟩ := resultsA_sound h ht e2
      refine ⟨y :: ys, ?_, by simp only [VL]; exact ⟨y, ys, rfl, h2, h4⟩⟩
      rw [List.mapM_cons]
      simp only [Sem.run_bind, h1, h3, Result.andThen_ok, Sem.run_pure]
    · cases hv

theorem results_sound (h : HRel X E H w) {n : Nat} {tmps : Tm} {a : Act} (ht : TRel (Im X E H w) w E n tmps a) {fn : Func} {vs : List AV} (hv : resultsA P tmps H fn.results.toList = some vs) :
    ∃ y, (results fn a.tmps).run P w = .ok y w ∧ V (Im X E H w) w (oneOr vs) E y := by
  obtain ⟨ys, h1, h2⟩ := resultsA_sound h ht hv
  rw [results_eq, Array.mapM_eq_mapM_toList]
  have hl := VL_length h2
  refine ⟨if h : ys.toArray.size = 1 then ys.toArray[0] else .tuple ys.toArray, ?_, ?_⟩
  · simp only [Sem.run_bind, map_eq_pure_bind, h1, Result.andThen_ok, Sem.run_pure]
  · cases vs with
    | nil =>
      simp only [VL] at h2
      subst h2
      simp [oneOr, unit, V]
    | cons v vs =>
      cases vs with
      | nil =>
        simp only [VL] at h2
        obtain ⟨y, r, rfl, h3, rfl⟩ := h2
        simpa [oneOr] using h3
      | cons v2 vs =>
        have : ys.toArray.size ≠ 1 := by simp at hl ⊢; omega
        rw [dif_neg this]
        simp only [oneOr, V]
        exact ⟨_, rfl, by simpa using h2⟩

/-! ### leaving -/

theorem leave_sound (hr : ∀ g F, C.recs g = some F → RecOK C.P g F) (hname : ∀ (f : FuncId) (fn : Func), C.P.funcs[f]? = some fn → fn.name ≠ "runtime.NumGoroutine") {fn : Func} {e : Option AV} {st : St} {r : CRes} {H1 : List Blk}
    (hl : leaveA C fn e st = some (r, H1)) {pv : AV} {a : Act} {px : Value} {u : FrameMode} (hs : SR X E0 H0 w0 st pv a w px) (hu : match e with
        | none => u = .returning
        | some v => u = .panicking [{ v := px, recovered := false }] ∧ pv = v) : Leaves C.P fn a.tmps (Ends X E0 H0 w0 r H1) a.defers u w := by
  obtain ⟨E, h, hst, ht, hd, hpv⟩ := hs
  unfold leaveA at hl
  split at hl
  · rename_i hds
    rw [hds] at hd
    simp only [DRel] at hd
    rw [hd]
    cases e with
    | none =>
      simp only at hu
      subst hu
      simp only [Option.map_eq_some_iff] at hl
      obtain ⟨vs, hvs, he⟩ := hl
      cases he
      obtain ⟨y, h1, h2⟩ := results_sound h ht hvs
      exact ⟨y, h1, y, rfl, E, h, hst, h2⟩
    | some v =>
      simp only at hu
      obtain ⟨rfl, rfl⟩ := hu
      cases hl
      exact ⟨px, rfl, E, h, hst, hpv⟩
  · rename_i g cs hds
    rw [hds] at hd
    simp only [DRel] at hd
    obtain ⟨vs, l, hdd, hcs, rfl⟩ := hd
    rw [hdd]
    split at hl
    case h_2 => cases hl
    rename_i F hF
    split at hl
    case h_2 => cases hl
    rename_i back H2 hFv
    obtain ⟨hb, hcall⟩ := hr g F hF cs e st.heap back H2 hFv
    simp only [Leaves]
    refine ⟨?_, .func g, vs, g, #[] ++ vs, rfl, callFunc_run hname hb w, ?_⟩
    · cases e with
      | none => simp only at hu; subst hu; simp
      | some v => simp only at hu; rw [hu.1]; simp
    have hu' : Met (Im X E st.heap w) w E u e := by
      cases e with
      | none => exact hu
      | some v => simp only at hu; exact ⟨px, hu.1, hu.2 ▸ hpv⟩
    have := hcall X E w vs.toList u h hcs hu'
    simp only [Array.toArray_toList] at this
    rw [Array.empty_append]
    refine this.mono ?_
    rintro en u' w' ⟨x, E', rfl, hset, h1, hs1⟩
    simp only
    rw [hset]
    have ht1 := ht.mono hs1.im hs1.le
    have retA : (resultsA C.P st.tmps H2 fn.results.toList).map (fun vs => (CRes.ret (oneOr vs), H2)) = some (r, H1) → Leaves C.P fn a.tmps (Ends X E0 H0 w0 r H1) [] .returning w' := by
      intro hq
      simp only [Option.map_eq_some_iff] at hq
      obtain ⟨vs', hvs, he⟩ := hq
      cases he
      obtain ⟨y, h2, h3⟩ := results_sound h1 ht1 hvs
      exact ⟨y, h2, y, rfl, E', h1, hst.trans hs1, h3⟩
    cases e with
    | none => exact retA hl
    | some v =>
      cases back with
      | true => exact retA hl
      | false =>
        simp only at hl hu ⊢
        obtain ⟨rfl, rfl⟩ := hu
        cases hl
        exact ⟨px, rfl, E', h1, hst.trans hs1, hs1.V hpv⟩
  · cases hl

theorem runW_sound (hr : ∀ g F, C.recs g = some F → RecOK C.P g F) (hname : ∀ (f : FuncId) (fn : Func), C.P.funcs[f]? = some fn → fn.name ≠ "runtime.NumGoroutine")
    {ex : Code → St → Option (Ex × St)} (hex : EOK C ex) : CallOK C.P (runW C ex) := by
  intro f args H r H1 hc
  unfold runW at hc
  split at hc
  · cases hc
  · rename_i fn hf
    split at hc
    · cases hc
    · rename_i body hbody
      refine ⟨⟨fn, hf, by simp [hbody]⟩, fun X E w vs h hv => ?_⟩
      refine calls_of_wp_defers hf hbody ?_
      have hsr : SR X E H w { n := args.length + (fn.ntmps - args.length), tmps := initT 0 args, heap := H, defers := [] } .undef
          { tmps := vs.toArray ++ Array.replicate (fn.ntmps - vs.toArray.size) Go.undef, defers := [] } w Go.undef :=
        ⟨E, h, Step.refl, init_TRel hv, rfl, by simp [V]⟩
      split at hc
      · rename_i st he
        refine wp_mono (hex body _ _ he X E H w _ w hsr) ?_
        rintro e a' w' ⟨hp, _⟩
        simp only [Post] at hp
        obtain ⟨rfl, hp⟩ := hp
        exact leave_sound hr hname hc hp rfl
      · rename_i st he
        refine wp_mono (hex body _ _ he X E H w _ w hsr) ?_
        rintro e a' w' ⟨hp, _⟩
        simp only [Post] at hp
        obtain ⟨rfl, hp⟩ := hp
        exact leave_sound hr hname hc hp rfl
      · rename_i v st he
        refine wp_mono (hex body _ _ he X E H w _ w hsr) ?_
        rintro e a' w' ⟨hp, _⟩
        simp only [Post] at hp
        obtain ⟨x, rfl, hp⟩ := hp
        exact leave_sound hr hname hc hp ⟨rfl, rfl⟩
      · cases hc

theorem callW_sound (hr : ∀ g F, C.recs g = some F → RecOK C.P g F) (hname : ∀ (f : FuncId) (fn : Func), C.P.funcs[f]? = some fn → fn.name ≠ "runtime.NumGoroutine")
    {ex : Code → St → Option (Ex × St)} (hex : EOK C ex) : CallOK C.P (callW C ex) := by
  intro f args H r H1 hc
  unfold callW at hc
  split at hc
  · exact lone_sound (runW_sound hr hname hex) f args H r H1 hc
  · exact runW_sound hr hname hex f args H r H1 hc

/-- A program about which what is told beforehand is true. -/
structure Told (C : Ctx) : Prop where
  mix : C.P.follows .mixedOrders = true
  name : ∀ (f : FuncId) (fn : Func), C.P.funcs[f]? = some fn → fn.name ≠ "runtime.NumGoroutine"
  prims : ∀ f F, C.prims f = some F → PrimOK C.P f F
  recs : ∀ g F, C.recs g = some F → RecOK C.P g F

theorem exec_sound (T : Told C) : ∀ n, EOK C (exec C n)
  | 0 => fun c st r hr => by simp [exec] at hr
  | n + 1 => by
    have h := exec_sound T n
    exact execW_sound T.mix (callW_sound T.recs T.name h) T.prims T.name h n

theorem call_sound (T : Told C) (n : Nat) : CallOK C.P (call C n) := callW_sound T.recs T.name (exec_sound T n)

end
end Go.Ai

/-
  A DEFERRED FUNCTION THAT RECOVERS FIRST OF ALL.
-/
set_option linter.unusedVariables false
set_option linter.unusedSimpArgs false
namespace Go.Ai

def isRecover (o : Oper) : Bool := match o.op with
  | .call { callee := .builtin .recover, args, .. } => args.size == 0 && o.guard.isNone
  | _ => false

def assignOf (o : Oper) : Option Tmp := match o.op with
  | .assign (.tmp t) => if o.guard.isNone then some t else none
  | _ => none

/-- Its body's beginning: what recover gave is kept in a slot. -/
def recParts : Code → Option (Oper × Oper × Tmp × Code)
  | .seq (.region _ ops draw) rest => if draw then none else match ops.toList with
    | [o0, o1] => if isRecover o0 then (assignOf o1).map fun t => (o0, o1, t, rest) else none
    | _ => none
  | _ => none

/-- What recover gives. -/
def recV : Option AV → AV
  | none => .sc .nilIface
  | some v => v

def recF (P : Program) (ex : Code → St → Option (Ex × St)) (g : FuncId) (cs : List AV) (e : Option AV) (H : List Blk) : Option (Bool × List Blk) :=
  match P.funcs[g]? with
  | none => none
  | some fn => match fn.body with
    | none => none
    | some body => if fn.results.size = 0 then (match recParts body with
      | none => none
      | some (o0, o1, t, rest) =>
        let n := cs.length + (fn.ntmps - cs.length)
        match putA n (initT 0 cs) o0.dst (recV e) with
        | none => none
        | some t1 => match putA n t1 o1.dst (getT t1 t) with
          | none => none
          | some t2 => match ex rest ⟨n, t2, H, []⟩ with
            | some (.normal, st) => if st.defers.isEmpty then some (e.isSome, st.heap) else none
            | some (.ret, st) => if st.defers.isEmpty then some (e.isSome, st.heap) else none
            | _ => none) else none

theorem recParts_spec {c : Code} {o0 o1 : Oper} {t : Tmp} {rest : Code} (h : recParts c = some (o0, o1, t, rest)) :
    ∃ id ops tys, c = .seq (.region id ops false) rest ∧ ops = #[o0, o1] ∧ o0.op = .call { callee := .builtin .recover, args := #[], argTypes := tys } ∧ o0.guard = none ∧ o1.op = .assign (.tmp t) ∧ o1.guard = none := by
  unfold recParts at h
  split at h
  · rename_i id ops draw rest'
    split at h
    · cases h
    · rename_i hd
      have hd : draw = false := by simpa using hd
      subst hd
      split at h
      · rename_i p0 p1 hl
        split at h
        · rename_i hr
          simp only [Option.map_eq_some_iff] at h
          obtain ⟨t', ha, he⟩ := h
          cases he
          have hops : ops = #[o0, o1] := by
            apply Array.toList_inj.1
            rw [hl]
          have h0 : ∃ tys, o0.op = .call { callee := .builtin .recover, args := #[], argTypes := tys } ∧ o0.guard = none := by
            unfold isRecover at hr
            split at hr
            · rename_i args tys hop
              simp only [Bool.and_eq_true, beq_iff_eq, Option.isNone_iff_eq_none] at hr
              have := Array.eq_empty_of_size_eq_zero hr.1
              subst this
              exact ⟨tys, hop, hr.2⟩
            · cases hr
          have h1 : o1.op = .assign (.tmp t) ∧ o1.guard = none := by
            unfold assignOf at ha
            split at ha
            · rename_i t2 hop
              split at ha
              · rename_i hg
                cases ha
                exact ⟨hop, by simpa using hg⟩
              · cases ha
            · cases ha
          obtain ⟨tys, h2, h3⟩ := h0
          exact ⟨id, ops, tys, rfl, hops, h2, h3, h1⟩
        · cases h
      · cases h
  · cases h

theorem recF_sound {P : Program} {C : Ctx} (hC : C.P = P) {ex : Code → St → Option (Ex × St)} (hex : EOK C ex) (g : FuncId) : RecOK P g (recF P ex g) := by
  subst hC
  intro cs e H back H' hF
  unfold recF at hF
  split at hF
  · cases hF
  rename_i fn hf
  split at hF
  · cases hF
  rename_i body hbody
  split at hF
  case isFalse => cases hF
  rename_i hres
  split at hF
  · cases hF
  rename_i o0 o1 t rest hparts
  simp only at hF
  split at hF
  · cases hF
  rename_i t1 ht1
  split at hF
  · cases hF
  rename_i t2 ht2
  obtain ⟨id, ops, tys, rfl, hops, hop0, hg0, hop1, hg1⟩ := recParts_spec hparts
  refine ⟨⟨fn, hf, by simp [hbody]⟩, fun X E w vs u h hv hmet => ?_⟩
  have hresE : fn.results = #[] := Array.eq_empty_of_size_eq_zero hres
  refine callsD_of_wpS hf hbody fun c₀ fs hmode => ?_
  refine wpS_seq (wpS_region ?_)
  have hinit := init_TRel (k := fn.ntmps) hv
  -- behind the two operations
  have after : ∀ (u' : FrameMode) (x : Value), V (Im X E H w) w (recV e) E x → settle u' = FrameMode.returning →
      rest.wpS C.P (bodyPostS C.P fn c₀ fs fun en u' w' => ∃ x E', en = .returned x ∧ settle u' = (match e, back with
        | some _, false => u
        | _, _ => .returning) ∧ HRel X E' H' w' ∧ Step X E H w E' H' w')
        (((({ tmps := vs.toArray ++ Array.replicate (fn.ntmps - vs.toArray.size) Go.undef, defers := [] } : Act).put o0.dst x)).put o1.dst ((({ tmps := vs.toArray ++ Array.replicate (fn.ntmps - vs.toArray.size) Go.undef, defers := [] } : Act).put o0.dst x).eval (.tmp t)))
        ({ c₀ with mode := u' } :: fs) w := by
    intro u' x hx hset
    have ha1 := hinit.put ht1 hx
    have ha2 := ha1.put ht2 (ha1.2 t)
    refine wpS_of_wp ?_
    have hsr : SR X E H w ⟨cs.length + (fn.ntmps - cs.length), t2, H, []⟩ .undef
        (((({ tmps := vs.toArray ++ Array.replicate (fn.ntmps - vs.toArray.size) Go.undef, defers := [] } : Act).put o0.dst x)).put o1.dst ((({ tmps := vs.toArray ++ Array.replicate (fn.ntmps - vs.toArray.size) Go.undef, defers := [] } : Act).put o0.dst x).eval (.tmp t))) w Go.undef :=
      ⟨E, h, Step.refl, ha2, by rw [put_defers', put_defers']; rfl, by simp [V]⟩
    have close : ∀ (st : St) (a' : Act) (w' : World), SR X E H w st .undef a' w' Go.undef → st.defers.isEmpty = true → back = e.isSome → H' = st.heap →
        a'.defers = [] ∧ ∃ u'', ({ c₀ with mode := u' } :: fs) = { c₀ with mode := u'' } :: fs ∧ ∃ v, (results fn a'.tmps).run C.P w' = .ok v w' ∧ ∃ x E', (Ending.returned v) = .returned x ∧ settle u'' = (match e, back with
        | some _, false => u
        | _, _ => .returning) ∧ HRel X E' H' w' ∧ Step X E H w E' H' w' := by
      intro st a' w' hs he hb hH
      obtain ⟨E', h1, h2, h3, h4, _⟩ := hs
      have hd : st.defers = [] := by simpa using he
      rw [hd] at h4
      obtain ⟨y, hy, _⟩ := results_sound (P := C.P) h1 h3 (fn := fn) (vs := []) (by rw [hresE]; rfl)
      refine ⟨h4, u', rfl, y, hy, y, E', rfl, ?_, hH ▸ h1, hH ▸ h2⟩
      rw [hset, hb]
      cases e <;> rfl
    split at hF
    · rename_i st hst
      split at hF
      · rename_i hdf
        cases hF
        refine wp_mono (hex rest _ _ hst X E H w _ w hsr) ?_
        rintro en a' w' ⟨hp, _⟩
        simp only [Post] at hp
        obtain ⟨rfl, hp⟩ := hp
        exact close st a' w' hp hdf rfl rfl
      · cases hF
    · rename_i st hst
      split at hF
      · rename_i hdf
        cases hF
        refine wp_mono (hex rest _ _ hst X E H w _ w hsr) ?_
        rintro en a' w' ⟨hp, _⟩
        simp only [Post] at hp
        obtain ⟨rfl, hp⟩ := hp
        exact close st a' w' hp hdf rfl rfl
      · cases hF
    · cases hF
  have hrec : ∀ (ρ : Operand → Value), (execOp ρ o0).run C.P w = .ok .recover w := by
    intro ρ
    simp only [execOp, hop0, resolve, invoke, builtin]
    rfl
  have hasg : ∀ (ρ : Operand → Value), (execOp ρ o1).run C.P w = .ok (.value (ρ (.tmp t))) w := by
    intro ρ
    simp only [execOp, hop1]
    rfl
  subst hops
  simp only [List.size_toArray, List.length_cons, List.length_nil, Nat.zero_add, Nat.reduceAdd, show List.range 2 = [0, 1] from rfl, wpOpsS, List.getElem?_toArray, List.getElem?_cons_zero, List.getElem?_cons_succ, Region.wanted, hg0, hg1, if_true, hrec, hasg, Oper.upon]
  cases e with
  | none =>
    simp only [Met] at hmet
    subst hmet
    have hr : recoverD (c₀ :: fs) = none := by simp [recoverD, hmode]
    simp only [hr]
    have := after c₀.mode .nilIface (by simp [recV, V]) (by rw [hmode]; rfl)
    exact this
  | some v =>
    obtain ⟨x, rfl, hx⟩ := hmet
    have hr : recoverD (c₀ :: fs) = some (x, { c₀ with mode := .panicking [{ v := x, recovered := true }] } :: fs) := by simp [recoverD, hmode]
    simp only [hr]
    have := after (.panicking [{ v := x, recovered := true }]) x hx rfl
    exact this

end Go.Ai

/-
  A LAW: what the evaluator tells of it is what its row asks.
-/
set_option linter.unusedVariables false
namespace Go.Ai
open Go.RowKit

/-- Nothing is kept from us. -/
def noX : Nat → Nat → Prop := fun _ _ => False

theorem below_of_step {w w' : World} {E1 : Env} {H1 : List Blk} (h : Step noX noE [] w E1 H1 w') : Below w.heap.size w w' :=
  ⟨h.still.1.1, h.still.1.2, h.still.2, h.size, fun k hk => h.obj k hk fun b l hb => by cases hb⟩

theorem law_calls {C : Ctx} (T : Told C) {n : Nat} {f : FuncId} {args : List AV} {H1 : List Blk} (h : call C n f args [] = some (.ret (.sc (.bool true)), H1)) {w : World} {vs : List Value}
    (hv : VL (Im noX noE [] w) w args noE vs) : Calls C.P f vs.toArray w fun e w' => e = .returned (.bool true) ∧ Below w.heap.size w w' := by
  obtain ⟨_, hc⟩ := call_sound T n f args [] _ _ h
  refine (hc noX noE w vs (HRel_empty fun _ _ h => h.elim) hv).mono ?_
  rintro e w' ⟨x, rfl, E1, h1, h2, h3⟩
  simp only [V] at h3
  subst h3
  exact ⟨rfl, below_of_step h2⟩

end Go.Ai
