/-
  ANOTHER ORDER FINDS THE SAME: operands, heaps.
-/
import Derived.Test.YtndloeajkfajnaaAiDrawA
set_option linter.unusedVariables false
set_option linter.unusedSimpArgs false
namespace Go.Ai
section
variable {C : Ctx} {call : CallT} {ops : Array Oper} {n : Nat} {t0 : Tm} {Hb bs : List Blk} {S : Nat → TS} {res : Nat → DRes}

def dstAt (ops : Array Oper) (i : Nat) : Option Tmp := (ops[i]?).bind (·.dst)

theorem tmL_succ (L : Nat → Bool) (i t : Nat) : getT (tmL ops res t0 L (i + 1)) t = if L i = true ∧ dstAt ops i = some t then valAt res i else getT (tmL ops res t0 L i) t := by
  simp only [tmL, dstAt]
  by_cases hL : L i = true
  · simp only [hL, if_true, true_and]
    split
    · rename_i d hd
      rw [getT_cons, hd]
      simp only [Option.some.injEq]
    · rename_i hd
      rw [hd]
      simp
  · simp [hL]

theorem tmL_congr {L L' : Nat → Bool} {t : Nat} : ∀ (m : Nat), (∀ i, i < m → dstAt ops i = some t → L i = L' i) → getT (tmL ops res t0 L m) t = getT (tmL ops res t0 L' m) t
  | 0, _ => rfl
  | m + 1, h => by
    rw [tmL_succ, tmL_succ, tmL_congr m fun i hi => h i (by omega)]
    by_cases hd : dstAt ops m = some t
    · rw [h m (by omega) hd]
    · simp [hd]

theorem tmL_ext {L : Nat → Bool} {t j : Nat} : ∀ (m : Nat), j ≤ m → (∀ i, j ≤ i → i < m → L i = true → dstAt ops i ≠ some t) → getT (tmL ops res t0 L m) t = getT (tmL ops res t0 L j) t
  | 0, hj, _ => by
    have : j = 0 := by omega
    subst this
    rfl
  | m + 1, hj, h => by
    by_cases e : j = m + 1
    · rw [e]
    · rw [tmL_succ, if_neg (fun hq => h m (by omega) (by omega) hq.1 hq.2)]
      exact tmL_ext m (by omega) fun i h1 h2 => h i h1 (by omega)

/-- What has come is such that nothing comes before what must stand before it, and comes in the text's run too. -/
structure Shut (ops : Array Oper) (res : Nat → DRes) (L : Nat → Bool) : Prop where
  lt : ∀ i, L i = true → i < ops.size
  pt : ∀ i, L i = true → Pt res i = true
  cl : ∀ i h, L i = true → bef (befs ops.toList []) h i = true → L h = true

/-- j may come next. -/
structure Ripe (ops : Array Oper) (L : Nat → Bool) (j : Nat) (o : Oper) : Prop where
  op : ops[j]? = some o
  un : L j = false
  all : ∀ i, bef (befs ops.toList []) i j = true → L i = true

theorem Ripe.lt {L : Nat → Bool} {j : Nat} {o : Oper} (h : Ripe ops L j o) : j < ops.size := (Array.getElem?_eq_some_iff.1 h.op).1

theorem size_get {i : Nat} (h : i < ops.size) : ∃ o, ops[i]? = some o := ⟨ops[i], Array.getElem?_eq_getElem h⟩

theorem Dr.sees (h : Dr C call ops n t0 Hb bs S res) {L : Nat → Bool} (hS : Shut ops res L) {j : Nat} {o : Oper} (hR : Ripe ops L j o) {t : Nat} (ht : t ∈ o.looksAt ops) :
    getT (tmL ops res t0 L ops.size) t = getT (S j).tmps t := by
  have hj := hR.lt
  rw [h.tmps j (by omega), tmL_ext (j := j) ops.size (by omega) ?_]
  · refine tmL_congr j fun i hi hd => ?_
    obtain ⟨x, hx⟩ := size_get (ops := ops) (i := i) (by omega)
    rcases h.pairs hx hR.op hi with hb | hap
    · have := hR.all i hb
      rw [this, hS.pt i this]
    · obtain ⟨h1, _, _⟩ := Oper.apart_spec hap
      exact absurd ht (h1 t (by simpa [dstAt, hx] using hd))
  · intro i h1 h2 hL hd
    have hne : i ≠ j := by rintro rfl; rw [hR.un] at hL; cases hL
    obtain ⟨y, hy⟩ := size_get (ops := ops) (i := i) h2
    rcases h.pairs hR.op hy (by omega) with hb | hap
    · have := hS.cl i j hL hb
      rw [hR.un] at this
      cases this
    · obtain ⟨_, _, h3⟩ := Oper.apart_spec hap
      exact absurd ht (h3 t (by simpa [dstAt, hy] using hd))

def addL (L : Nat → Bool) (j : Nat) : Nat → Bool := fun i => i == j || L i

theorem Dr.puts (h : Dr C call ops n t0 Hb bs S res) {L : Nat → Bool} (hS : Shut ops res L) {j : Nat} {o : Oper} (hR : Ripe ops L j o) (t : Nat) :
    getT (tmL ops res t0 (addL L j) ops.size) t = if o.dst = some t then valAt res j else getT (tmL ops res t0 L ops.size) t := by
  have hj := hR.lt
  have hdj : dstAt ops j = o.dst := by simp [dstAt, hR.op]
  by_cases hd : o.dst = some t
  · rw [if_pos hd, tmL_ext (j := j + 1) ops.size (by omega) ?_, tmL_succ, if_pos ⟨by simp [addL], by rw [hdj, hd]⟩]
    intro i h1 h2 hL hdi
    have hne : i ≠ j := by omega
    have hL : L i = true := by simpa [addL, hne] using hL
    obtain ⟨y, hy⟩ := size_get (ops := ops) (i := i) h2
    rcases h.pairs hR.op hy (by omega) with hb | hap
    · have := hS.cl i j hL hb
      rw [hR.un] at this
      cases this
    · obtain ⟨_, h3, _⟩ := Oper.apart_spec hap
      exact h3 t hd (by simpa [dstAt, hy] using hdi)
  · rw [if_neg hd]
    refine tmL_congr _ fun i hi hdi => ?_
    have hne : i ≠ j := by rintro rfl; rw [hdj] at hdi; exact hd hdi
    simp [addL, hne]

theorem Dr.shut (h : Dr C call ops n t0 Hb bs S res) {L : Nat → Bool} (hS : Shut ops res L) {j : Nat} {o : Oper} (hR : Ripe ops L j o) (hp : Pt res j = true) : Shut ops res (addL L j) where
  lt := fun i hi => by
    by_cases e : i = j
    · rw [e]; exact hR.lt
    · exact hS.lt i (by simpa [addL, e] using hi)
  pt := fun i hi => by
    by_cases e : i = j
    · rw [e]; exact hp
    · exact hS.pt i (by simpa [addL, e] using hi)
  cl := fun i k hi hb => by
    have : L k = true := by
      by_cases e : i = j
      · exact hR.all k (e ▸ hb)
      · exact hS.cl i k (by simpa [addL, e] using hi) hb
    simp [addL, this]

/-! ### the results, looked into -/

theorem drawMove_inv {Bi : Nat} {sp : Moved} {fl : Seen} {tmps : Tm} {H : List Blk} {o : Oper} {r : DRes} (h : drawMove C call Bi sp fl tmps H o = some r) :
    (∃ v H' D, r = .mov v H' D ∧ dirtOf C tmps H o = some D ∧ movesOK Bi sp fl D = true ∧ (evalOp C call none tmps H o = some (.val v H') ∨ (evalOp C call none tmps H o = some (.skip H') ∧ v = unit))) ∨
    (∃ v H' D, r = .pan v H' ∧ movesOK Bi sp fl D = true ∧ evalOp C call none tmps H o = some (.pan v H')) := by
  unfold drawMove at h
  split at h
  · cases h
  · rename_i D hD
    split at h
    · rename_i hm
      split at h
      · rename_i v H' he; cases h; exact .inl ⟨v, H', D, rfl, hD, hm, .inl he⟩
      · rename_i H' he; cases h; exact .inl ⟨_, H', D, rfl, hD, hm, .inr ⟨he, rfl⟩⟩
      · rename_i v H' he; cases h; exact .inr ⟨v, H', D, rfl, hm, he⟩
      · cases h
    · cases h

/-- How it stands with an operation that has come in the text's run. -/
inductive Way (C : Ctx) (call : CallT) (ops : Array Oper) (Bi k : Nat) (sp : Moved) (fl : Seen) (tmps : Tm) (H : List Blk) (o : Oper) : DRes → Prop where
  | off : wantedA ops tmps o = some false → Way C call ops Bi k sp fl tmps H o (.val unit [])
  | new (t : TypeId) : wantedA ops tmps o = some true → kindOf o.op = .alloc t → (∀ e ∈ sp, hits e.2 k = false) → Way C call ops Bi k sp fl tmps H o (.val (.ptr k 0 0 0) [k])
  | look (v : AV) (T : List Nat) : wantedA ops tmps o = some true → (∀ H2, Alike T H H2 → evalOp C call none tmps H2 o = some (.val v H2)) → (∀ b ∈ T, b < H.length) →
      (∀ e ∈ sp, Nat.testBit Bi e.1 = true ∨ freeOf e.2 T = true) → (∀ b ∈ T, ∃ us, evL tmps o.op.operands.toList = some us ∧ b ∈ refsL 0 us) → (∀ t, kindOf o.op ≠ .alloc t) → Way C call ops Bi k sp fl tmps H o (.val v T)
  | mov (v : AV) (H' : List Blk) (D : Dirt) : wantedA ops tmps o = some true → dirtOf C tmps H o = some D → movesOK Bi sp fl D = true →
      (evalOp C call none tmps H o = some (.val v H') ∨ (evalOp C call none tmps H o = some (.skip H') ∧ v = unit)) → Way C call ops Bi k sp fl tmps H o (.mov v H' D)
  | pan (v : AV) (H' : List Blk) (D : Dirt) : wantedA ops tmps o = some true → movesOK Bi sp fl D = true → evalOp C call none tmps H o = some (.pan v H') → Way C call ops Bi k sp fl tmps H o (.pan v H')

theorem drawOp_inv {Bi : Nat} {pan : Option Nat} {k : Nat} {sp : Moved} {fl : Seen} {tmps : Tm} {H : List Blk} {o : Oper} {r : DRes} (h : drawOp C call ops Bi pan k sp fl tmps H o = some r) :
    (r = .dead ∧ ∃ j, pan = some j ∧ Nat.testBit Bi j = true) ∨ Way C call ops Bi k sp fl tmps H o r := by
  have hmove : wantedA ops tmps o = some true → drawMove C call Bi sp fl tmps H o = some r → Way C call ops Bi k sp fl tmps H o r := by
    intro hw hm
    rcases drawMove_inv hm with ⟨v, H', D, rfl, h1, h2, h3⟩ | ⟨v, H', D, rfl, h1, h2⟩
    · exact .mov v H' D hw h1 h2 h3
    · exact .pan v H' D hw h1 h2
  unfold drawOp at h
  split at h
  · rename_i hd
    cases h
    left
    refine ⟨rfl, ?_⟩
    split at hd
    · rename_i j; exact ⟨j, rfl, hd⟩
    · cases hd
  · right
    split at h
    · cases h
    · rename_i hw; cases h; exact .off hw
    · rename_i hw
      split at h
      · rename_i t hk
        split at h
        · rename_i hs
          cases h
          refine .new t hw hk fun e he => ?_
          simpa using List.all_eq_true.1 hs e he
        · cases h
      · rename_i hk
        split at h
        · rename_i v H1 he
          cases h
          obtain ⟨_, h2⟩ := evalOp_pure hk he
          refine .look v [] hw (fun H2 _ => h2 H2) (by simp) (fun e _ => .inr ?_) (by simp) (fun t => by rw [hk]; simp)
          simp [freeOf]
        · cases h
      · rename_i hk
        split at h
        · rename_i us hu
          split at h
          · rename_i hlk
            split at h
            · rename_i v H1 he
              cases h
              obtain ⟨_, h2⟩ := evalOp_looks hk hu he
              simp only [looksOK, Bool.and_eq_true, List.all_eq_true, Nat.blt_eq, Bool.or_eq_true] at hlk
              exact .look v _ hw h2 hlk.1 hlk.2 (fun b hb => ⟨us, hu, hb⟩) (fun t => by rw [hk]; simp)
            · cases h
          · cases h
        · cases h
      · rename_i hk
        split at h
        · rename_i us hu
          split at h
          · rename_i hdt
            split at h
            · rename_i v H1 he
              cases h
              simp only [Bool.and_eq_true] at hdt
              obtain ⟨_, h2⟩ := evalOp_lit hk hu hdt.1 hdt.2 he
              refine .look v [] hw (fun H2 _ => h2 H2) (by simp) (fun e _ => .inr ?_) (by simp) (fun t => by rw [hk]; simp)
              simp [freeOf]
            · cases h
          · split at h
            · exact hmove hw h
            · cases h
        · cases h
      · split at h
        · exact hmove hw h
        · cases h

theorem Dr.way (h : Dr C call ops n t0 Hb bs S res) {i : Nat} {o : Oper} (ho : ops[i]? = some o) :
    (res i = .dead ∧ ∃ j v H, (S i).pan = some (j, v, H) ∧ bef (befs ops.toList []) j i = true) ∨
      Way C call ops ((befs ops.toList []).getD i 0) (S i).k (S i).sp (S i).fl (S i).tmps (S i).heap o (res i) := by
  obtain ⟨o', ho', hd, hn⟩ := h.at1 i (Array.getElem?_eq_some_iff.1 ho).1
  rw [ho] at ho'
  cases ho'
  rcases drawOp_inv hd with ⟨h1, j, h2, h3⟩ | h1
  · left
    simp only [Option.map_eq_some_iff] at h2
    obtain ⟨⟨j', v, H⟩, h4, rfl⟩ := h2
    exact ⟨h1, j', v, H, h4, h3⟩
  · exact .inr h1

theorem Dr.heap_step (h : Dr C call ops n t0 Hb bs S res) {i : Nat} (hi : i < ops.size) (hm : ∀ v H D, res i ≠ .mov v H D) : (S (i + 1)).heap = (S i).heap := by
  obtain ⟨o, ho, hd, hn⟩ := h.at1 i hi
  cases hr : res i with
  | dead => rw [hr] at hn; simp only [Next] at hn; rw [hn]
  | pan v H => rw [hr] at hn; simp only [Next] at hn; rw [hn]
  | val v U => rw [hr] at hn; simp only [Next] at hn; obtain ⟨t, _, hn⟩ := hn; rw [hn]
  | mov v H D => exact absurd hr (hm v H D)

theorem Dr.heap_same (h : Dr C call ops n t0 Hb bs S res) {p : Nat} : ∀ (q : Nat), p ≤ q → q ≤ ops.size → (∀ i, p ≤ i → i < q → ∀ v H D, res i ≠ .mov v H D) → (S q).heap = (S p).heap
  | 0, hp, _, _ => by
    have : p = 0 := by omega
    rw [this]
  | q + 1, hp, hq, hm => by
    by_cases e : p = q + 1
    · rw [e]
    · rw [h.heap_step (by omega) (hm q (by omega) (by omega)), h.heap_same q (by omega) (by omega) fun i h1 h2 => hm i h1 (by omega)]

theorem Dr.heap_keep (h : Dr C call ops n t0 Hb bs S res) {p b : Nat} (hb : b < (S p).heap.length) : ∀ (q : Nat), p ≤ q → q ≤ ops.size →
    (∀ i, p ≤ i → i < q → ∀ v H D, res i = .mov v H D → hits D b = false) → sameB (S p).heap[b]? (S q).heap[b]? ∧ b < (S q).heap.length
  | 0, hp, _, _ => by
    have : p = 0 := by omega
    subst this
    exact ⟨.refl _, hb⟩
  | q + 1, hp, hq, hm => by
    by_cases e : p = q + 1
    · subst e; exact ⟨.refl _, hb⟩
    · obtain ⟨h1, h2⟩ := h.heap_keep hb q (by omega) (by omega) fun i h1 h2 => hm i h1 (by omega)
      by_cases hmov : ∃ v H D, res q = .mov v H D
      · obtain ⟨v, H', D, hr⟩ := hmov
        have hh := hm q (by omega) (by omega) v H' D hr
        obtain ⟨o, ho, hd, hn⟩ := h.at1 q (by omega)
        have hH : (S (q + 1)).heap = H' := by
          rw [hr] at hn; simp only [Next] at hn; obtain ⟨t, _, hn⟩ := hn; rw [hn]
        rcases h.way ho with ⟨hr', _⟩ | hw
        · rw [hr] at hr'; cases hr'
        · rw [hr] at hw
          cases hw with
          | mov _ _ _ hwt hdt hmv hev =>
            cases D with
            | none => simp [hits] at hh
            | some D =>
              have hk : Kept D (S q).heap H' := by
                rcases hev with hev | ⟨hev, _⟩
                · exact dirt_kept hdt hev (.inl ⟨v, rfl⟩)
                · exact dirt_kept hdt hev (.inr rfl)
              rw [hH]
              refine ⟨h1.trans (hk.2 b h2 ?_), Nat.lt_of_lt_of_le h2 hk.1⟩
              simp only [hits] at hh
              intro hmem
              rw [List.contains_iff_mem.2 hmem] at hh
              cases hh
      · have hm' : ∀ v H D, res q ≠ .mov v H D := fun v H D hr => hmov ⟨v, H, D, hr⟩
        rw [h.heap_step (by omega) hm']
        exact ⟨h1, h2⟩

end
end Go.Ai
