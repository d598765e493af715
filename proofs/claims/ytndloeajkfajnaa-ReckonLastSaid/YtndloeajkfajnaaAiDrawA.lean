/-
  WHAT THE TEXT'S RUN OF A DRAWN REGION TELLS OF ANOTHER ORDER: plain lists.
-/
import Derived.Test.YtndloeajkfajnaaAiTrace
set_option linter.unusedVariables false
set_option linter.unusedSimpArgs false
namespace Go.Ai

structure Dr (C : Ctx) (call : CallT) (ops : Array Oper) (n : Nat) (t0 : Tm) (Hb bs : List Blk) (S : Nat → TS) (res : Nat → DRes) : Prop where
  ok : drawOK ops (befs ops.toList []) = true
  lay : layAllocs C.P ops.toList = some bs
  s0 : S 0 = ⟨Hb.length, [], [], none, t0, Hb ++ bs⟩
  at1 : ∀ i, i < ops.size → ∃ o, At1 C call ops (befs ops.toList []) n i o (res i) (S i) (S (i + 1))

def Pt (res : Nat → DRes) (i : Nat) : Bool := match res i with
  | .val .. | .mov .. => true
  | _ => false

def valAt (res : Nat → DRes) (i : Nat) : AV := match res i with
  | .val v _ | .mov v _ _ => v
  | _ => .undef

/-- The slots once the operations of L have come, each later one in the text on top. -/
def tmL (ops : Array Oper) (res : Nat → DRes) (t0 : Tm) (L : Nat → Bool) : Nat → Tm
  | 0 => t0
  | i + 1 => if L i then (match (ops[i]?).bind (·.dst) with
      | some d => (d, valAt res i) :: tmL ops res t0 L i
      | none => tmL ops res t0 L i) else tmL ops res t0 L i

theorem getT_cons (d t : Nat) (v : AV) (r : Tm) : getT ((d, v) :: r) t = if d = t then v else getT r t := by
  simp only [getT]
  by_cases h : d = t
  · subst h; simp
  · have : Nat.beq d t = false := by
      cases hb : Nat.beq d t with
      | false => rfl
      | true => exact absurd (Nat.eq_of_beq_eq_true hb) h
    simp [this, h]

section
variable {C : Ctx} {call : CallT} {ops : Array Oper} {n : Nat} {t0 : Tm} {Hb bs : List Blk} {S : Nat → TS} {res : Nat → DRes}

theorem Dr.edges (h : Dr C call ops n t0 Hb bs S res) : edgesOK ops.toList 0 = true := by
  have := h.ok
  simp only [drawOK, Bool.and_eq_true] at this
  exact this.1

theorem Dr.pairs (h : Dr C call ops n t0 Hb bs S res) {i j : Nat} {x y : Oper} (hx : ops[i]? = some x) (hy : ops[j]? = some y) (hij : i < j) : bef (befs ops.toList []) i j = true ∨ x.apart ops y = true := by
  have := h.ok
  simp only [drawOK, Bool.and_eq_true] at this
  have := pairsOK_spec this.2 rfl j y (by simpa using hy) i x (by simpa using hx) (by omega)
  simpa using this

theorem Dr.fl (h : Dr C call ops n t0 Hb bs S res) : ∀ (i : Nat), i ≤ ops.size → ∀ (j : Nat) (T : List Nat), (j, T) ∈ (S i).fl ↔ j < i ∧ ∃ v, res j = .val v T
  | 0, _, j, T => by rw [h.s0]; simp
  | i + 1, hi, j, T => by
    obtain ⟨o, ho, hd, hn⟩ := h.at1 i (by omega)
    have ih := h.fl i (by omega) j T
    have key : ∀ s : Seen, (∀ v U, res i ≠ .val v U) → (S (i + 1)).fl = (S i).fl → ((j, T) ∈ (S (i + 1)).fl ↔ j < i + 1 ∧ ∃ v, res j = .val v T) := by
      intro _ hne he
      rw [he, ih]
      constructor
      · rintro ⟨h1, h2⟩; exact ⟨by omega, h2⟩
      · rintro ⟨h1, v, h2⟩
        refine ⟨?_, v, h2⟩
        rcases Nat.lt_or_ge j i with h3 | h3
        · exact h3
        · have : j = i := by omega
          subst this
          exact absurd h2 (hne v T)
    cases hr : res i with
    | dead => rw [hr] at hn; simp only [Next] at hn; exact key [] (by rw [hr]; simp) (by rw [hn])
    | pan v H => rw [hr] at hn; simp only [Next] at hn; exact key [] (by rw [hr]; simp) (by rw [hn])
    | mov v H D => rw [hr] at hn; simp only [Next] at hn; obtain ⟨t, _, hn⟩ := hn; exact key [] (by rw [hr]; simp) (by rw [hn])
    | val v U =>
      rw [hr] at hn
      simp only [Next] at hn
      obtain ⟨t, _, hn⟩ := hn
      rw [hn]
      simp only [List.mem_cons, Prod.mk.injEq, ih]
      constructor
      · rintro (⟨rfl, rfl⟩ | ⟨h1, h2⟩)
        · exact ⟨by omega, v, hr⟩
        · exact ⟨by omega, h2⟩
      · rintro ⟨h1, v', h2⟩
        rcases Nat.lt_or_ge j i with h3 | h3
        · exact .inr ⟨h3, v', h2⟩
        · have : j = i := by omega
          subst this
          rw [hr] at h2
          cases h2
          exact .inl ⟨rfl, rfl⟩

theorem Dr.sp (h : Dr C call ops n t0 Hb bs S res) : ∀ (i : Nat), i ≤ ops.size → ∀ (j : Nat) (D : Dirt), (j, D) ∈ (S i).sp ↔ j < i ∧ ∃ v H, res j = .mov v H D
  | 0, _, j, T => by rw [h.s0]; simp
  | i + 1, hi, j, T => by
    obtain ⟨o, ho, hd, hn⟩ := h.at1 i (by omega)
    have ih := h.sp i (by omega) j T
    have key : ∀ s : Seen, (∀ v H U, res i ≠ .mov v H U) → (S (i + 1)).sp = (S i).sp → ((j, T) ∈ (S (i + 1)).sp ↔ j < i + 1 ∧ ∃ v H, res j = .mov v H T) := by
      intro _ hne he
      rw [he, ih]
      constructor
      · rintro ⟨h1, h2⟩; exact ⟨by omega, h2⟩
      · rintro ⟨h1, v, H, h2⟩
        refine ⟨?_, v, H, h2⟩
        rcases Nat.lt_or_ge j i with h3 | h3
        · exact h3
        · have : j = i := by omega
          subst this
          exact absurd h2 (hne v H T)
    cases hr : res i with
    | dead => rw [hr] at hn; simp only [Next] at hn; exact key [] (by rw [hr]; simp) (by rw [hn])
    | pan v H => rw [hr] at hn; simp only [Next] at hn; exact key [] (by rw [hr]; simp) (by rw [hn])
    | val v U => rw [hr] at hn; simp only [Next] at hn; obtain ⟨t, _, hn⟩ := hn; exact key [] (by rw [hr]; simp) (by rw [hn])
    | mov v H U =>
      rw [hr] at hn
      simp only [Next] at hn
      obtain ⟨t, _, hn⟩ := hn
      rw [hn]
      simp only [List.mem_cons, Prod.mk.injEq, ih]
      constructor
      · rintro (⟨rfl, rfl⟩ | ⟨h1, h2⟩)
        · exact ⟨by omega, v, H, hr⟩
        · exact ⟨by omega, h2⟩
      · rintro ⟨h1, v', H', h2⟩
        rcases Nat.lt_or_ge j i with h3 | h3
        · exact .inr ⟨h3, v', H', h2⟩
        · have : j = i := by omega
          subst this
          rw [hr] at h2
          cases h2
          exact .inl ⟨rfl, rfl⟩

theorem Dr.pan (h : Dr C call ops n t0 Hb bs S res) : ∀ (i : Nat), i ≤ ops.size → (∀ j v H, (S i).pan = some (j, v, H) → j < i ∧ res j = .pan v H) ∧ ((S i).pan = none → ∀ j v H, j < i → res j ≠ .pan v H)
  | 0, _ => by
    rw [h.s0]
    refine ⟨fun j v H hp => ?_, fun _ j v H hj => ?_⟩
    · cases hp
    · omega
  | i + 1, hi => by
    obtain ⟨o, ho, hd, hn⟩ := h.at1 i (by omega)
    obtain ⟨ih1, ih2⟩ := h.pan i (by omega)
    have key : (∀ v H, res i ≠ .pan v H) → (S (i + 1)).pan = (S i).pan → (∀ j v H, (S (i + 1)).pan = some (j, v, H) → j < i + 1 ∧ res j = .pan v H) ∧ ((S (i + 1)).pan = none → ∀ j v H, j < i + 1 → res j ≠ .pan v H) := by
      intro hne he
      rw [he]
      refine ⟨fun j v H hp => ⟨by have := (ih1 j v H hp).1; omega, (ih1 j v H hp).2⟩, fun hp j v H hj => ?_⟩
      rcases Nat.lt_or_ge j i with h3 | h3
      · exact ih2 hp j v H h3
      · have : j = i := by omega
        subst this
        exact hne v H
    cases hr : res i with
    | dead => rw [hr] at hn; simp only [Next] at hn; exact key (by rw [hr]; simp) (by rw [hn])
    | val v U => rw [hr] at hn; simp only [Next] at hn; obtain ⟨t, _, hn⟩ := hn; exact key (by rw [hr]; simp) (by rw [hn])
    | mov v H U => rw [hr] at hn; simp only [Next] at hn; obtain ⟨t, _, hn⟩ := hn; exact key (by rw [hr]; simp) (by rw [hn])
    | pan v H =>
      rw [hr] at hn
      simp only [Next] at hn
      rw [hn]
      refine ⟨fun j v' H' hp => ?_, fun hp => by cases hp⟩
      simp only [Option.some.injEq, Prod.mk.injEq] at hp
      obtain ⟨rfl, rfl, rfl⟩ := hp
      exact ⟨by omega, hr⟩

theorem putA_tmL {i : Nat} {o : Oper} {v : AV} {t r : Tm} (ho : ops[i]? = some o) (hp : putA n r o.dst v = some t) :
    t = match (ops[i]?).bind (·.dst) with
      | some d => (d, v) :: r
      | none => r := by
  rw [ho]
  simp only [Option.bind_some]
  cases hd : o.dst with
  | none => rw [hd] at hp; simp only [putA, Option.some.injEq] at hp; exact hp.symm
  | some d =>
    rw [hd] at hp
    simp only [putA] at hp
    split at hp
    · cases hp; rfl
    · cases hp

theorem Dr.tmps (h : Dr C call ops n t0 Hb bs S res) : ∀ (i : Nat), i ≤ ops.size → (S i).tmps = tmL ops res t0 (Pt res) i
  | 0, _ => by rw [h.s0]; rfl
  | i + 1, hi => by
    obtain ⟨o, ho, hd, hn⟩ := h.at1 i (by omega)
    have ih := h.tmps i (by omega)
    simp only [tmL]
    cases hr : res i with
    | dead => rw [hr] at hn; simp only [Next] at hn; rw [hn]; simp [Pt, hr, ih]
    | pan v H => rw [hr] at hn; simp only [Next] at hn; rw [hn]; simp [Pt, hr, ih]
    | val v U =>
      rw [hr] at hn; simp only [Next] at hn; obtain ⟨t, hp, hn⟩ := hn
      rw [hn]
      simp only [Pt, hr, if_true, valAt, ← ih]
      exact putA_tmL ho hp
    | mov v H U =>
      rw [hr] at hn; simp only [Next] at hn; obtain ⟨t, hp, hn⟩ := hn
      rw [hn]
      simp only [Pt, hr, if_true, valAt, ← ih]
      exact putA_tmL ho hp

/-- The place of the next variable's block. -/
def cnt : List Oper → Nat → Nat
  | [], _ => 0
  | _, 0 => 0
  | o :: os, i + 1 => (match kindOf o.op with | .alloc _ => 1 | _ => 0) + cnt os i

theorem cnt_succ : ∀ {os : List Oper} {i : Nat} {o : Oper}, os[i]? = some o → cnt os (i + 1) = cnt os i + (match kindOf o.op with | .alloc _ => 1 | _ => 0)
  | [], i, o, h => by simp at h
  | o' :: os, 0, o, h => by
    simp only [List.getElem?_cons_zero, Option.some.injEq] at h
    subst h
    cases os <;> simp [cnt]
  | o' :: os, i + 1, o, h => by
    have := cnt_succ (os := os) (i := i) (o := o) (by simpa using h)
    simp only [cnt] at this ⊢
    rw [this]
    omega

theorem nextK_eq (o : Oper) (k : Nat) : nextK o k = k + (match kindOf o.op with | .alloc _ => 1 | _ => 0) := by
  unfold nextK
  split <;> simp_all

theorem Dr.k (h : Dr C call ops n t0 Hb bs S res) : ∀ (i : Nat), i ≤ ops.size → (S i).k = Hb.length + cnt ops.toList i
  | 0, _ => by
    rw [h.s0]
    cases ops.toList <;> simp [cnt]
  | i + 1, hi => by
    obtain ⟨o, ho, hd, hn⟩ := h.at1 i (by omega)
    have ih := h.k i (by omega)
    have hk : (S (i + 1)).k = nextK o (S i).k := by
      cases hr : res i with
      | dead => rw [hr] at hn; simp only [Next] at hn; rw [hn]
      | pan v H => rw [hr] at hn; simp only [Next] at hn; rw [hn]
      | val v U => rw [hr] at hn; simp only [Next] at hn; obtain ⟨t, _, hn⟩ := hn; rw [hn]
      | mov v H U => rw [hr] at hn; simp only [Next] at hn; obtain ⟨t, _, hn⟩ := hn; rw [hn]
    rw [hk, nextK_eq, ih, cnt_succ (show ops.toList[i]? = some o by simpa using ho)]
    omega

theorem layAllocs_spec {P : Program} : ∀ {os : List Oper} {bs : List Blk}, layAllocs P os = some bs → ∀ (i : Nat) (o : Oper) (t : TypeId), os[i]? = some o → kindOf o.op = .alloc t →
    ∃ cs n, bs[cnt os i]? = some (.cells n 0 [cs] false) ∧ (zeroT P t).bind (fun z => cellsA (absV z)) = some cs ∧ szT P t = some n ∧ cs.length = n
  | [], bs, h, i, o, t, ho, hk => by simp at ho
  | o' :: os, bs, h, i, o, t, ho, hk => by
    simp only [layAllocs] at h
    split at h
    · rename_i t' hk'
      split at h
      · rename_i cs n bs' h1 h2 h3
        split at h
        · rename_i hl
          cases h
          cases i with
          | zero =>
            simp only [List.getElem?_cons_zero, Option.some.injEq] at ho
            subst ho
            rw [hk'] at hk
            cases hk
            exact ⟨cs, n, by simp [cnt], h1, h2, hl⟩
          | succ i =>
            obtain ⟨cs', n', h4, h5⟩ := layAllocs_spec h3 i o t (by simpa using ho) hk
            refine ⟨cs', n', ?_, h5⟩
            simp only [cnt, hk']
            rw [show 1 + cnt os i = cnt os i + 1 by omega, List.getElem?_cons_succ]
            exact h4
        · cases h
      · cases h
    · rename_i hk'
      cases i with
      | zero =>
        simp only [List.getElem?_cons_zero, Option.some.injEq] at ho
        subst ho
        exact absurd hk (hk' t)
      | succ i =>
        obtain ⟨cs', n', h4, h5⟩ := layAllocs_spec h i o t (by simpa using ho) hk
        refine ⟨cs', n', ?_, h5⟩
        simp only [cnt]
        rw [Nat.zero_add]
        exact h4

end
end Go.Ai
