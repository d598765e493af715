/-
  ABSTRACT VALUES AND THEIR PARTS: lists of values, rows of cells, constants, operands.
-/
import Derived.Test.YtndloeajkfajnaaAiHeap
set_option linter.unusedVariables false
namespace Go.Ai
section
variable {im : Nat → Nat → Prop} {w : World}

theorem VL_length : ∀ {cs : List AV} {E : Env} {xs : List Value}, VL im w cs E xs → xs.length = cs.length
  | [], _, _, h => by simp only [VL] at h; subst h; rfl
  | c :: cs, _, _, h => by
    simp only [VL] at h
    obtain ⟨v, r, rfl, _, h2⟩ := h
    simp [VL_length h2]

theorem VL_get : ∀ {cs : List AV} {E : Env} {xs : List Value} {i : Nat} {c : AV}, VL im w cs E xs → cs[i]? = some c → ∃ x, xs[i]? = some x ∧ V im w c E x
  | [], _, _, i, _, _, h => by simp at h
  | c :: cs, _, _, 0, d, h, e => by
    simp only [VL] at h
    obtain ⟨v, r, rfl, h1, _⟩ := h
    simp only [List.getElem?_cons_zero, Option.some.injEq] at e
    subst e
    exact ⟨v, by simp, h1⟩
  | c :: cs, _, _, i + 1, d, h, e => by
    simp only [VL] at h
    obtain ⟨v, r, rfl, _, h2⟩ := h
    simp only [List.getElem?_cons_succ] at e ⊢
    exact VL_get h2 e

theorem VL_of_get : ∀ {cs : List AV} {E : Env} {xs : List Value}, xs.length = cs.length → (∀ (i : Nat) (c : AV) (x : Value), cs[i]? = some c → xs[i]? = some x → V im w c E x) → VL im w cs E xs
  | [], _, xs, hl, _ => by simp only [VL]; exact List.length_eq_zero_iff.1 hl
  | c :: cs, _, [], hl, _ => by simp at hl
  | c :: cs, _, x :: xs, hl, h => by
    simp only [VL]
    exact ⟨x, xs, rfl, h 0 c x (by simp) (by simp), VL_of_get (by simpa using hl) fun i c x h1 h2 => h (i + 1) c x (by simpa using h1) (by simpa using h2)⟩

theorem VL_set {cs : List AV} {E : Env} {xs : List Value} {c : AV} {x : Value} (h : VL im w cs E xs) (i : Nat) (hv : V im w c E x) : VL im w (cs.set i c) E (xs.set i x) := by
  refine VL_of_get (by simp [VL_length h]) fun j d y hd hy => ?_
  rw [List.getElem?_set] at hd hy
  by_cases e : i = j
  · subst e
    simp only [if_true] at hd hy
    split at hd
    · rename_i h1
      rw [if_pos (by rw [VL_length h]; exact h1)] at hy
      simp only [Option.some.injEq] at hd hy
      subst hd; subst hy; exact hv
    · cases hd
  · simp only [e, if_false] at hd hy
    obtain ⟨y', hy', h2⟩ := VL_get h hd
    rw [hy'] at hy; cases hy; exact h2

theorem VL_append {cs ds : List AV} {E : Env} {xs ys : List Value} (h : VL im w cs E xs) (h' : VL im w ds E ys) : VL im w (cs ++ ds) E (xs ++ ys) := by
  induction cs generalizing xs with
  | nil => simp only [VL] at h; subst h; simpa using h'
  | cons c cs ih =>
    simp only [VL] at h
    obtain ⟨v, r, rfl, h1, h2⟩ := h
    simp only [List.cons_append, VL]
    exact ⟨v, r ++ ys, rfl, h1, ih h2⟩

theorem VL_drop {cs : List AV} {E : Env} {xs : List Value} (h : VL im w cs E xs) (n : Nat) : VL im w (cs.drop n) E (xs.drop n) := by
  refine VL_of_get (by simp [VL_length h]) fun i c x hc hx => ?_
  rw [List.getElem?_drop] at hc hx
  obtain ⟨y, hy, hv⟩ := VL_get h hc
  rw [hy] at hx; cases hx; exact hv

theorem VL_take {cs : List AV} {E : Env} {xs : List Value} (h : VL im w cs E xs) (n : Nat) : VL im w (cs.take n) E (xs.take n) := by
  refine VL_of_get (by simp [VL_length h]) fun i c x hc hx => ?_
  rw [List.getElem?_take] at hc hx
  split at hc
  · rename_i hlt
    rw [if_pos hlt] at hx
    obtain ⟨y, hy, hv⟩ := VL_get h hc
    rw [hy] at hx; cases hx; exact hv
  · cases hc

theorem VL_undef (n : Nat) (E : Env) : VL im w (List.replicate n unit) E (List.replicate n Go.undef) := by
  refine VL_of_get (by simp) fun i c x hc hx => ?_
  rw [List.getElem?_replicate] at hc hx
  split at hc
  · rename_i h1
    rw [if_pos h1] at hx
    cases hc; cases hx
    simp [V, unit, Go.undef]
  · cases hc

theorem VL_sc (E : Env) : ∀ (l : List Value), VL im w (l.map AV.sc) E l
  | [] => by simp [VL]
  | v :: l => by simp only [List.map_cons, VL]; exact ⟨v, l, rfl, by simp [V], VL_sc E l⟩

theorem V_abs1 (E : Env) (v : Value) : V im w (abs1 v) E v := by
  cases v <;> simp only [abs1, V]
  rename_i cs
  exact ⟨cs, rfl, VL_sc E _⟩

theorem V_absV (E : Env) (v : Value) : V im w (absV v) E v := by
  cases v <;> simp only [absV] <;> try exact V_abs1 E _
  rename_i vs
  split
  · simp [V]
  · simp only [V]
    refine ⟨vs, rfl, VL_of_get (by simp) fun i c x hc hx => ?_⟩
    simp only [List.getElem?_map] at hc
    rw [hx] at hc
    simp only [Option.map_some, Option.some.injEq] at hc
    subst hc
    exact V_abs1 E x

mutual
theorem V_conc : ∀ {c : AV} {v : Value} {E : Env} {x : Value}, conc c = some v → V im w c E x → x = v
  | .sc _, _, _, _, h, h' => by
    simp only [conc, Option.some.injEq] at h
    simp only [V] at h'
    rw [h', h]
  | .agg cs, v, E, x, h, h' => by
    simp only [conc, Option.map_eq_some_iff] at h
    obtain ⟨l, hl, rfl⟩ := h
    simp only [V] at h'
    obtain ⟨vs, rfl, hv⟩ := h'
    rw [← VL_conc hl hv]
  | .tup cs, v, E, x, h, h' => by
    simp only [conc, Option.map_eq_some_iff] at h
    obtain ⟨l, hl, rfl⟩ := h
    simp only [V] at h'
    obtain ⟨vs, rfl, hv⟩ := h'
    rw [← VL_conc hl hv]
  | .fn f cs, v, E, x, h, h' => by
    simp only [conc, Option.map_eq_some_iff] at h
    obtain ⟨l, hl, rfl⟩ := h
    simp only [V] at h'
    obtain ⟨vs, rfl, hv⟩ := h'
    rw [← VL_conc hl hv]
  | .ifc t a, v, E, x, h, h' => by
    simp only [conc, Option.map_eq_some_iff] at h
    obtain ⟨y, hy, rfl⟩ := h
    simp only [V] at h'
    obtain ⟨z, rfl, hz⟩ := h'
    rw [V_conc hy hz]
  | .undef, _, _, _, h, _ => by simp [conc] at h
  | .ptr .., _, _, _, h, _ => by simp [conc] at h
  | .rp .., _, _, _, h, _ => by simp [conc] at h
  | .sl .., _, _, _, h, _ => by simp [conc] at h
  | .ro .., _, _, _, h, _ => by simp [conc] at h
  | .mp _, _, _, _, h, _ => by simp [conc] at h
theorem VL_conc : ∀ {cs : List AV} {l : List Value} {E : Env} {xs : List Value}, concL cs = some l → VL im w cs E xs → xs = l
  | [], l, _, xs, h, h' => by
    simp only [concL, Option.some.injEq] at h
    simp only [VL] at h'
    rw [h', h]
  | c :: cs, l, E, xs, h, h' => by
    simp only [concL] at h
    simp only [VL] at h'
    obtain ⟨v, r, rfl, h1, h2⟩ := h'
    split at h
    · rename_i v' vs' e1 e2
      simp only [Option.some.injEq] at h
      subst h
      rw [V_conc e1 h1, VL_conc e2 h2]
    · cases h
end

theorem V_single {c : AV} {E : Env} {x : Value} (h : single c = true) (hv : V im w c E x) : (∀ cs, x ≠ .agg cs) ∧ (∀ vs, x ≠ .tuple vs) ∧ x.cells = #[x] := by
  have fin : ∀ x : Value, (∀ cs, x ≠ .agg cs) → (∀ vs, x ≠ .tuple vs) → (∀ cs, x ≠ .agg cs) ∧ (∀ vs, x ≠ .tuple vs) ∧ x.cells = #[x] := by
    intro x h1 h2
    refine ⟨h1, h2, ?_⟩
    cases x <;> simp [Value.cells]
    exact (h1 _ rfl).elim
  cases c with
  | sc v =>
    simp only [V] at hv
    subst hv
    apply fin
    · rintro cs rfl; simp [single] at h
    · rintro cs rfl; simp [single] at h
  | ptr => simp only [V] at hv; obtain ⟨_, _, _, _, rfl, _⟩ := hv; exact fin _ (by simp) (by simp)
  | rp => simp only [V] at hv; obtain ⟨_, _, rfl, _⟩ := hv; exact fin _ (by simp) (by simp)
  | sl => simp only [V] at hv; obtain ⟨_, _, _, _, _, rfl, _⟩ := hv; exact fin _ (by simp) (by simp)
  | ro => simp only [V] at hv; obtain ⟨_, _, rfl, _⟩ := hv; exact fin _ (by simp) (by simp)
  | mp => simp only [V] at hv; obtain ⟨_, _, _, rfl, _⟩ := hv; exact fin _ (by simp) (by simp)
  | fn => simp only [V] at hv; obtain ⟨_, rfl, _⟩ := hv; exact fin _ (by simp) (by simp)
  | ifc => simp only [V] at hv; obtain ⟨_, rfl, _⟩ := hv; exact fin _ (by simp) (by simp)
  | agg => simp [single] at h
  | tup => simp [single] at h
  | undef => simp [single] at h

theorem V_cells {c : AV} {cs : List AV} {E : Env} {x : Value} (h : cellsA c = some cs) (hv : V im w c E x) :
    VL im w cs E x.cells.toList ∧ (∀ d ∈ cs, single d = true) := by
  have one : ∀ c : AV, single c = true → V im w c E x → VL im w [c] E x.cells.toList := by
    intro c hc hv
    rw [(V_single hc hv).2.2]
    simp only [VL]
    exact ⟨x, [], rfl, hv, rfl⟩
  cases c with
  | agg ds =>
    simp only [cellsA] at h
    split at h
    · rename_i ha
      cases h
      simp only [V] at hv
      obtain ⟨vs, rfl, hv⟩ := hv
      exact ⟨by simpa [Value.cells] using hv, List.all_eq_true.1 ha⟩
    · cases h
  | sc v =>
    cases v with
    | agg ds =>
      simp only [cellsA] at h
      split at h
      · rename_i ha
        cases h
        simp only [V] at hv
        subst hv
        exact ⟨by simpa [Value.cells] using VL_sc E _, List.all_eq_true.1 ha⟩
      · cases h
    | _ =>
      simp only [cellsA] at h
      split at h
      · rename_i hs; cases h; exact ⟨one _ hs hv, by simpa using hs⟩
      · cases h
  | _ =>
    simp only [cellsA] at h
    split at h
    · rename_i hs; cases h; exact ⟨one _ hs hv, by simpa using hs⟩
    · cases h

/-! ### rows -/

theorem VR_get : ∀ {cs : List AV} {B o i : Nat} {c : AV}, VR im w cs B o → cs[i]? = some c → im B (o + i) ∧ ∃ x, w.cell? ⟨B, o + i, none⟩ = some x ∧ x.oneCell' = true ∧ V im w c noE x
  | [], _, _, _, _, _, h => by simp at h
  | c :: cs, B, o, 0, d, h, e => by
    simp only [VR] at h
    simp only [List.getElem?_cons_zero, Option.some.injEq] at e
    subst e
    exact h.1
  | c :: cs, B, o, i + 1, d, h, e => by
    simp only [VR] at h
    simp only [List.getElem?_cons_succ] at e
    have := VR_get h.2 e
    rw [show o + (i + 1) = o + 1 + i from by omega]
    exact this

theorem VR_of_get : ∀ {cs : List AV} {B o : Nat}, (∀ i c, cs[i]? = some c → im B (o + i) ∧ ∃ x, w.cell? ⟨B, o + i, none⟩ = some x ∧ x.oneCell' = true ∧ V im w c noE x) → VR im w cs B o
  | [], _, _, _ => by simp [VR]
  | c :: cs, B, o, h => by
    simp only [VR]
    refine ⟨by simpa using h 0 c (by simp), VR_of_get fun i d hd => ?_⟩
    have := h (i + 1) d (by simpa using hd)
    rw [show o + 1 + i = o + (i + 1) from by omega]
    exact this

theorem VRR_get : ∀ {es : List (List AV)} {size B o i : Nat} {row : List AV}, VRR im w es size B o → es[i]? = some row → row.length = size ∧ VR im w row B (o + i * size)
  | [], _, _, _, _, _, _, h => by simp at h
  | e :: es, size, B, o, 0, d, h, hd => by
    simp only [VRR] at h
    simp only [List.getElem?_cons_zero, Option.some.injEq] at hd
    subst hd
    simpa using ⟨h.1, h.2.1⟩
  | e :: es, size, B, o, i + 1, d, h, hd => by
    simp only [VRR] at h
    simp only [List.getElem?_cons_succ] at hd
    have := VRR_get h.2.2 hd
    rw [show o + (i + 1) * size = o + size + i * size from by rw [Nat.add_mul]; omega]
    exact this

theorem VRR_of_get : ∀ {es : List (List AV)} {size B o : Nat}, (∀ i row, es[i]? = some row → row.length = size ∧ VR im w row B (o + i * size)) → VRR im w es size B o
  | [], _, _, _, _ => by simp [VRR]
  | e :: es, size, B, o, h => by
    simp only [VRR]
    have h0 := h 0 e (by simp)
    refine ⟨h0.1, by simpa using h0.2, VRR_of_get fun i row hr => ?_⟩
    have := h (i + 1) row (by simpa using hr)
    rw [show o + size + i * size = o + (i + 1) * size from by rw [Nat.add_mul]; omega]
    exact this

/-! ### data -/

mutual
theorem V_data : ∀ {c : AV} {E E' : Env} {x : Value}, isData c = true → V im w c E x → V im w c E' x
  | .sc _, _, _, _, _, h => by simpa [V] using h
  | .rp .., _, _, _, _, h => by simpa [V] using h
  | .ro .., _, _, _, _, h => by simpa [V] using h
  | .agg cs, E, E', x, hd, h => by
    simp only [isData] at hd
    simp only [V] at h ⊢
    obtain ⟨vs, hx, hv⟩ := h
    exact ⟨vs, hx, VL_data hd hv⟩
  | .tup cs, E, E', x, hd, h => by
    simp only [isData] at hd
    simp only [V] at h ⊢
    obtain ⟨vs, hx, hv⟩ := h
    exact ⟨vs, hx, VL_data hd hv⟩
  | .fn f cs, E, E', x, hd, h => by
    simp only [isData] at hd
    simp only [V] at h ⊢
    obtain ⟨vs, hx, hv⟩ := h
    exact ⟨vs, hx, VL_data hd hv⟩
  | .ifc t v, E, E', x, hd, h => by
    simp only [isData] at hd
    simp only [V] at h ⊢
    obtain ⟨y, hx, hv⟩ := h
    exact ⟨y, hx, V_data hd hv⟩
  | .undef, _, _, _, hd, _ => by simp [isData] at hd
  | .ptr .., _, _, _, hd, _ => by simp [isData] at hd
  | .sl .., _, _, _, hd, _ => by simp [isData] at hd
  | .mp _, _, _, _, hd, _ => by simp [isData] at hd
theorem VL_data : ∀ {cs : List AV} {E E' : Env} {xs : List Value}, isDataL cs = true → VL im w cs E xs → VL im w cs E' xs
  | [], _, _, _, _, h => by simpa [VL] using h
  | c :: cs, E, E', xs, hd, h => by
    simp only [isDataL, Bool.and_eq_true] at hd
    simp only [VL] at h ⊢
    obtain ⟨v, r, hx, h1, h2⟩ := h
    exact ⟨v, r, hx, V_data hd.1 h1, VL_data hd.2 h2⟩
end

theorem isDataL_get : ∀ {cs : List AV} {i : Nat} {c : AV}, isDataL cs = true → cs[i]? = some c → isData c = true
  | [], _, _, _, h => by simp at h
  | d :: cs, 0, c, h, e => by
    simp only [isDataL, Bool.and_eq_true] at h
    simp only [List.getElem?_cons_zero, Option.some.injEq] at e
    exact e ▸ h.1
  | d :: cs, i + 1, c, h, e => by
    simp only [isDataL, Bool.and_eq_true] at h
    exact isDataL_get h.2 (by simpa using e)

/-! ### operands -/

/-- The slots. -/
def TRel (im : Nat → Nat → Prop) (w : World) (E : Env) (n : Nat) (tmps : Tm) (a : Act) : Prop :=
  a.tmps.size = n ∧ ∀ t, V im w (getT tmps t) E (a.tmps.getD t Go.undef)

theorem ev_sound {n : Nat} {tmps : Tm} {a : Act} {E : Env} (ht : TRel im w E n tmps a) {x : Operand} {v : AV} (h : ev tmps x = some v) : V im w v E (a.eval x) := by
  cases x with
  | tmp t =>
    simp only [ev, Option.some.injEq] at h
    subst h
    exact ht.2 t
  | const c => simp only [ev, Option.some.injEq] at h; subst h; exact V_absV E c
  | global g => simp [ev] at h
  | func f =>
    simp only [ev, Option.some.injEq] at h
    subst h
    simp only [V, Act.eval]
    exact ⟨#[], rfl, by simp [VL]⟩

theorem TRel.put {n : Nat} {tmps t' : Tm} {a : Act} {E : Env} (ht : TRel im w E n tmps a) {d : Option Tmp} {v : AV} {x : Value} (hp : putA n tmps d v = some t') (hv : V im w v E x) :
    TRel im w E n t' (a.put d x) := by
  cases d with
  | none =>
    simp only [putA, Option.some.injEq] at hp
    subst hp
    exact ht
  | some d =>
    simp only [putA] at hp
    split at hp
    · rename_i hb
      cases hp
      have hlt : d < n := by rw [← Nat.blt_eq]; exact hb
      refine ⟨by simp [Act.put, ht.1], fun t => ?_⟩
      simp only [Act.put, getT]
      have hsz := ht.1
      split
      · rename_i hbe
        have : d = t := by simpa using Nat.beq_eq.mp hbe
        subst this
        rw [Array.getD_eq_getD_getElem?, Array.getElem?_setIfInBounds_self_of_lt (by rw [hsz]; exact hlt)]
        exact hv
      · rename_i hbe
        have : d ≠ t := by
          rintro rfl
          simp at hbe
        rw [Array.getD_eq_getD_getElem?, Array.getElem?_setIfInBounds_ne this, ← Array.getD_eq_getD_getElem?]
        exact ht.2 t
    · cases hp

theorem TRel.mono {im' : Nat → Nat → Prop} {w' : World} {n : Nat} {tmps : Tm} {a : Act} {E E' : Env} (hi : ∀ B o, im B o → im' B o ∧ w'.cell? ⟨B, o, none⟩ = w.cell? ⟨B, o, none⟩) (he : Le E E')
    (ht : TRel im w E n tmps a) : TRel im' w' E' n tmps a := ⟨ht.1, fun t => V_mono hi _ he (ht.2 t)⟩

theorem evL_sound {n : Nat} {tmps : Tm} {a : Act} {E : Env} (ht : TRel im w E n tmps a) : ∀ {xs : List Operand} {vs : List AV}, evL tmps xs = some vs → VL im w vs E (xs.map a.eval)
  | [], vs, h => by simp only [evL, Option.some.injEq] at h; subst h; simp [VL]
  | x :: xs, vs, h => by
    simp only [evL] at h
    split at h
    · rename_i v us e1 e2
      cases h
      simp only [List.map_cons, VL]
      exact ⟨_, _, rfl, ev_sound ht e1, evL_sound ht e2⟩
    · cases h

end
end Go.Ai
