/-
  THE RUN OF A DRAWN REGION IN THE TEXT'S ORDER, state by state.
-/
import Derived.Test.YtndloeajkfajnaaAiFrame
set_option linter.unusedVariables false
set_option linter.unusedSimpArgs false
namespace Go.Ai

structure TS where
  k : Nat
  sp : Moved
  fl : Seen
  pan : Option (Nat × AV × List Blk)
  tmps : Tm
  heap : List Blk

def Next (n i : Nat) (o : Oper) (r : DRes) (s s' : TS) : Prop :=
  match r with
  | .dead => s' = ⟨nextK o s.k, s.sp, s.fl, s.pan, s.tmps, s.heap⟩
  | .val v T => ∃ t, putA n s.tmps o.dst v = some t ∧ s' = ⟨nextK o s.k, s.sp, (i, T) :: s.fl, s.pan, t, s.heap⟩
  | .mov v H D => ∃ t, putA n s.tmps o.dst v = some t ∧ s' = ⟨nextK o s.k, (i, D) :: s.sp, s.fl, s.pan, t, H⟩
  | .pan v H => s' = ⟨nextK o s.k, s.sp, s.fl, some (i, v, H), s.tmps, s.heap⟩

/-- One operation of the text's run. -/
def At1 (C : Ctx) (call : CallT) (ops : Array Oper) (B : List Nat) (n i : Nat) (o : Oper) (r : DRes) (s s' : TS) : Prop :=
  ops[i]? = some o ∧ drawOp C call ops (B.getD i 0) (s.pan.map (·.1)) s.k s.sp s.fl s.tmps s.heap o = some r ∧ Next n i o r s s'

theorem drawList_trace {C : Ctx} {call : CallT} {ops : Array Oper} {B : List Nat} {n : Nat} : ∀ (m i0 : Nat) (s : TS) (d : DSt),
    drawList C call ops B n (List.range' i0 m) s.k s.sp s.fl s.pan s.tmps s.heap = some d →
    ∃ S : Nat → TS, S i0 = s ∧ (∀ i, i0 ≤ i → i < i0 + m → ∃ o r, At1 C call ops B n i o r (S i) (S (i + 1))) ∧ d = ⟨(S (i0 + m)).tmps, (S (i0 + m)).heap, (S (i0 + m)).pan⟩
  | 0, i0, s, d, h => by
    simp only [List.range'_zero, drawList, Option.some.injEq] at h
    exact ⟨fun _ => s, rfl, fun i h1 h2 => by omega, h.symm⟩
  | m + 1, i0, s, d, h => by
    rw [List.range'_succ] at h
    have fin : ∀ (o : Oper) (r : DRes) (s' : TS), At1 C call ops B n i0 o r s s' → drawList C call ops B n (List.range' (i0 + 1) m) s'.k s'.sp s'.fl s'.pan s'.tmps s'.heap = some d →
        ∃ S : Nat → TS, S i0 = s ∧ (∀ i, i0 ≤ i → i < i0 + (m + 1) → ∃ o r, At1 C call ops B n i o r (S i) (S (i + 1))) ∧ d = ⟨(S (i0 + (m + 1))).tmps, (S (i0 + (m + 1))).heap, (S (i0 + (m + 1))).pan⟩ := by
      intro o r s' h1 h2
      obtain ⟨S, hS0, hS, hd⟩ := drawList_trace m (i0 + 1) s' d h2
      refine ⟨fun i => if i = i0 then s else S i, by simp, fun i h3 h4 => ?_, ?_⟩
      · by_cases e : i = i0
        · subst e
          refine ⟨o, r, ?_⟩
          simp only [if_true, Nat.succ_ne_self, if_false, hS0]
          exact h1
        · obtain ⟨o', r', h5⟩ := hS i (by omega) (by omega)
          refine ⟨o', r', ?_⟩
          have e2 : i + 1 ≠ i0 := by omega
          simp only [e, e2, if_false]
          exact h5
      · have e : i0 + (m + 1) ≠ i0 := by omega
        simp only [e, if_false]
        rw [hd, show i0 + 1 + m = i0 + (m + 1) by omega]
    simp only [drawList] at h
    split at h
    · cases h
    · rename_i o ho
      split at h
      · cases h
      · rename_i hr
        exact fin o .dead ⟨nextK o s.k, s.sp, s.fl, s.pan, s.tmps, s.heap⟩ ⟨ho, hr, rfl⟩ h
      · rename_i v T hr
        rw [seqV_eq] at h
        split at h
        · rename_i t hp
          exact fin o _ ⟨nextK o s.k, s.sp, (i0, T) :: s.fl, s.pan, t, s.heap⟩ ⟨ho, hr, t, hp, rfl⟩ h
        · cases h
      · rename_i v H' D hr
        rw [seqV_eq] at h
        split at h
        · rename_i t hp
          rw [seqL_eq] at h
          exact fin o _ ⟨nextK o s.k, (i0, D) :: s.sp, s.fl, s.pan, t, H'⟩ ⟨ho, hr, t, hp, rfl⟩ h
        · cases h
      · rename_i v H' hr
        exact fin o _ ⟨nextK o s.k, s.sp, s.fl, some (i0, v, H'), s.tmps, s.heap⟩ ⟨ho, hr, rfl⟩ h

/-! ### what must stand before: the closure of the edges -/

/-- i must stand before j. -/
def bef (B : List Nat) (i j : Nat) : Bool := Nat.testBit (B.getD j 0) i

theorem befs_length : ∀ (os : List Oper) (acc : List Nat), (befs os acc).length = acc.length + os.length
  | [], acc => by simp [befs]
  | o :: os, acc => by simp only [befs]; rw [befs_length os]; simp; omega

theorem befs_old : ∀ (os : List Oper) (acc : List Nat) (i : Nat), i < acc.length → (befs os acc).getD i 0 = acc.getD i 0
  | [], acc, i, h => rfl
  | o :: os, acc, i, h => by
    simp only [befs]
    rw [befs_old os _ i (by simp; omega)]
    simp only [List.getD_eq_getElem?_getD, List.getElem?_append_left h]

theorem befs_new : ∀ (os : List Oper) (acc : List Nat) (j : Nat) (o : Oper), os[j]? = some o → (befs os acc).getD (acc.length + j) 0 = befOf ((befs os acc).take (acc.length + j)) o
  | [], acc, j, o, h => by simp at h
  | o' :: os, acc, 0, o, h => by
    simp only [List.getElem?_cons_zero, Option.some.injEq] at h
    subst h
    simp only [befs, Nat.add_zero]
    rw [befs_old os _ acc.length (by simp)]
    have : (befs os (acc ++ [befOf acc o'])).take acc.length = acc := by
      have h2 : ∀ (os : List Oper) (acc : List Nat), (befs os acc).take acc.length = acc := by
        intro os
        induction os with
        | nil => intro acc; simp [befs]
        | cons o os ih =>
          intro acc
          simp only [befs]
          have h3 := ih (acc ++ [befOf acc o])
          have h4 := congrArg (List.take acc.length) h3
          rw [List.take_take] at h4
          simp at h4
          exact h4
      have h3 := h2 os (acc ++ [befOf acc o'])
      have h4 := congrArg (List.take acc.length) h3
      rw [List.take_take] at h4
      simp at h4
      exact h4
    rw [this]
    simp [List.getD_eq_getElem?_getD]
  | o' :: os, acc, j + 1, o, h => by
    simp only [befs]
    have := befs_new os (acc ++ [befOf acc o']) j o (by simpa using h)
    simp only [List.length_append, List.length_singleton] at this
    rw [show acc.length + (j + 1) = acc.length + 1 + j by omega]
    exact this

theorem befOf_spec {acc : List Nat} {o : Oper} {i : Nat} : Nat.testBit (befOf acc o) i = true ↔ ∃ e ∈ o.after.toList, Region.binds .any e = true ∧ (i = e.on ∨ Nat.testBit (acc.getD e.on 0) i = true) := by
  unfold befOf
  have : ∀ (l : List Edge) (s : Nat), Nat.testBit (l.foldl (fun s e => if Region.binds .any e then s ||| (2 ^ e.on ||| acc.getD e.on 0) else s) s) i = true ↔
      Nat.testBit s i = true ∨ ∃ e ∈ l, Region.binds .any e = true ∧ (i = e.on ∨ Nat.testBit (acc.getD e.on 0) i = true) := by
    intro l
    induction l with
    | nil => intro s; simp
    | cons e l ih =>
      intro s
      simp only [List.foldl_cons]
      rw [ih]
      by_cases hb : Region.binds .any e = true
      · simp only [hb, if_true, Nat.testBit_or, Nat.testBit_two_pow, Bool.or_eq_true, decide_eq_true_eq, List.mem_cons, exists_eq_or_imp, true_and]
        constructor
        · rintro ((h | h | h) | h)
          · exact .inl h
          · exact .inr (.inl (.inl h.symm))
          · exact .inr (.inl (.inr h))
          · exact .inr (.inr h)
        · rintro (h | (h | h) | h)
          · exact .inl (.inl h)
          · exact .inl (.inr (.inl h.symm))
          · exact .inl (.inr (.inr h))
          · exact .inr h
      · simp [hb]
  rw [this]
  simp

theorem edgesOK_spec : ∀ {os : List Oper} {i : Nat}, edgesOK os i = true → ∀ (j : Nat) (o : Oper), os[j]? = some o → ∀ e ∈ o.after.toList, Region.binds .any e = true → e.on < i + j
  | [], i, h, j, o, hj => by simp at hj
  | o' :: os, i, h, 0, o, hj => by
    simp only [List.getElem?_cons_zero, Option.some.injEq] at hj
    subst hj
    simp only [edgesOK, Bool.and_eq_true, List.all_eq_true, Bool.or_eq_true, Bool.not_eq_true', Nat.blt_eq] at h
    intro e he hb
    have := (h.1 e he).resolve_left (by simp [hb])
    omega
  | o' :: os, i, h, j + 1, o, hj => by
    simp only [edgesOK, Bool.and_eq_true] at h
    intro e he hb
    have := edgesOK_spec h.2 j o (by simpa using hj) e he hb
    omega

/-- What stands before j: the ends of its edges, and what stands before those. -/
theorem bef_spec {ops : Array Oper} (he : edgesOK ops.toList 0 = true) {j : Nat} {o : Oper} (ho : ops[j]? = some o) {i : Nat} :
    bef (befs ops.toList []) i j = true ↔ ∃ e ∈ o.after.toList, Region.binds .any e = true ∧ (i = e.on ∨ bef (befs ops.toList []) i e.on = true) := by
  have ho' : ops.toList[j]? = some o := by simpa using ho
  have h1 := befs_new ops.toList [] j o ho'
  simp only [List.length_nil, Nat.zero_add] at h1
  unfold bef
  rw [h1, befOf_spec]
  constructor
  · rintro ⟨e, h2, h3, h4⟩
    refine ⟨e, h2, h3, h4.imp id fun h5 => ?_⟩
    have hlt := edgesOK_spec he j o ho' e h2 h3
    simp only [List.getD_eq_getElem?_getD, List.getElem?_take] at h5
    rw [if_pos (by omega)] at h5
    simpa [List.getD_eq_getElem?_getD] using h5
  · rintro ⟨e, h2, h3, h4⟩
    refine ⟨e, h2, h3, h4.imp id fun h5 => ?_⟩
    have hlt := edgesOK_spec he j o ho' e h2 h3
    simp only [List.getD_eq_getElem?_getD, List.getElem?_take]
    rw [if_pos (by omega)]
    simpa [List.getD_eq_getElem?_getD] using h5

theorem bef_lt {ops : Array Oper} (he : edgesOK ops.toList 0 = true) : ∀ (j i : Nat) (o : Oper), ops[j]? = some o → bef (befs ops.toList []) i j = true → i < j := by
  intro j
  induction j using Nat.strongRecOn with
  | _ j ih =>
    intro i o ho h
    obtain ⟨e, h1, h2, h3⟩ := (bef_spec he ho).1 h
    have hlt := edgesOK_spec he j o (by simpa using ho) e h1 h2
    rcases h3 with rfl | h3
    · omega
    · have hj : j < ops.size := (Array.getElem?_eq_some_iff.1 ho).1
      have h4 := ih e.on (by omega) i (ops[e.on]'(by omega)) (by rw [Array.getElem?_eq_getElem (by omega)]) h3
      omega

theorem apartAll_spec {ops : Array Oper} {Bj : Nat} {y : Oper} : ∀ {xs : List Oper} {i0 : Nat}, apartAll ops Bj y xs i0 = true → ∀ (i : Nat) (x : Oper), xs[i]? = some x → Nat.testBit Bj (i0 + i) = true ∨ x.apart ops y = true
  | [], i0, h, i, x, hx => by simp at hx
  | x' :: xs, i0, h, 0, x, hx => by
    simp only [List.getElem?_cons_zero, Option.some.injEq] at hx
    subst hx
    simp only [apartAll, Bool.and_eq_true, Bool.or_eq_true] at h
    simpa using h.1
  | x' :: xs, i0, h, i + 1, x, hx => by
    simp only [apartAll, Bool.and_eq_true] at h
    have := apartAll_spec h.2 i x (by simpa using hx)
    rw [show i0 + (i + 1) = i0 + 1 + i by omega]
    exact this

theorem pairsOK_spec {ops : Array Oper} {B : List Nat} : ∀ {ys : List Oper} {j0 : Nat} {before : List Oper}, pairsOK ops B ys j0 before = true → before.length = j0 → ∀ (j : Nat) (y : Oper), ys[j]? = some y →
    ∀ (i : Nat) (x : Oper), (before ++ ys)[i]? = some x → i < j0 + j → bef B i (j0 + j) = true ∨ x.apart ops y = true
  | [], j0, before, h, hl, j, y, hy => by simp at hy
  | y' :: ys, j0, before, h, hl, 0, y, hy => by
    simp only [List.getElem?_cons_zero, Option.some.injEq] at hy
    subst hy
    simp only [pairsOK, Bool.and_eq_true] at h
    intro i x hx hi
    rw [List.getElem?_append_left (by omega)] at hx
    have := apartAll_spec h.1 i x hx
    simpa [bef] using this
  | y' :: ys, j0, before, h, hl, j + 1, y, hy => by
    simp only [pairsOK, Bool.and_eq_true] at h
    intro i x hx hi
    have := pairsOK_spec h.2 (by simp [hl]) j y (by simpa using hy) i x (by simpa using hx) (by omega)
    rw [show j0 + (j + 1) = j0 + 1 + j by omega]
    exact this

end Go.Ai
