/-
  AN APPEND, a slice that is made.
-/
import Derived.Test.YtndloeajkfajnaaAiNew
set_option linter.unusedVariables false
set_option linter.unusedSimpArgs false
namespace Go.Ai
section
variable {P : Program} {X : Nat → Nat → Prop} {E : Env} {H : List Blk} {w : World}

theorem run_append_fits {argTypes : Array TypeId} {ty sT xT e : TypeId} {i : TypeInfo} {xd : TypeDesc} (h0 : argTypes[0]? = some sT) (h1 : argTypes[1]? = some xT)
    (ht : P.underlying sT = some (.slice e)) (hu : P.underlying xT = some xd) (hx : okXD xd = true) (hi : P.info? e = some i)
    (B o sLen sCap n : Nat) (x : Value) (hlen : ∀ w' : World, (Builtin.lenOf x).run P w' = .ok n w') (news : List Value)
    (hnews : (Builtin.firstCells i.size n x).run P w = .ok news.toArray w) (hfit : sLen + n ≤ sCap) (w1 : World)
    (hst : (storeCells ⟨B, o + sLen * i.size, none⟩ news).run P w = .ok () w1) :
    (Builtin.append_ argTypes ty #[.slice (some ⟨B, o, none⟩) sLen sCap, x]).run P w = .ok (.slice (some ⟨B, o, none⟩) (sLen + n) sCap) w1 := by
  unfold Builtin.append_
  simp only [h0, h1]
  have hx' : (∃ e', xd = .slice e') ∨ xd = .string := by cases xd <;> simp [okXD] at hx ⊢
  rcases hx' with ⟨e', rfl⟩ | rfl
  all_goals simp [run_underlying ht, run_underlying hu, sizeOf, typeInfo, hi, hlen, hnews, hfit, addr_add, hst]

theorem run_append_grows {argTypes : Array TypeId} {ty sT xT e : TypeId} {i : TypeInfo} {z : Value} {xd : TypeDesc} (h0 : argTypes[0]? = some sT) (h1 : argTypes[1]? = some xT)
    (ht : P.underlying sT = some (.slice e)) (hu : P.underlying xT = some xd) (hx : okXD xd = true) (hi : P.info? e = some i) (hz : i.zero = some z)
    (base : Option Addr) (sLen sCap n : Nat) (x : Value) (hlen : ∀ w' : World, (Builtin.lenOf x).run P w' = .ok n w') (olds news : List Value)
    (holds : (Builtin.firstCells i.size sLen (.slice base sLen sCap)).run P w.drew = .ok olds.toArray w.drew)
    (hnews : (Builtin.firstCells i.size n x).run P w.drew = .ok news.toArray w.drew) (hg : sCap < sLen + n) (hb : (sLen + n) * i.bytes ≤ 140737488355328) (hb0 : i.bytes ≠ 0 ∨ ((sLen + n : Nat) : Int) ≤ 9223372036854775807) :
    (Builtin.append_ argTypes ty #[.slice base sLen sCap, x]).run P w =
      .ok (.slice (some ⟨w.heap.size, 0, none⟩) (sLen + n) (grownCap w (sLen + n) sCap e))
        (w.drew.alloc (.cells (olds ++ news ++ (Builtin.zeroCells z.cells (grownCap w (sLen + n) sCap e - (sLen + n))).toList).toArray e)) := by
  have hn : ¬ (sLen + n ≤ sCap) := by omega
  have hfit := growslice_fits (bytes := i.bytes) hg hb
  have h48' : ¬ (281474976710656 < Builtin.nextslicecap (sLen + n) sCap * i.bytes) := by omega
  have hcond : ¬ (9223372036854775807 < (sLen : Int) + (n : Int) ∧ i.bytes = 0) := by
    rintro ⟨h3, h4⟩
    rcases hb0 with h5 | h5
    · exact h5 h4
    · omega
  unfold Builtin.append_
  simp only [h0, h1]
  have hx' : (∃ e', xd = .slice e') ∨ xd = .string := by cases xd <;> simp [okXD] at hx ⊢
  rcases hx' with ⟨e', rfl⟩ | rfl
  all_goals simp [run_underlying ht, run_underlying hu, sizeOf, typeInfo, zeroValue, hi, hz, hlen, hn, h48', hcond, Question.forced, holds, hnews, newRow, grownCap]
  all_goals (congr 2; apply Array.ext'; simp [List.append_assoc])

theorem RowsIn_append {im : Nat → Nat → Prop} {size : Nat} {xs ys : List (List AV)} {olds news rest : List Value} (h : RowsIn im w E olds.toArray 0 size xs) (hl : olds.length = xs.length * size)
    (h' : RowsIn im w E news.toArray 0 size ys) : RowsIn im w E (olds ++ news ++ rest).toArray 0 size (xs ++ ys) := by
  have inB : ∀ {l : List Value} {q : Nat} {x : Value}, l[q]? = some x → q < l.length := fun {l q x} h => by
    rcases Nat.lt_or_ge q l.length with h1 | h1
    · exact h1
    · rw [List.getElem?_eq_none h1] at h; cases h
  intro i row hi
  by_cases hlt : i < xs.length
  · rw [List.getElem?_append_left hlt] at hi
    obtain ⟨h1, h2⟩ := h i row hi
    refine ⟨h1, fun j c hj => ?_⟩
    obtain ⟨x, hx, hx1, hv⟩ := h2 j c hj
    refine ⟨x, ?_, hx1, hv⟩
    simp only [Nat.zero_add, List.getElem?_toArray] at hx ⊢
    rw [List.append_assoc, List.getElem?_append_left (inB hx)]
    exact hx
  · rw [List.getElem?_append_right (by omega)] at hi
    obtain ⟨h1, h2⟩ := h' _ row hi
    refine ⟨h1, fun j c hj => ?_⟩
    obtain ⟨x, hx, hx1, hv⟩ := h2 j c hj
    refine ⟨x, ?_, hx1, hv⟩
    simp only [Nat.zero_add, List.getElem?_toArray] at hx ⊢
    have e : i * size + j = olds.length + ((i - xs.length) * size + j) := by
      rw [hl, ← Nat.add_assoc, ← Nat.add_mul, show xs.length + (i - xs.length) = i from by omega]
    rw [e, List.append_assoc, List.getElem?_append_right (by omega), Nat.add_sub_cancel_left, List.getElem?_append_left (inB hx)]
    exact hx

/-- A slice in a new array. -/
theorem fresh_sound (h : HRel X E H w) {at_ : Option Nat} {size : Nat} {xs ys : List (List AV)} {b : Nat} {H' : List Blk} (hn : newAt H at_ (.cells size 0 (xs ++ ys) false) = some (b, H'))
    {olds news : List Value} {z : Value} {cap : Nat} {e : TypeId} (hz : z.cells.size = size) (ho : RowsIn (Im X E H w) w E olds.toArray 0 size xs) (hol : olds.length = xs.length * size)
    (hr : RowsIn (Im X E H w) w E news.toArray 0 size ys) (hrl : news.length = ys.length * size) (hcap : xs.length + ys.length ≤ cap) :
    Good X E H w (.sl b 0 0 (xs.length + ys.length) none) H' (.slice (some ⟨w.heap.size, 0, none⟩) (xs.length + ys.length) cap)
      (w.drew.alloc (.cells (olds ++ news ++ (Builtin.zeroCells z.cells (cap - (xs.length + ys.length))).toList).toArray e)) := by
  have hsz : (olds ++ news ++ (Builtin.zeroCells z.cells (cap - (xs.length + ys.length))).toList).toArray.size = cap * size := by
    have e1 : (Builtin.zeroCells z.cells (cap - (xs.length + ys.length))).toList.length = (cap - (xs.length + ys.length)) * size := by
      rw [Array.length_toList, size_zeroCells, hz]
    simp only [List.size_toArray, List.length_append]
    rw [e1, hol, hrl, ← Nat.add_mul, ← Nat.add_mul]
    congr 1
    omega
  obtain ⟨h1, h2⟩ := h.lay hn (o := .cells (olds ++ news ++ (Builtin.zeroCells z.cells (cap - (xs.length + ys.length))).toList).toArray e)
    (w' := w.drew.alloc (.cells (olds ++ news ++ (Builtin.zeroCells z.cells (cap - (xs.length + ys.length))).toList).toArray e)) rfl
    (l := { live := true, g := 0, B := w.heap.size, o := 0, K := cap, size := size }) rfl rfl (fun im' him hle hob => Or.inr <|
      ⟨_, _, e, rfl, rfl, rfl, rfl, by simpa using hcap, hob, by
        rw [hsz]; show 0 + cap * size ≤ _; omega, RowsIn_mono him hle (RowsIn_append ho hol hr)⟩)
  refine ⟨_, h1, h2, ?_⟩
  simp only [V]
  exact ⟨_, _, _, upd_same _ _ _, Nat.le_refl _, rfl, fun _ _ => ⟨hcap, .inr (by simp), by simp⟩⟩

theorem RowsIn_sub {im : Nat → Nat → Prop} {C : Array Value} {o size : Nat} {es : List (List AV)} (h : RowsIn im w E C o size es) (n m : Nat) : RowsIn im w E C (o + n * size) size ((es.drop n).take m) := by
  intro i row hi
  rw [List.getElem?_take] at hi
  split at hi
  · rw [List.getElem?_drop] at hi
    obtain ⟨h1, h2⟩ := h _ row hi
    refine ⟨h1, fun j c hj => ?_⟩
    obtain ⟨x, hx, hx1, hv⟩ := h2 j c hj
    refine ⟨x, ?_, hx1, hv⟩
    rw [show o + n * size + i * size + j = o + (n + i) * size + j from by rw [Nat.add_mul]; omega]
    exact hx
  · cases hi

end
end Go.Ai
