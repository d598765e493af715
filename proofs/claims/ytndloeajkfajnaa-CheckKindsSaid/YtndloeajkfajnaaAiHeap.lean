/-
  THE ABSTRACT HEAP AND THE WORLD: that one block is laid, or turned, and all else is kept.
-/
import Derived.Test.YtndloeajkfajnaaAiRel
set_option linter.unusedVariables false
namespace Go.Ai

/-- What may yet be written. -/
def Wr (E : Env) (H : List Blk) (B off : Nat) : Prop :=
  ∃ b l, E b = some l ∧ l.live = true ∧ l.B = B ∧ ∀ size g es, H[b]? = some (.cells size g es true) → l.o + es.length * size ≤ off

/-- What is written no more. X: what others hold. -/
def Im (X : Nat → Nat → Prop) (E : Env) (H : List Blk) (w : World) (B off : Nat) : Prop := B < w.heap.size ∧ ¬ X B off ∧ ¬ Wr E H B off

def RowsIn (im : Nat → Nat → Prop) (w : World) (E : Env) (C : Array Value) (o size : Nat) (es : List (List AV)) : Prop :=
  ∀ i row, es[i]? = some row → row.length = size ∧ ∀ j c, row[j]? = some c → ∃ x, C[o + i * size + j]? = some x ∧ x.oneCell' = true ∧ V im w c E x

def EntsIn (im : Nat → Nat → Prop) (w : World) (E : Env) : List (Value × AV × Nat) → List MapEntry → Prop
  | [], ms => ms = []
  | e :: es, ms => ∃ m r, ms = m :: r ∧ m.key = e.1 ∧ V im w e.2.1 E m.val ∧ m.born = e.2.2 ∧ EntsIn im w E es r

def BRel (im : Nat → Nat → Prop) (w : World) (E : Env) : Blk → Option LB → Prop
  | .res, e => e = none
  | .dead, e => ∃ l, e = some l ∧ l.live = false
  | .cells size g es fz, e => e = none ∨ ∃ l C t, e = some l ∧ l.live = true ∧ l.g = g ∧ l.size = size ∧ es.length ≤ l.K ∧
      w.heap[l.B]? = some (.cells C t (0, 0)) ∧ l.o + l.K * size ≤ C.size ∧ RowsIn im w E C l.o size es
  | .map es clock, e => ∃ l ms, e = some l ∧ l.live = true ∧ l.g = 0 ∧ w.heap[l.B]? = some (.map ms clock) ∧ EntsIn im w E es ms.toList
  | .siter s pos, e => ∃ l, e = some l ∧ l.live = true ∧ l.g = 0 ∧ l.o = 0 ∧ l.size = 0 ∧ w.heap[l.B]? = some (.stringIter s pos)
  | .miter m since seen stepped, e => ∃ l r, e = some l ∧ l.live = true ∧ l.g = 0 ∧ l.o = 0 ∧ l.size = 0 ∧
      w.heap[l.B]? = some (.mapIter r since seen.toArray stepped) ∧
      (match m with
        | none => r = none
        | some b => ∃ l' q, E b = some l' ∧ r = some q ∧ (l'.live = true → l'.g = 0 → q = l'.B))

structure HRel (X : Nat → Nat → Prop) (E : Env) (H : List Blk) (w : World) : Prop where
  dom : ∀ b, H[b]? = none → E b = none
  blk : ∀ b k, H[b]? = some k → BRel (Im X E H w) w E k (E b)
  sep : ∀ b b' l l', E b = some l → E b' = some l' → l.live = true → l'.live = true → l.B = l'.B → b = b'
  xs : ∀ b l, E b = some l → l.live = true → ∀ off, ¬ X l.B off
  xlt : ∀ B off, X B off → B < w.heap.size

/-- What no call of ours touches. -/
def Still (w w' : World) : Prop := w'.os = w.os ∧ w'.output = w.output ∧ ∀ a, w'.frozen? a = w.frozen? a

theorem Still.refl {w : World} : Still w w := ⟨rfl, rfl, fun _ => rfl⟩
theorem Still.trans {w w' w'' : World} (h : Still w w') (h' : Still w' w'') : Still w w'' := ⟨h'.1.trans h.1, h'.2.1.trans h.2.1, fun a => (h'.2.2 a).trans (h.2.2 a)⟩

/-- Which part of an object is read alone. -/
def frzO : Option Obj → Nat × Nat
  | some (.cells _ _ fr) => fr
  | _ => (0, 0)

theorem frozen_eq (w : World) (a : Addr) : w.frozen? a = (decide ((frzO w.heap[a.block]?).1 ≤ a.off) && decide (a.off < (frzO w.heap[a.block]?).2)) := by
  unfold World.frozen?
  split
  · rename_i h; rw [h]; rfl
  · rename_i h
    have : frzO w.heap[a.block]? = (0, 0) := by
      unfold frzO
      split
      · rename_i C t fr hc; exact absurd hc (h C t fr.1 fr.2)
      · rfl
    rw [this]
    simp

theorem Still.of_one {w w' : World} (h1 : w'.os = w.os) (h2 : w'.output = w.output) {B : Nat} (h3 : ∀ x, x ≠ B → w'.heap[x]? = w.heap[x]?) (h4 : frzO w.heap[B]? = (0, 0)) (h5 : frzO w'.heap[B]? = (0, 0)) : Still w w' := by
  refine ⟨h1, h2, fun a => ?_⟩
  rw [frozen_eq, frozen_eq]
  by_cases e : a.block = B
  · rw [e, h4, h5]
  · rw [h3 _ e]

theorem Still.push {w w' : World} {o : Obj} (h1 : w'.os = w.os) (h2 : w'.output = w.output) (h3 : w'.heap = w.heap.push o) (h4 : frzO (some o) = (0, 0)) : Still w w' := by
  refine Still.of_one h1 h2 (B := w.heap.size) (fun x hx => ?_) ?_ ?_
  · rw [h3, Array.getElem?_push, if_neg hx]
  · rw [Array.getElem?_eq_none (Nat.le_refl _)]; rfl
  · rw [h3, Array.getElem?_push, if_pos rfl]; exact h4

/-- A block of cells stands there. -/
def IsC (H : List Blk) (b : Nat) : Prop := ∃ size g es fz, H[b]? = some (.cells size g es fz)

structure Step (X : Nat → Nat → Prop) (E : Env) (H : List Blk) (w : World) (E' : Env) (H' : List Blk) (w' : World) : Prop where
  le : Le E E'
  size : w.heap.size ≤ w'.heap.size
  im : ∀ B o, Im X E H w B o → Im X E' H' w' B o ∧ w'.cell? ⟨B, o, none⟩ = w.cell? ⟨B, o, none⟩
  obj : ∀ B, B < w.heap.size → (∀ b l, E b = some l → l.live = true → l.B ≠ B) → w'.heap[B]? = w.heap[B]?
  new : ∀ b l', E' b = some l' → l'.live = true → (∃ b0 l, E b0 = some l ∧ l.live = true ∧ l.B = l'.B) ∨ w.heap.size ≤ l'.B
  len : H.length ≤ H'.length
  nb : ∀ b, IsC H b → E b = none → IsC H' b ∧ E' b = none
  still : Still w w'

theorem Step.refl {X E H w} : Step X E H w E H w :=
  ⟨Le.refl _, Nat.le_refl _, fun _ _ h => ⟨h, rfl⟩, fun _ _ _ => rfl, fun b l hb hl => .inl ⟨b, l, hb, hl, rfl⟩, Nat.le_refl _, fun _ h1 h2 => ⟨h1, h2⟩, Still.refl⟩

theorem Step.trans {X E H w E' H' w' E'' H'' w''} (h : Step X E H w E' H' w') (h' : Step X E' H' w' E'' H'' w'') : Step X E H w E'' H'' w'' where
  le := h.le.trans h'.le
  size := Nat.le_trans h.size h'.size
  im := fun B o hi => ⟨(h'.im B o (h.im B o hi).1).1, (h'.im B o (h.im B o hi).1).2.trans (h.im B o hi).2⟩
  obj := fun B hB hn => by
    refine (h'.obj B (Nat.lt_of_lt_of_le hB h.size) fun b l' hb hl => ?_).trans (h.obj B hB hn)
    rcases h.new b l' hb hl with ⟨b0, l, h0, h1, h2⟩ | h3
    · exact h2 ▸ hn b0 l h0 h1
    · omega
  new := fun b l'' hb hl => by
    rcases h'.new b l'' hb hl with ⟨b0, l', h0, h1, h2⟩ | h3
    · rcases h.new b0 l' h0 h1 with ⟨b1, l, h4, h5, h6⟩ | h7
      · exact .inl ⟨b1, l, h4, h5, h6.trans h2⟩
      · exact .inr (h2 ▸ h7)
    · exact .inr (Nat.le_trans h.size h3)
  len := Nat.le_trans h.len h'.len
  nb := fun b h1 h2 => h'.nb b (h.nb b h1 h2).1 (h.nb b h1 h2).2
  still := h.still.trans h'.still

theorem Step.V {X E H w E' H' w'} (h : Step X E H w E' H' w') {c : AV} {x : Value} (hv : V (Im X E H w) w c E x) : V (Im X E' H' w') w' c E' x :=
  V_mono h.im c h.le hv
theorem Step.VL {X E H w E' H' w'} (h : Step X E H w E' H' w') {c : List AV} {x : List Value} (hv : VL (Im X E H w) w c E x) : VL (Im X E' H' w') w' c E' x :=
  VL_mono h.im c h.le hv

theorem EntsIn_mono {im im' : Nat → Nat → Prop} {w w' : World} {E E' : Env} (hi : ∀ B o, im B o → im' B o ∧ w'.cell? ⟨B, o, none⟩ = w.cell? ⟨B, o, none⟩) (he : Le E E') :
    ∀ {es : List (Value × AV × Nat)} {ms : List MapEntry}, EntsIn im w E es ms → EntsIn im' w' E' es ms
  | [], _, h => h
  | e :: es, ms, h => by
    obtain ⟨m, r, h1, h2, h3, h4, h5⟩ := h
    exact ⟨m, r, h1, h2, V_mono hi _ he h3, h4, EntsIn_mono hi he h5⟩

theorem RowsIn_mono {im im' : Nat → Nat → Prop} {w w' : World} {E E' : Env} (hi : ∀ B o, im B o → im' B o ∧ w'.cell? ⟨B, o, none⟩ = w.cell? ⟨B, o, none⟩) (he : Le E E')
    {C : Array Value} {o size : Nat} {es : List (List AV)} (h : RowsIn im w E C o size es) : RowsIn im' w' E' C o size es := by
  intro i row hr
  obtain ⟨h1, h2⟩ := h i row hr
  refine ⟨h1, fun j c hc => ?_⟩
  obtain ⟨x, h3, h5, h4⟩ := h2 j c hc
  exact ⟨x, h3, h5, V_mono hi _ he h4⟩

/-- A block that nobody touches is as it was. -/
theorem BRel_mono {im im' : Nat → Nat → Prop} {w w' : World} {E E' : Env} (hi : ∀ B o, im B o → im' B o ∧ w'.cell? ⟨B, o, none⟩ = w.cell? ⟨B, o, none⟩) (he : Le E E')
    {k : Blk} {e : Option LB} (ho : ∀ l, e = some l → l.live = true → w'.heap[l.B]? = w.heap[l.B]?) (h : BRel im w E k e) : BRel im' w' E' k e := by
  cases k with
  | res => exact h
  | dead => exact h
  | cells size g es fz =>
    rcases h with h | ⟨l, C, t, h1, h2, h3, h4, h5, h6, h7, h8⟩
    · exact .inl h
    exact .inr ⟨l, C, t, h1, h2, h3, h4, h5, (ho l h1 h2).trans h6, h7, RowsIn_mono hi he h8⟩
  | map es clock =>
    obtain ⟨l, ms, h1, h2, h3, h4, h5⟩ := h
    exact ⟨l, ms, h1, h2, h3, (ho l h1 h2).trans h4, EntsIn_mono hi he h5⟩
  | siter s pos =>
    obtain ⟨l, h1, h2, h3, h4, h5, h6⟩ := h
    exact ⟨l, h1, h2, h3, h4, h5, (ho l h1 h2).trans h6⟩
  | miter m since seen stepped =>
    obtain ⟨l, r, h1, h2, h3, h4, h5, h6, h7⟩ := h
    refine ⟨l, r, h1, h2, h3, h4, h5, (ho l h1 h2).trans h6, ?_⟩
    cases m with
    | none => exact h7
    | some b =>
      obtain ⟨l', q, h8, h9, h10⟩ := h7
      obtain ⟨l'', h11, h12, h13⟩ := he b l' h8
      refine ⟨l'', q, h11, h9, fun hv e0 => ?_⟩
      obtain ⟨v1, a1, _⟩ := h13 hv (by omega)
      rw [a1]
      exact h10 v1 (by omega)

theorem HRel.inDom {X E H w} (h : HRel X E H w) {b : Nat} {l : LB} (hb : E b = some l) : ∃ k, H[b]? = some k := by
  cases hk : H[b]? with
  | none => rw [h.dom b hk] at hb; cases hb
  | some k => exact ⟨k, rfl⟩

theorem HRel.lt {X E H w} (h : HRel X E H w) {b : Nat} {l : LB} (hb : E b = some l) (hl : l.live = true) : l.B < w.heap.size := by
  obtain ⟨k, hk⟩ := h.inDom hb
  have hB := h.blk b k hk
  rw [hb] at hB
  have key : ∀ o, w.heap[l.B]? = some o → l.B < w.heap.size := fun o ho => by
    rcases Nat.lt_or_ge l.B w.heap.size with h1 | h1
    · exact h1
    · rw [Array.getElem?_eq_none h1] at ho; cases ho
  cases k with
  | res => cases hB
  | dead => obtain ⟨l', e, e'⟩ := hB; cases e; rw [hl] at e'; cases e'
  | cells size g es fz =>
    rcases hB with hB | ⟨l', C, t, e, _, _, _, _, h6, _⟩
    · cases hB
    · cases e; exact key _ h6
  | map es clock => obtain ⟨l', ms, e, _, _, h4, _⟩ := hB; cases e; exact key _ h4
  | siter s pos => obtain ⟨l', e, _, _, _, _, h6⟩ := hB; cases e; exact key _ h6
  | miter m since seen stepped => obtain ⟨l', r, e, _, _, _, _, h6, _⟩ := hB; cases e; exact key _ h6

/-- Block b is k now. -/
def Put (H : List Blk) (b : Nat) (k : Blk) (H' : List Blk) : Prop := H'[b]? = some k ∧ ∀ x, x ≠ b → H'[x]? = H[x]?

theorem Put.len {H H' : List Blk} {b : Nat} {k : Blk} (h : Put H b k H') : H.length ≤ H'.length := by
  rcases Nat.lt_or_ge H'.length H.length with h1 | h1
  · have h2 := h.2 H'.length
    by_cases e : H'.length = b
    · have h3 := h.1
      rw [← e] at h3
      simp at h3
    · have h3 := h2 e
      rw [List.getElem?_eq_none (Nat.le_refl _), List.getElem?_eq_getElem h1] at h3
      cases h3
  · exact h1

theorem Put.set {H : List Blk} {b : Nat} {k0 k : Blk} (h : H[b]? = some k0) : Put H b k (H.set b k) := by
  have hlt : b < H.length := by
    rcases Nat.lt_or_ge b H.length with h1 | h1
    · exact h1
    · rw [List.getElem?_eq_none h1] at h; cases h
  exact ⟨by simp [hlt], fun x hx => by rw [List.getElem?_set_ne (Ne.symm hx)]⟩

theorem newAt_put {H : List Blk} {at_ : Option Nat} {k : Blk} {b : Nat} {H' : List Blk} (h : newAt H at_ k = some (b, H')) :
    Put H b k H' ∧ (H[b]? = none ∨ H[b]? = some .res) := by
  unfold newAt at h
  cases at_ with
  | none =>
    simp only [Option.some.injEq, Prod.mk.injEq] at h
    obtain ⟨rfl, rfl⟩ := h
    refine ⟨⟨by simp, fun x hx => ?_⟩, .inl (by simp)⟩
    rcases Nat.lt_or_ge x H.length with h1 | h1
    · rw [List.getElem?_append_left h1]
    · rw [List.getElem?_eq_none (by simp; omega), List.getElem?_eq_none h1]
  | some a =>
    simp only at h
    split at h
    · rename_i hr
      simp only [Option.some.injEq, Prod.mk.injEq] at h
      obtain ⟨rfl, rfl⟩ := h
      exact ⟨Put.set hr, .inr hr⟩
    · cases h

def upd (E : Env) (b : Nat) (l : LB) : Env := fun x => if x = b then some l else E x
@[simp] theorem upd_same (E : Env) (b : Nat) (l : LB) : upd E b l b = some l := by simp [upd]
theorem upd_ne (E : Env) {b x : Nat} (l : LB) (h : x ≠ b) : upd E b l x = E x := by simp [upd, h]

/-- What is asked of a turn of one block, but for the new block's own sense. -/
structure Turn (X : Nat → Nat → Prop) (E : Env) (H : List Blk) (w : World) (b : Nat) (k : Blk) (l' : LB) (w' : World) : Prop where
  live : l'.live = true
  still : Still w w'
  size : w.heap.size ≤ w'.heap.size
  other : ∀ B, B < w.heap.size → (∀ l, E b = some l → l.live = true → l.B ≠ B) → w'.heap[B]? = w.heap[B]?
  place : w.heap.size ≤ l'.B ∨ ∃ l, E b = some l ∧ l.live = true ∧ l.B = l'.B
  ed : ∀ l, E b = some l → l.g ≤ l'.g ∧ (l'.g = l.g → l.live = true ∧ l'.B = l.B ∧ l'.o = l.o ∧ l'.K = l.K ∧ l'.size = l.size)
  zone : ∀ l, E b = some l → l.live = true → ∀ size g es, H[b]? = some (.cells size g es true) → l.B = l'.B → ∃ size' g' es', k = .cells size' g' es' true ∧ l.o + es.length * size ≤ l'.o + es'.length * size'
  cell : ∀ l, E b = some l → l.live = true → ∀ size g es, H[b]? = some (.cells size g es true) → ∀ o, o < l.o + es.length * size → w'.cell? ⟨l.B, o, none⟩ = w.cell? ⟨l.B, o, none⟩

theorem Turn.le {X E H w b k l' w'} (t : Turn X E H w b k l' w') : Le E (upd E b l') := by
  intro x l hx
  by_cases e : x = b
  · subst e
    obtain ⟨h1, h2⟩ := t.ed l hx
    exact ⟨l', upd_same _ _ _, h1, fun _ e => h2 e⟩
  · exact ⟨l, by rw [upd_ne _ _ e]; exact hx, Nat.le_refl _, fun hl _ => ⟨hl, rfl, rfl, rfl, rfl⟩⟩

theorem cell_of_heap {w w' : World} {B : Nat} (h : w'.heap[B]? = w.heap[B]?) (o : Nat) : w'.cell? ⟨B, o, none⟩ = w.cell? ⟨B, o, none⟩ := by
  simp only [World.cell?, h]

theorem Turn.im {X E H w b k l' w' H'} (h : HRel X E H w) (hp : Put H b k H') (t : Turn X E H w b k l' w') :
    ∀ B o, Im X E H w B o → Im X (upd E b l') H' w' B o ∧ w'.cell? ⟨B, o, none⟩ = w.cell? ⟨B, o, none⟩ := by
  intro B o ⟨h1, h2, h3⟩
  refine ⟨⟨Nat.lt_of_lt_of_le h1 t.size, h2, fun ⟨x, l0, hx, hl0, hB, hz⟩ => ?_⟩, ?_⟩
  · by_cases e : x = b
    · subst e
      rw [upd_same] at hx
      cases hx
      rcases t.place with hge | ⟨l, hb, hl, hlB⟩
      · omega
      · refine h3 ⟨x, l, hb, hl, hlB.trans hB, fun size g es hk => ?_⟩
        obtain ⟨size', g', es', rfl, hle⟩ := t.zone l hb hl size g es hk hlB
        exact Nat.le_trans hle (hz size' g' es' hp.1)
    · rw [upd_ne _ _ e] at hx
      exact h3 ⟨x, l0, hx, hl0, hB, fun size g es hk => hz size g es (by rw [hp.2 x e]; exact hk)⟩
  · by_cases hc : ∃ l, E b = some l ∧ l.live = true ∧ l.B = B
    · obtain ⟨l, hb, hl, rfl⟩ := hc
      by_cases hz : ∀ size g es, H[b]? = some (.cells size g es true) → l.o + es.length * size ≤ o
      · exact absurd ⟨b, l, hb, hl, rfl, hz⟩ h3
      · obtain ⟨size, hz⟩ := Classical.not_forall.1 hz
        obtain ⟨g, hz⟩ := Classical.not_forall.1 hz
        obtain ⟨es, hz⟩ := Classical.not_forall.1 hz
        obtain ⟨hk, hlt⟩ := Classical.not_imp.1 hz
        exact t.cell l hb hl size g es hk o (by omega)
    · exact cell_of_heap (t.other B h1 fun l hb hl e => hc ⟨l, hb, hl, e⟩) o

/-- One block is turned, or laid. -/
theorem HRel.turn {X E H w b k l' w' H'} (h : HRel X E H w) (hp : Put H b k H') (t : Turn X E H w b k l' w')
    (hx : ∀ off, ¬ X l'.B off) (hk : BRel (Im X (upd E b l') H' w') w' (upd E b l') k (some l')) (hnb : IsC H b → E b ≠ none := by intro _; simp [*]) :
    HRel X (upd E b l') H' w' ∧ Step X E H w (upd E b l') H' w' := by
  have him := t.im h hp
  refine ⟨⟨?_, ?_, ?_, ?_, ?_⟩, ⟨t.le, t.size, him, ?_, ?_, hp.len, ?_, t.still⟩⟩
  · intro x hx0
    have e : x ≠ b := by rintro rfl; rw [hp.1] at hx0; cases hx0
    rw [upd_ne _ _ e]
    exact h.dom x (by rw [← hp.2 x e]; exact hx0)
  · intro x k0 hk0
    by_cases e : x = b
    · subst e
      rw [hp.1] at hk0
      cases hk0
      rw [upd_same]
      exact hk
    · rw [upd_ne _ _ e]
      refine BRel_mono him t.le (fun l hl hv => ?_) (h.blk x k0 (by rw [← hp.2 x e]; exact hk0))
      refine t.other l.B (h.lt hl hv) fun l0 h0 h0v e0 => ?_
      exact e (h.sep x b l l0 hl h0 hv h0v e0.symm)
  · have one : ∀ b1 l1 l2, b1 ≠ b → upd E b l' b1 = some l1 → upd E b l' b = some l2 → l1.live = true → l1.B = l2.B → False := by
      intro b1 l1 l2 e1 h1 h2 v1 e
      rw [upd_ne _ _ e1] at h1
      rw [upd_same] at h2
      cases h2
      rcases t.place with hge | ⟨l, hb, hl, hlB⟩
      · have := h.lt h1 v1
        omega
      · exact e1 (h.sep b1 b l1 l h1 hb v1 hl (e.trans hlB.symm))
    intro b1 b2 l1 l2 h1 h2 v1 v2 e
    by_cases e1 : b1 = b <;> by_cases e2 : b2 = b
    · rw [e1, e2]
    · subst e1; exact (one b2 l2 l1 e2 h2 h1 v2 e.symm).elim
    · subst e2; exact (one b1 l1 l2 e1 h1 h2 v1 e).elim
    · rw [upd_ne _ _ e1] at h1
      rw [upd_ne _ _ e2] at h2
      exact h.sep b1 b2 l1 l2 h1 h2 v1 v2 e
  · intro x l0 hx0 hl off
    by_cases e : x = b
    · subst e; rw [upd_same] at hx0; cases hx0; exact hx off
    · rw [upd_ne _ _ e] at hx0; exact h.xs x l0 hx0 hl off
  · exact fun B off hX => Nat.lt_of_lt_of_le (h.xlt B off hX) t.size
  · exact fun B hB hn => t.other B hB fun l hb hl => hn b l hb hl
  · intro x l0 hx0 hl
    by_cases e : x = b
    · subst e
      rw [upd_same] at hx0
      cases hx0
      rcases t.place with hge | ⟨l, hb, hl', hlB⟩
      · exact .inr hge
      · exact .inl ⟨x, l, hb, hl', hlB⟩
    · rw [upd_ne _ _ e] at hx0
      exact .inl ⟨x, l0, hx0, hl, rfl⟩
  · intro x h1 h2
    have e : x ≠ b := by rintro rfl; exact hnb h1 h2
    refine ⟨?_, by rw [upd_ne _ _ e]; exact h2⟩
    obtain ⟨s, g, es, fz, hk0⟩ := h1
    exact ⟨s, g, es, fz, by rw [hp.2 x e]; exact hk0⟩

/-- Nothing of ours is turned: draws, and blocks that nobody of ours sees. -/
theorem HRel.idle {X E H w w'} (h : HRel X E H w) (hst : Still w w') (hs : w.heap.size ≤ w'.heap.size) (ho : ∀ B, B < w.heap.size → w'.heap[B]? = w.heap[B]?) :
    HRel X E H w' ∧ Step X E H w E H w' := by
  have him : ∀ B o, Im X E H w B o → Im X E H w' B o ∧ w'.cell? ⟨B, o, none⟩ = w.cell? ⟨B, o, none⟩ :=
    fun B o ⟨h1, h2, h3⟩ => ⟨⟨Nat.lt_of_lt_of_le h1 hs, h2, h3⟩, cell_of_heap (ho B h1) o⟩
  exact ⟨⟨h.dom, fun b k hk => BRel_mono him (Le.refl _) (fun l hl hv => ho l.B (h.lt hl hv)) (h.blk b k hk), h.sep, h.xs, fun B off hX => Nat.lt_of_lt_of_le (h.xlt B off hX) hs⟩,
    ⟨Le.refl _, hs, him, fun B hB _ => ho B hB, fun b l hb hl => .inl ⟨b, l, hb, hl, rfl⟩, Nat.le_refl _, fun _ h1 h2 => ⟨h1, h2⟩, hst⟩⟩

end Go.Ai
