/-
  WHAT AN ABSTRACT VALUE SAYS OF A VALUE, an abstract heap of a world; and that both are kept where the world goes on.
-/
import Derived.Test.YtndloeajkfajnaaAiRun
import Derived.Laws.MakeOwn
set_option linter.unusedVariables false
namespace Go.Ai

/-- Where an abstract block lies: block B, from cell o on, room for K rows of 'size' cells; its edition; is it there at all? -/
structure LB where
  live : Bool
  g : Nat
  B : Nat
  o : Nat
  K : Nat
  size : Nat

abbrev Env := Nat → Option LB
def noE : Env := fun _ => none

def Le (E E' : Env) : Prop := ∀ b l, E b = some l → ∃ l', E' b = some l' ∧ l.g ≤ l'.g ∧
  (l'.live = true → l'.g = l.g → l.live = true ∧ l'.B = l.B ∧ l'.o = l.o ∧ l'.K = l.K ∧ l'.size = l.size)

theorem Le.refl (E : Env) : Le E E := fun b l h => ⟨l, h, Nat.le_refl _, fun hl _ => ⟨hl, rfl, rfl, rfl, rfl⟩⟩
theorem Le.trans {E E' E'' : Env} (h : Le E E') (h' : Le E' E'') : Le E E'' := by
  intro b l hb
  obtain ⟨l', hb', hg, hl⟩ := h b l hb
  obtain ⟨l'', hb'', hg', hl'⟩ := h' b l' hb'
  refine ⟨l'', hb'', Nat.le_trans hg hg', fun hv he => ?_⟩
  have e1 : l''.g = l'.g := by omega
  obtain ⟨v1, a1, a2, a3, a4⟩ := hl' hv e1
  obtain ⟨v2, c1, c2, c3, c4⟩ := hl v1 (by omega)
  exact ⟨v2, a1.trans c1, a2.trans c2, a3.trans c3, a4.trans c4⟩
theorem Le.none (E : Env) : Le noE E := fun b l h => by cases h

mutual
def V (im : Nat → Nat → Prop) (w : World) : AV → Env → Value → Prop
  | .undef, _, _ => True
  | .sc v, _, x => x = v
  | .agg cs, E, x => ∃ vs, x = .agg vs ∧ VL im w cs E vs.toList
  | .tup cs, E, x => ∃ vs, x = .tuple vs ∧ VL im w cs E vs.toList
  | .ptr b g i off, E, x => ∃ l a, E b = some l ∧ g ≤ l.g ∧ x = .pointer (some a) ∧
      (l.live = true → l.g = g → a = ⟨l.B, l.o + i * l.size + off, none⟩)
  | .rp cs off, _, x => ∃ B o, x = .pointer (some ⟨B, o + off, none⟩) ∧ VR im w cs B o
  | .sl b g start len cap, E, x => ∃ l a c, E b = some l ∧ g ≤ l.g ∧ x = .slice (some a) len c ∧
      (l.live = true → l.g = g → len ≤ c ∧ (c = 0 ∨ a = ⟨l.B, l.o + start * l.size, none⟩) ∧ (match cap with | none => start + c = l.K | some k => c = k))
  | .ro size es cap, _, x => ∃ a c, x = .slice (some a) es.length c ∧ es.length ≤ c ∧ (∀ k, cap = some k → c = k) ∧
      (es ≠ [] → a.spot = none) ∧ VRR im w es size a.block a.off
  | .mp b, E, x => ∃ l r, E b = some l ∧ x = .map (some r) ∧ (l.live = true → l.g = 0 → r = l.B)
  | .fn f cs, E, x => ∃ vs, x = .func (.func f) #[] vs ∧ VL im w cs E vs.toList
  | .ifc t v, E, x => ∃ y, x = .iface t y ∧ V im w v E y
def VL (im : Nat → Nat → Prop) (w : World) : List AV → Env → List Value → Prop
  | [], _, vs => vs = []
  | c :: cs, E, vs => ∃ v r, vs = v :: r ∧ V im w c E v ∧ VL im w cs E r
def VR (im : Nat → Nat → Prop) (w : World) : List AV → Nat → Nat → Prop
  | [], _, _ => True
  | c :: cs, B, o => (im B o ∧ ∃ x, w.cell? ⟨B, o, none⟩ = some x ∧ x.oneCell' = true ∧ V im w c noE x) ∧ VR im w cs B (o + 1)
def VRR (im : Nat → Nat → Prop) (w : World) : List (List AV) → Nat → Nat → Nat → Prop
  | [], _, _, _ => True
  | e :: es, size, B, o => e.length = size ∧ VR im w e B o ∧ VRR im w es size B (o + size)
end

mutual
theorem V_mono {im im' : Nat → Nat → Prop} {w w' : World} (hi : ∀ B o, im B o → im' B o ∧ w'.cell? ⟨B, o, none⟩ = w.cell? ⟨B, o, none⟩) :
    ∀ (c : AV) {E E' : Env} {x : Value}, Le E E' → V im w c E x → V im' w' c E' x
  | .undef, _, _, _, _, _ => by simp [V]
  | .sc v, _, _, _, _, h => by simpa [V] using h
  | .agg cs, E, E', x, he, h => by
    simp only [V] at h ⊢
    obtain ⟨vs, hx, hv⟩ := h
    exact ⟨vs, hx, VL_mono hi cs he hv⟩
  | .tup cs, E, E', x, he, h => by
    simp only [V] at h ⊢
    obtain ⟨vs, hx, hv⟩ := h
    exact ⟨vs, hx, VL_mono hi cs he hv⟩
  | .ptr b g i off, E, E', x, he, h => by
    simp only [V] at h ⊢
    obtain ⟨l, a, hb, hg, hx, hl⟩ := h
    obtain ⟨l', hb', hg', hl'⟩ := he b l hb
    refine ⟨l', a, hb', Nat.le_trans hg hg', hx, fun hv e => ?_⟩
    obtain ⟨v1, a1, a2, a3, a4⟩ := hl' hv (by omega)
    rw [a1, a2, a4]
    exact hl v1 (by omega)
  | .rp cs off, E, E', x, he, h => by
    simp only [V] at h ⊢
    obtain ⟨B, o, hx, hv⟩ := h
    exact ⟨B, o, hx, VR_mono hi cs hv⟩
  | .sl b g start len cap, E, E', x, he, h => by
    simp only [V] at h ⊢
    obtain ⟨l, a, c, hb, hg, hx, hl⟩ := h
    obtain ⟨l', hb', hg', hl'⟩ := he b l hb
    refine ⟨l', a, c, hb', Nat.le_trans hg hg', hx, fun hv e => ?_⟩
    obtain ⟨v1, a1, a2, a3, a4⟩ := hl' hv (by omega)
    rw [a1, a2, a3, a4]
    exact hl v1 (by omega)
  | .ro size es cap, E, E', x, he, h => by
    simp only [V] at h ⊢
    obtain ⟨a, c, hx, h1, h2, h3, hv⟩ := h
    exact ⟨a, c, hx, h1, h2, h3, VRR_mono hi es hv⟩
  | .mp b, E, E', x, he, h => by
    simp only [V] at h ⊢
    obtain ⟨l, r, hb, hx, hl⟩ := h
    obtain ⟨l', hb', hg', hl'⟩ := he b l hb
    refine ⟨l', r, hb', hx, fun hv e => ?_⟩
    obtain ⟨v1, a1, a2, a3, a4⟩ := hl' hv (by omega)
    rw [a1]
    exact hl v1 (by omega)
  | .fn f cs, E, E', x, he, h => by
    simp only [V] at h ⊢
    obtain ⟨vs, hx, hv⟩ := h
    exact ⟨vs, hx, VL_mono hi cs he hv⟩
  | .ifc t v, E, E', x, he, h => by
    simp only [V] at h ⊢
    obtain ⟨y, hx, hv⟩ := h
    exact ⟨y, hx, V_mono hi v he hv⟩
theorem VL_mono {im im' : Nat → Nat → Prop} {w w' : World} (hi : ∀ B o, im B o → im' B o ∧ w'.cell? ⟨B, o, none⟩ = w.cell? ⟨B, o, none⟩) :
    ∀ (cs : List AV) {E E' : Env} {xs : List Value}, Le E E' → VL im w cs E xs → VL im' w' cs E' xs
  | [], _, _, _, _, h => by simpa [VL] using h
  | c :: cs, E, E', xs, he, h => by
    simp only [VL] at h ⊢
    obtain ⟨v, r, hx, h1, h2⟩ := h
    exact ⟨v, r, hx, V_mono hi c he h1, VL_mono hi cs he h2⟩
theorem VR_mono {im im' : Nat → Nat → Prop} {w w' : World} (hi : ∀ B o, im B o → im' B o ∧ w'.cell? ⟨B, o, none⟩ = w.cell? ⟨B, o, none⟩) :
    ∀ (cs : List AV) {B o : Nat}, VR im w cs B o → VR im' w' cs B o
  | [], _, _, _ => by simp [VR]
  | c :: cs, B, o, h => by
    simp only [VR] at h ⊢
    obtain ⟨⟨h1, x, h2, h3⟩, h4⟩ := h
    exact ⟨⟨(hi _ _ h1).1, x, ((hi _ _ h1).2).trans h2, h3.1, V_mono hi c (Le.none _) h3.2⟩, VR_mono hi cs h4⟩
theorem VRR_mono {im im' : Nat → Nat → Prop} {w w' : World} (hi : ∀ B o, im B o → im' B o ∧ w'.cell? ⟨B, o, none⟩ = w.cell? ⟨B, o, none⟩) :
    ∀ (es : List (List AV)) {size B o : Nat}, VRR im w es size B o → VRR im' w' es size B o
  | [], _, _, _, _ => by simp [VRR]
  | e :: es, size, B, o, h => by
    simp only [VRR] at h ⊢
    exact ⟨h.1, VR_mono hi e h.2.1, VRR_mono hi es h.2.2⟩
end

end Go.Ai
