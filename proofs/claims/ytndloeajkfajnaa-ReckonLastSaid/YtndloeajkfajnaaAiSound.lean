/-
  A REGION IN THE TEXT'S ORDER.
-/
import Derived.Test.YtndloeajkfajnaaAiEval
import Derived.Scope
import Derived.Defers
set_option linter.unusedVariables false
set_option linter.unusedSimpArgs false
namespace Go.Ai
section
variable {P : Program} {X : Nat → Nat → Prop} {E E' E0 : Env} {H H0 : List Blk} {w w0 : World} {im : Nat → Nat → Prop}

def DRel (im : Nat → Nat → Prop) (w : World) (E : Env) : List (FuncId × List AV) → List Deferred → Prop
  | [], l => l = []
  | d :: ds, l => ∃ vs r, l = { target := .fn (.func d.1) vs, args := #[] } :: r ∧ VL im w d.2 E vs.toList ∧ DRel im w E ds r

theorem DRel.mono {im' : Nat → Nat → Prop} {w' : World} (hi : ∀ B o, im B o → im' B o ∧ w'.cell? ⟨B, o, none⟩ = w.cell? ⟨B, o, none⟩) (he : Le E E') :
    ∀ {ds : List (FuncId × List AV)} {l : List Deferred}, DRel im w E ds l → DRel im' w' E' ds l
  | [], l, h => h
  | d :: ds, l, h => by
    obtain ⟨vs, r, h1, h2, h3⟩ := h
    exact ⟨vs, r, h1, VL_mono hi _ he h2, DRel.mono hi he h3⟩

/-- The machine's state as an abstract one, a way behind a first. -/
def SR (X : Nat → Nat → Prop) (E0 : Env) (H0 : List Blk) (w0 : World) (st : St) (pv : AV) (a : Act) (w : World) (px : Value) : Prop :=
  ∃ E, HRel X E st.heap w ∧ Step X E0 H0 w0 E st.heap w ∧ TRel (Im X E st.heap w) w E st.n st.tmps a ∧ DRel (Im X E st.heap w) w E st.defers a.defers ∧
    V (Im X E st.heap w) w pv E px

def Post (X : Nat → Nat → Prop) (E0 : Env) (H0 : List Blk) (w0 : World) (r : Ex × St) (e : Exit) (a : Act) (w : World) : Prop :=
  match r.1 with
  | .normal => e = .normal ∧ SR X E0 H0 w0 r.2 .undef a w Go.undef
  | .exit id => e = .exit id ∧ SR X E0 H0 w0 r.2 .undef a w Go.undef
  | .ret => e = .ret ∧ SR X E0 H0 w0 r.2 .undef a w Go.undef
  | .pan v => ∃ x, e = .panic [{ v := x, recovered := false }] ∧ SR X E0 H0 w0 r.2 v a w x

/-- Slots outside W are as they were. -/
def Fr (W : List Nat) (a a' : Act) : Prop := ∀ t, t ∉ W → a'.tmps.getD t Go.undef = a.tmps.getD t Go.undef

theorem Fr.refl {W : List Nat} {a : Act} : Fr W a a := fun _ _ => rfl
theorem Fr.trans {W : List Nat} {a a' a'' : Act} (h : Fr W a a') (h' : Fr W a' a'') : Fr W a a'' := fun t ht => (h' t ht).trans (h t ht)
theorem Fr.put {W : List Nat} {a : Act} {d : Option Tmp} {v : Value} (h : ∀ t, d = some t → t ∈ W) : Fr W a (a.put d v) := by
  intro t ht
  cases d with
  | none => rfl
  | some d =>
    have hne : d ≠ t := by rintro rfl; exact ht (h d rfl)
    simp only [Act.put, Array.getD_eq_getD_getElem?]
    rw [Array.getElem?_setIfInBounds_ne hne]
theorem Fr.sub {W W' : List Nat} {a a' : Act} (h : Fr W a a') (hs : ∀ t ∈ W, t ∈ W') : Fr W' a a' := fun t ht => h t fun hm => ht (hs t hm)

theorem put_defers' (a : Act) (d : Option Tmp) (v : Value) : (a.put d v).defers = a.defers := by cases d <;> rfl

/-- A result is put, a way ahead. -/
theorem SR.put {st : St} {a : Act} {x : Value} {w' : World} {d : Option Tmp} {v : AV} {t : Tm} {H' : List Blk} (h : HRel X E st.heap w) (hs : Step X E0 H0 w0 E st.heap w)
    (ht : TRel (Im X E st.heap w) w E st.n st.tmps a) (hd : DRel (Im X E st.heap w) w E st.defers a.defers) (hp : putA st.n st.tmps d v = some t) (h' : HRel X E' H' w') (hs' : Step X E st.heap w E' H' w')
    (hv : V (Im X E' H' w') w' v E' x) : SR X E0 H0 w0 ⟨st.n, t, H', st.defers⟩ .undef (a.put d x) w' Go.undef :=
  ⟨E', h', hs.trans hs', (ht.mono hs'.im hs'.le).put hp hv, by rw [put_defers']; exact hd.mono hs'.im hs'.le, by simp [V]⟩

theorem wanted_sound {ops : Array Oper} {o : Oper} {n : Nat} {tmps : Tm} {a : Act} {b : Bool} (ht : TRel im w E n tmps a) (h : wantedA ops tmps o = some b) : Region.wanted o (yielded ops a.tmps) = b := by
  unfold wantedA at h
  unfold Region.wanted
  split at h
  · rename_i hg
    cases h
    simp [hg]
  · rename_i j want hg
    simp only [hg]
    split at h
    · rename_i hd
      cases h
      simp [yielded, hd]
    · rename_i d hd
      have hv := ht.2 d
      split at h
      · rename_i c hc
        cases h
        rw [hc] at hv
        simp only [V] at hv
        have : a.tmps[d]? = some (.bool c) := by
          rw [Array.getD_eq_getD_getElem?] at hv
          cases hq : a.tmps[d]? with
          | none => rw [hq] at hv; cases hv
          | some x => rw [hq] at hv; simpa using hv
        simp [yielded, hd, this]
      · rename_i c hc
        cases h
        rw [hc] at hv
        simp only [V] at hv
        rw [Array.getD_eq_getD_getElem?] at hv
        cases hq : a.tmps[d]? with
        | none => simp [yielded, hd, hq]
        | some x => rw [hq] at hv; simp at hv; subst hv; simp [yielded, hd, hq]
      · cases h

theorem unit_ok : V im w unit E Go.undef := by simp only [unit, V]; rfl

theorem runList_sound {C : Ctx} {call : CallT} (hc : CallOK C.P call) (hp : ∀ f F, C.prims f = some F → PrimOK C.P f F)
    (hname : ∀ (f : FuncId) (fn : Func), C.P.funcs[f]? = some fn → fn.name ≠ "runtime.NumGoroutine") {ops : Array Oper} {W : List Nat}
    (hW : ∀ (i : Nat) (o : Oper) (d : Tmp), ops[i]? = some o → o.dst = some d → d ∈ W) {a0 : Act} :
    ∀ (l : List Nat) (st : St) (r : Ex × St), runList C call ops l st = some r → ∀ (a : Act) (w : World), SR X E0 H0 w0 st .undef a w Go.undef → Fr W a0 a →
      wpOps C.P ops (fun e a' w' => Post X E0 H0 w0 r e a' w' ∧ Fr W a0 a') l a w
  | [], st, r, hr, a, w, hs, hf => by
    simp only [runList, Option.some.injEq] at hr
    subst hr
    exact ⟨⟨rfl, hs⟩, hf⟩
  | i :: rest, st, r, hr, a, w, hs, hf => by
    obtain ⟨E, h, hst, ht, hd, hu⟩ := hs
    simp only [runList] at hr
    simp only [wpOps]
    split at hr
    · rename_i ho
      simp only [ho]
      exact runList_sound hc hp hname hW rest st r hr a w ⟨E, h, hst, ht, hd, hu⟩ hf
    · rename_i o ho
      simp only [ho]
      have hput : ∀ (x : Value), Fr W a0 (a.put o.dst x) := fun x => hf.trans (Fr.put fun t e => hW i o t ho e)
      split at hr
      · rename_i hw
        rw [wanted_sound ht hw]
        simp only [if_true]
        left
        split at hr
        · rename_i v H' he
          rw [seqV_eq] at hr
          split at hr
          · rename_i t hpt
            rw [seqL_eq] at hr
            refine evalOp_sound hc hp hname h ht he ?_
            rintro x w' ⟨E', h', hs', hv⟩
            exact runList_sound hc hp hname hW rest _ r hr _ _ (SR.put h hst ht hd hpt h' hs' hv) (hput x)
          · cases hr
        · rename_i H' he
          split at hr
          · rename_i t hpt
            rw [seqL_eq] at hr
            refine evalOp_sound hc hp hname h ht he ?_
            rintro w' h' hs'
            exact runList_sound hc hp hname hW rest _ r hr _ _ (SR.put h hst ht hd hpt h' hs' unit_ok) (hput _)
          · cases hr
        · rename_i f cs he
          split at hr
          · rename_i t hpt
            refine evalOp_sound hc hp hname h ht he ?_
            intro vs hvs
            refine runList_sound hc hp hname hW rest _ r hr _ _ ⟨E, h, hst, ?_, ?_, by simp [V]⟩ ?_
            · have ht' : TRel (Im X E st.heap w) w E st.n st.tmps ({ a with defers := { target := .fn (.func f) vs.toArray, args := #[] } :: a.defers } : Act) := ht
              exact ht'.put hpt unit_ok
            · rw [put_defers']
              exact ⟨vs.toArray, a.defers, rfl, by simpa using hvs, hd⟩
            · have hf' : Fr W a0 ({ a with defers := { target := .fn (.func f) vs.toArray, args := #[] } :: a.defers } : Act) := hf
              exact hf'.trans (Fr.put fun t e => hW i o t ho e)
          · cases hr
        · rename_i v H' he
          cases hr
          refine evalOp_sound hc hp hname h ht he ?_
          rintro x w' ⟨E', h', hs', hv⟩
          exact ⟨⟨x, rfl, E', h', hst.trans hs', ht.mono hs'.im hs'.le, hd.mono hs'.im hs'.le, hv⟩, hf⟩
        · cases hr
      · rename_i hw
        rw [wanted_sound ht hw]
        simp only [Bool.false_eq_true, if_false]
        split at hr
        · rename_i t hpt
          exact runList_sound hc hp hname hW rest _ r hr _ _ (SR.put h hst ht hd hpt h Step.refl unit_ok) (hput _)
        · cases hr
      · cases hr

end
end Go.Ai
