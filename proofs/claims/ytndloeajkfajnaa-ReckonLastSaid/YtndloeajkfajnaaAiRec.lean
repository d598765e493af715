/-
  A DEFERRED FUNCTION THAT RECOVERS FIRST OF ALL.
-/
import Derived.Test.YtndloeajkfajnaaAiWhole
import Derived.Recover
set_option linter.unusedVariables false
set_option linter.unusedSimpArgs false
namespace Go.Ai

def isRecover (o : Oper) : Bool := match o.op with
  | .call { callee := .builtin .recover, args, .. } => args.size == 0 && o.guard.isNone
  | _ => false

def assignOf (o : Oper) : Option Tmp := match o.op with
  | .assign (.tmp t) => if o.guard.isNone then some t else none
  | _ => none

/-- Its body's beginning: what recover gave is kept in a slot. -/
def recParts : Code → Option (Oper × Oper × Tmp × Code)
  | .seq (.region _ ops draw) rest => if draw then none else match ops.toList with
    | [o0, o1] => if isRecover o0 then (assignOf o1).map fun t => (o0, o1, t, rest) else none
    | _ => none
  | _ => none

/-- What recover gives. -/
def recV : Option AV → AV
  | none => .sc .nilIface
  | some v => v

def recF (P : Program) (ex : Code → St → Option (Ex × St)) (g : FuncId) (cs : List AV) (e : Option AV) (H : List Blk) : Option (Bool × List Blk) :=
  match P.funcs[g]? with
  | none => none
  | some fn => match fn.body with
    | none => none
    | some body => if fn.results.size = 0 then (match recParts body with
      | none => none
      | some (o0, o1, t, rest) =>
        let n := cs.length + (fn.ntmps - cs.length)
        match putA n (initT 0 cs) o0.dst (recV e) with
        | none => none
        | some t1 => match putA n t1 o1.dst (getT t1 t) with
          | none => none
          | some t2 => match ex rest ⟨n, t2, H, []⟩ with
            | some (.normal, st) => if st.defers.isEmpty then some (e.isSome, st.heap) else none
            | some (.ret, st) => if st.defers.isEmpty then some (e.isSome, st.heap) else none
            | _ => none) else none

theorem recParts_spec {c : Code} {o0 o1 : Oper} {t : Tmp} {rest : Code} (h : recParts c = some (o0, o1, t, rest)) :
    ∃ id ops tys, c = .seq (.region id ops false) rest ∧ ops = #[o0, o1] ∧ o0.op = .call { callee := .builtin .recover, args := #[], argTypes := tys } ∧ o0.guard = none ∧ o1.op = .assign (.tmp t) ∧ o1.guard = none := by
  unfold recParts at h
  split at h
  · rename_i id ops draw rest'
    split at h
    · cases h
    · rename_i hd
      have hd : draw = false := by simpa using hd
      subst hd
      split at h
      · rename_i p0 p1 hl
        split at h
        · rename_i hr
          simp only [Option.map_eq_some_iff] at h
          obtain ⟨t', ha, he⟩ := h
          cases he
          have hops : ops = #[o0, o1] := by
            apply Array.toList_inj.1
            rw [hl]
          have h0 : ∃ tys, o0.op = .call { callee := .builtin .recover, args := #[], argTypes := tys } ∧ o0.guard = none := by
            unfold isRecover at hr
            split at hr
            · rename_i args tys hop
              simp only [Bool.and_eq_true, beq_iff_eq, Option.isNone_iff_eq_none] at hr
              have := Array.eq_empty_of_size_eq_zero hr.1
              subst this
              exact ⟨tys, hop, hr.2⟩
            · cases hr
          have h1 : o1.op = .assign (.tmp t) ∧ o1.guard = none := by
            unfold assignOf at ha
            split at ha
            · rename_i t2 hop
              split at ha
              · rename_i hg
                cases ha
                exact ⟨hop, by simpa using hg⟩
              · cases ha
            · cases ha
          obtain ⟨tys, h2, h3⟩ := h0
          exact ⟨id, ops, tys, rfl, hops, h2, h3, h1⟩
        · cases h
      · cases h
  · cases h

theorem recF_sound {P : Program} {C : Ctx} (hC : C.P = P) {ex : Code → St → Option (Ex × St)} (hex : EOK C ex) (g : FuncId) : RecOK P g (recF P ex g) := by
  subst hC
  intro cs e H back H' hF
  unfold recF at hF
  split at hF
  · cases hF
  rename_i fn hf
  split at hF
  · cases hF
  rename_i body hbody
  split at hF
  case isFalse => cases hF
  rename_i hres
  split at hF
  · cases hF
  rename_i o0 o1 t rest hparts
  simp only at hF
  split at hF
  · cases hF
  rename_i t1 ht1
  split at hF
  · cases hF
  rename_i t2 ht2
  obtain ⟨id, ops, tys, rfl, hops, hop0, hg0, hop1, hg1⟩ := recParts_spec hparts
  refine ⟨⟨fn, hf, by simp [hbody]⟩, fun X E w vs u h hv hmet => ?_⟩
  have hresE : fn.results = #[] := Array.eq_empty_of_size_eq_zero hres
  refine callsD_of_wpS hf hbody fun c₀ fs hmode => ?_
  refine wpS_seq (wpS_region ?_)
  have hinit := init_TRel (k := fn.ntmps) hv
  -- behind the two operations
  have after : ∀ (u' : FrameMode) (x : Value), V (Im X E H w) w (recV e) E x → settle u' = FrameMode.returning →
      rest.wpS C.P (bodyPostS C.P fn c₀ fs fun en u' w' => ∃ x E', en = .returned x ∧ settle u' = (match e, back with
        | some _, false => u
        | _, _ => .returning) ∧ HRel X E' H' w' ∧ Step X E H w E' H' w')
        (((({ tmps := vs.toArray ++ Array.replicate (fn.ntmps - vs.toArray.size) Go.undef, defers := [] } : Act).put o0.dst x)).put o1.dst ((({ tmps := vs.toArray ++ Array.replicate (fn.ntmps - vs.toArray.size) Go.undef, defers := [] } : Act).put o0.dst x).eval (.tmp t)))
        ({ c₀ with mode := u' } :: fs) w := by
    intro u' x hx hset
    have ha1 := hinit.put ht1 hx
    have ha2 := ha1.put ht2 (ha1.2 t)
    refine wpS_of_wp ?_
    have hsr : SR X E H w ⟨cs.length + (fn.ntmps - cs.length), t2, H, []⟩ .undef
        (((({ tmps := vs.toArray ++ Array.replicate (fn.ntmps - vs.toArray.size) Go.undef, defers := [] } : Act).put o0.dst x)).put o1.dst ((({ tmps := vs.toArray ++ Array.replicate (fn.ntmps - vs.toArray.size) Go.undef, defers := [] } : Act).put o0.dst x).eval (.tmp t))) w Go.undef :=
      ⟨E, h, Step.refl, ha2, by rw [put_defers', put_defers']; rfl, by simp [V]⟩
    have close : ∀ (st : St) (a' : Act) (w' : World), SR X E H w st .undef a' w' Go.undef → st.defers.isEmpty = true → back = e.isSome → H' = st.heap →
        a'.defers = [] ∧ ∃ u'', ({ c₀ with mode := u' } :: fs) = { c₀ with mode := u'' } :: fs ∧ ∃ v, (results fn a'.tmps).run C.P w' = .ok v w' ∧ ∃ x E', (Ending.returned v) = .returned x ∧ settle u'' = (match e, back with
        | some _, false => u
        | _, _ => .returning) ∧ HRel X E' H' w' ∧ Step X E H w E' H' w' := by
      intro st a' w' hs he hb hH
      obtain ⟨E', h1, h2, h3, h4, _⟩ := hs
      have hd : st.defers = [] := by simpa using he
      rw [hd] at h4
      obtain ⟨y, hy, _⟩ := results_sound (P := C.P) h1 h3 (fn := fn) (vs := []) (by rw [hresE]; rfl)
      refine ⟨h4, u', rfl, y, hy, y, E', rfl, ?_, hH ▸ h1, hH ▸ h2⟩
      rw [hset, hb]
      cases e <;> rfl
    split at hF
    · rename_i st hst
      split at hF
      · rename_i hdf
        cases hF
        refine wp_mono (hex rest _ _ hst X E H w _ w hsr) ?_
        rintro en a' w' ⟨hp, _⟩
        simp only [Post] at hp
        obtain ⟨rfl, hp⟩ := hp
        exact close st a' w' hp hdf rfl rfl
      · cases hF
    · rename_i st hst
      split at hF
      · rename_i hdf
        cases hF
        refine wp_mono (hex rest _ _ hst X E H w _ w hsr) ?_
        rintro en a' w' ⟨hp, _⟩
        simp only [Post] at hp
        obtain ⟨rfl, hp⟩ := hp
        exact close st a' w' hp hdf rfl rfl
      · cases hF
    · cases hF
  have hrec : ∀ (ρ : Operand → Value), (execOp ρ o0).run C.P w = .ok .recover w := by
    intro ρ
    simp only [execOp, hop0, resolve, invoke, builtin]
    rfl
  have hasg : ∀ (ρ : Operand → Value), (execOp ρ o1).run C.P w = .ok (.value (ρ (.tmp t))) w := by
    intro ρ
    simp only [execOp, hop1]
    rfl
  subst hops
  simp only [List.size_toArray, List.length_cons, List.length_nil, Nat.zero_add, Nat.reduceAdd, show List.range 2 = [0, 1] from rfl, wpOpsS, List.getElem?_toArray, List.getElem?_cons_zero, List.getElem?_cons_succ, Region.wanted, hg0, hg1, if_true, hrec, hasg, Oper.upon]
  cases e with
  | none =>
    simp only [Met] at hmet
    subst hmet
    have hr : recoverD (c₀ :: fs) = none := by simp [recoverD, hmode]
    simp only [hr]
    have := after c₀.mode .nilIface (by simp [recV, V]) (by rw [hmode]; rfl)
    exact this
  | some v =>
    obtain ⟨x, rfl, hx⟩ := hmet
    have hr : recoverD (c₀ :: fs) = some (x, { c₀ with mode := .panicking [{ v := x, recovered := true }] } :: fs) := by simp [recoverD, hmode]
    simp only [hr]
    have := after (.panicking [{ v := x, recovered := true }]) x hx rfl
    exact this

end Go.Ai
