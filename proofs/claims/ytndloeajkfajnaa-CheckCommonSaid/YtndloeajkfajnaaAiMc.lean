/-
  CALLS.
-/
import Derived.Test.YtndloeajkfajnaaAiMb
import Derived.Scope
import Derived.Defers
import Derived.Test.YtndloeajkfajnaaAiMa
set_option linter.unusedVariables false
set_option linter.unusedSimpArgs false
namespace Go.Ai
section
variable {P : Program} {X : Nat → Nat → Prop} {E E' : Env} {H : List Blk} {w : World} {im : Nat → Nat → Prop}

mutual
theorem V_scalar {im' : Nat → Nat → Prop} {w' : World} : ∀ {c : AV} {E E' : Env} {x : Value}, isScalar c = true → V im w c E x → V im' w' c E' x
  | .sc _, _, _, _, _, h => by simpa [V] using h
  | .agg cs, E, E', x, hd, h => by
    simp only [isScalar] at hd
    simp only [V] at h ⊢
    obtain ⟨vs, hx, hv⟩ := h
    exact ⟨vs, hx, VL_scalar hd hv⟩
  | .tup cs, E, E', x, hd, h => by
    simp only [isScalar] at hd
    simp only [V] at h ⊢
    obtain ⟨vs, hx, hv⟩ := h
    exact ⟨vs, hx, VL_scalar hd hv⟩
  | .ifc t v, E, E', x, hd, h => by
    simp only [isScalar] at hd
    simp only [V] at h ⊢
    obtain ⟨y, hx, hv⟩ := h
    exact ⟨y, hx, V_scalar hd hv⟩
  | .fn .., _, _, _, hd, _ => by simp [isScalar] at hd
  | .rp .., _, _, _, hd, _ => by simp [isScalar] at hd
  | .ro .., _, _, _, hd, _ => by simp [isScalar] at hd
  | .undef, _, _, _, hd, _ => by simp [isScalar] at hd
  | .ptr .., _, _, _, hd, _ => by simp [isScalar] at hd
  | .sl .., _, _, _, hd, _ => by simp [isScalar] at hd
  | .mp _, _, _, _, hd, _ => by simp [isScalar] at hd
theorem VL_scalar {im' : Nat → Nat → Prop} {w' : World} : ∀ {cs : List AV} {E E' : Env} {xs : List Value}, isScalarL cs = true → VL im w cs E xs → VL im' w' cs E' xs
  | [], _, _, _, _, h => by simpa [VL] using h
  | c :: cs, E, E', xs, hd, h => by
    simp only [isScalarL, Bool.and_eq_true] at hd
    simp only [VL] at h ⊢
    obtain ⟨v, r, hx, h1, h2⟩ := h
    exact ⟨v, r, hx, V_scalar hd.1 h1, VL_scalar hd.2 h2⟩
end

/-- How a call ends. -/
def Ends (X : Nat → Nat → Prop) (E : Env) (H : List Blk) (w : World) (r : CRes) (H1 : List Blk) (e : Ending) (w' : World) : Prop :=
  match r with
  | .ret v => ∃ x, e = .returned x ∧ Good X E H w v H1 x w'
  | .pan v => ∃ x, e = .panicked [{ v := x, recovered := false }] ∧ Good X E H w v H1 x w'

def CallOK (P : Program) (call : CallT) : Prop :=
  ∀ f args H r H1, call f args H = some (r, H1) → (∃ fn, P.funcs[f]? = some fn ∧ fn.body.isSome = true) ∧
    ∀ X E w vs, HRel X E H w → VL (Im X E H w) w args E vs → Calls P f vs.toArray w (Ends X E H w r H1)

/-- What is told of a function beforehand. -/
def PrimOK (P : Program) (f : FuncId) (F : List AV → Option AV) : Prop :=
  ∀ args v, F args = some v → (∃ fn, P.funcs[f]? = some fn ∧ fn.body.isSome = true) ∧
    ∀ X w vs, (∀ B off, X B off → B < w.heap.size) → VL (Im X noE [] w) w args noE vs → Calls P f vs.toArray w (Ends X noE [] w (.ret v) [])

/-- How an operation ends that calls. -/
def EndsO (X : Nat → Nat → Prop) (E : Env) (H : List Blk) (w : World) (r : ORes) (e : Ending) (w' : World) : Prop :=
  match r with
  | .val v H1 => ∃ x, e = .returned x ∧ Good X E H w v H1 x w'
  | .pan v H1 => ∃ x, e = .panicked [{ v := x, recovered := false }] ∧ Good X E H w v H1 x w'
  | _ => False

theorem HRel_empty {X : Nat → Nat → Prop} {w : World} (hx : ∀ B off, X B off → B < w.heap.size) : HRel X noE [] w :=
  ⟨fun _ _ => rfl, fun b k hk => (by simp at hk), fun _ _ _ _ h => (by cases h), fun _ _ h => (by cases h), hx⟩

theorem Wr_empty {B o : Nat} : ¬ Wr noE [] B o := by rintro ⟨b, l, h, _⟩; cases h

/-- The arguments as what is written no more, the caller's own blocks out of reach. -/
theorem args_plain (h : HRel X E H w) {args us : List AV} {vs : List Value} (hf : frzL H args = some us) (hv : VL (Im X E H w) w args E vs) : VL (Im X noE [] w) w us noE vs :=
  frzL_sound h (fun B o ⟨h1, h2, h3⟩ => ⟨h1, h2, Wr_empty⟩) hf (fun b hb l size g es fz hE hl hk off ho => ⟨h.lt hE hl, h.xs b l hE hl off, Wr_empty⟩) hv

def Xc (X : Nat → Nat → Prop) (E : Env) (H : List Blk) : Nat → Nat → Prop := fun B o => X B o ∨ Wr E H B o

theorem Xc_lt (h : HRel X E H w) : ∀ B off, Xc X E H B off → B < w.heap.size := by
  rintro B off (hx | ⟨b, l, hb, hl, hB, _⟩)
  · exact h.xlt B off hx
  · rw [← hB]; exact h.lt hb hl

theorem args_marked (h : HRel X E H w) {args us : List AV} {vs : List Value} (hf : frzL H args = some us) (hv : VL (Im X E H w) w args E vs) :
    VL (Im (Xc X E (mark H (slIdsL args))) noE [] w) w us noE vs := by
  obtain ⟨hm, hms⟩ := HRel.mark (slIdsL args) h
  have key : ∀ B o, Im X E (mark H (slIdsL args)) w B o → Im (Xc X E (mark H (slIdsL args))) noE [] w B o := by
    rintro B o ⟨h1, h2, h3⟩
    refine ⟨h1, ?_, Wr_empty⟩
    rintro (hx | hx)
    · exact h2 hx
    · exact h3 hx
  exact frzL_sound h (fun B o hi => key B o (hms.im B o hi).1) hf (fun b hb l size g es fz hE hl hk off ho => key _ _ (zone_mark h _ b hb l size g es fz hE hl hk off ho)) hv

/-- Back from a call that saw nothing of ours: nothing of ours has turned. -/
theorem back_idle (h : HRel X E H w) {X' : Nat → Nat → Prop} {E1 : Env} {H1 : List Blk} {w' : World} (hs : Step X' noE [] w E1 H1 w') : HRel X E H w' ∧ Step X E H w E H w' :=
  h.idle hs.still hs.size fun B hB => hs.obj B hB fun b l hb => by cases hb

theorem back_sub {w' : World} {B o : Nat} {E1 : Env} {H1 : List Blk} (hi : Im (Xc X E H) E1 H1 w' B o) : Im X E H w' B o :=
  ⟨hi.1, fun hx => hi.2.1 (.inl hx), fun hx => hi.2.1 (.inr hx)⟩

theorem back_data (h : HRel X E H w) {E1 : Env} {H1 : List Blk} {w' : World} (h1 : HRel (Xc X E H) E1 H1 w') (hs : Step (Xc X E H) noE [] w E1 H1 w') {v v' : AV} {x : Value}
    (hv : V (Im (Xc X E H) E1 H1 w') w' v E1 x) (hf : frz H1 v = some v') : V (Im X E H w') w' v' E x := by
  refine V_mono (w := w') (fun B o hb => ⟨hb, rfl⟩) _ (Le.none E) (frz_sound h1 (fun B o hi => back_sub hi) hf (fun b hb l size g es fz hE hl hk off ho => ?_) hv)
  have hge : w.heap.size ≤ l.B := by
    rcases hs.new b l hE hl with ⟨_, _, h7, _⟩ | h7
    · cases h7
    · exact h7
  refine ⟨h1.lt hE hl, fun hx => ?_, ?_⟩
  · have := h.xlt _ _ hx
    omega
  · rintro ⟨b', l', hb', hl', hB, _⟩
    have := h.lt hb' hl'
    omega

theorem doCall_sound {C : Ctx} {call : CallT} (hc : CallOK C.P call) (hp : ∀ f F, C.prims f = some F → PrimOK C.P f F) (h : HRel X E H w) {f : FuncId} {args : List AV} {vs : List Value} {r : ORes}
    (hv : VL (Im X E H w) w args E vs) (hd : doCall C call none f args H = some r) :
    (∃ fn, C.P.funcs[f]? = some fn ∧ fn.body.isSome = true) ∧ Calls C.P f vs.toArray w (EndsO X E H w r) := by
  unfold doCall at hd
  split at hd
  · -- told beforehand
    rename_i F hF
    split at hd
    case h_2 => cases hd
    rename_i us hus
    split at hd
    case h_2 => cases hd
    rename_i v hFv
    obtain ⟨hb, hcall⟩ := hp f F hF us v hFv
    refine ⟨hb, ?_⟩
    split at hd
    · rename_i hsc
      cases hd
      refine (hcall X w vs h.xlt (args_plain h hus hv)).mono ?_
      rintro e w' ⟨x, rfl, E1, h1, hs, hx⟩
      obtain ⟨h2, h3⟩ := back_idle h hs
      exact ⟨x, rfl, E, h2, h3, V_scalar hsc hx⟩
    · split at hd
      · rename_i hdt
        cases hd
        obtain ⟨hm, hms⟩ := HRel.mark (slIdsL args) h
        refine (hcall (Xc X E (mark H (slIdsL args))) w vs (Xc_lt hm) (args_marked h hus hv)).mono ?_
        rintro e w' ⟨x, rfl, E1, h1, hs, hx⟩
        obtain ⟨h2, h3⟩ := back_idle hm hs
        exact ⟨x, rfl, E, h2, hms.trans h3, V_mono (w := w') (fun B o hi => ⟨back_sub hi, rfl⟩) _ (Le.none E) (V_data hdt hx)⟩
      · cases hd
  · split at hd
    · -- on its own
      rename_i us hus
      have hus : frzL H args = some us := by
        split at hus
        · cases hus
        · exact hus
      split at hd
      · rename_i v H1 hcl
        obtain ⟨hb, hcall⟩ := hc f us [] _ _ hcl
        refine ⟨hb, ?_⟩
        split at hd
        · rename_i hsc
          cases hd
          refine (hcall X noE w vs (HRel_empty h.xlt) (args_plain h hus hv)).mono ?_
          rintro e w' ⟨x, rfl, E1, h1, hs, hx⟩
          obtain ⟨h2, h3⟩ := back_idle h hs
          exact ⟨x, rfl, E, h2, h3, V_scalar hsc hx⟩
        · obtain ⟨hm, hms⟩ := HRel.mark (slIdsL args) h
          refine (hcall (Xc X E (mark H (slIdsL args))) noE w vs (HRel_empty (Xc_lt hm)) (args_marked h hus hv)).mono ?_
          rintro e w' ⟨x, rfl, E1, h1, hs, hx⟩
          simp only at hd
          split at hd
          · rename_i v' hfz
            cases hd
            have hfz : frz H1 v = some v' := by
              split at hfz
              · cases hfz
              · exact hfz
            obtain ⟨h2, h3⟩ := back_idle hm hs
            exact ⟨x, rfl, E, h2, hms.trans h3, back_data hm h1 hs hx hfz⟩
          · simp only [Option.map_eq_some_iff] at hd
            obtain ⟨⟨v', H'⟩, had, rfl⟩ := hd
            obtain ⟨E', h2, h3, h4⟩ := adopt_sound hm h1 hs (fun B o hb => hb) hx had
            exact ⟨x, rfl, E', h2, hms.trans h3, h4⟩
      · rename_i v H1 hcl
        obtain ⟨hb, hcall⟩ := hc f us [] _ _ hcl
        refine ⟨hb, ?_⟩
        simp only [Option.map_eq_some_iff] at hd
        obtain ⟨v', hfz, rfl⟩ := hd
        obtain ⟨hm, hms⟩ := HRel.mark (slIdsL args) h
        refine (hcall (Xc X E (mark H (slIdsL args))) noE w vs (HRel_empty (Xc_lt hm)) (args_marked h hus hv)).mono ?_
        rintro e w' ⟨x, rfl, E1, h1, hs, hx⟩
        obtain ⟨h2, h3⟩ := back_idle hm hs
        exact ⟨x, rfl, E, h2, hms.trans h3, back_data hm h1 hs hx hfz⟩
      · cases hd
    · -- with our blocks
      split at hd
      · rename_i v H1 _ hcl
        cases hd
        obtain ⟨hb, hcall⟩ := hc f args H _ _ hcl
        refine ⟨hb, (hcall X E w vs h hv).mono ?_⟩
        rintro e w' ⟨x, rfl, hg⟩
        exact ⟨x, rfl, hg⟩
      · rename_i v H1 _ hcl
        cases hd
        obtain ⟨hb, hcall⟩ := hc f args H _ _ hcl
        refine ⟨hb, (hcall X E w vs h hv).mono ?_⟩
        rintro e w' ⟨x, rfl, hg⟩
        exact ⟨x, rfl, hg⟩
      · cases hd

end
end Go.Ai

/-
  ONE OPERATION.
-/
set_option linter.unusedVariables false
set_option linter.unusedSimpArgs false
namespace Go.Ai
section
variable {P : Program} {X : Nat → Nat → Prop} {E E' : Env} {H : List Blk} {w : World} {im : Nat → Nat → Prop}

def OpSpec (X : Nat → Nat → Prop) (E : Env) (H : List Blk) (w : World) (a : Act) (o : Oper) (next : Act → World → Prop) (Q : Exit → Act → World → Prop) : ORes → Prop
  | .val v H' => ∀ x w', Good X E H w v H' x w' → next (a.put o.dst x) w'
  | .skip H' => ∀ w', HRel X E H' w' → Step X E H w E H' w' → next (a.put o.dst Go.undef) w'
  | .pan v H' => ∀ x w', Good X E H w v H' x w' → Q (.panic [{ v := x, recovered := false }]) a w'
  | .dfr f cs => ∀ vs : List Value, VL (Im X E H w) w cs E vs → next (({ a with defers := { target := .fn (.func f) vs.toArray, args := #[] } :: a.defers } : Act).put o.dst Go.undef) w

theorem wp_val {o : Oper} {a : Act} {w w' : World} {next : Act → World → Prop} {Q : Exit → Act → World → Prop} (s : Sem Value) {x : Value} (hx : execOp a.eval o = (do let v ← s; pure (.value v)))
    (hr : s.run P w = .ok x w') (h : next (a.put o.dst x) w') : o.wp P a w next Q := by
  unfold Oper.wp
  rw [hx]
  simp only [Sem.run_bind, hr, Result.andThen_ok, Sem.run_pure, Oper.upon]
  exact h

theorem wp_unit {o : Oper} {a : Act} {w w' : World} {next : Act → World → Prop} {Q : Exit → Act → World → Prop} (s : Sem Unit) (hx : execOp a.eval o = (do s; pure .skip))
    (hr : s.run P w = .ok () w') (h : next (a.put o.dst Go.undef) w') : o.wp P a w next Q := by
  unfold Oper.wp
  rw [hx]
  simp only [Sem.run_bind, hr, Result.andThen_ok, Sem.run_pure, Oper.upon]
  exact h

theorem wp_call {o : Oper} {a : Act} {w : World} {next : Act → World → Prop} {Q : Exit → Act → World → Prop} {f : FuncId} {args : Array Value}
    (hname : ∀ (f : FuncId) (fn : Func), P.funcs[f]? = some fn → fn.name ≠ "runtime.NumGoroutine") (hb : ∃ fn, P.funcs[f]? = some fn ∧ fn.body.isSome = true)
    (hx : execOp a.eval o = callFunc f args) {r : ORes} (hc : Calls P f args w (EndsO X E H w r)) (hq : OpSpec X E H w a o next Q r) : o.wp P a w next Q := by
  unfold Oper.wp
  rw [hx]
  obtain ⟨fn, hf, hbody⟩ := hb
  have hn : (fn.name == "runtime.NumGoroutine") = false := by simpa using hname f fn hf
  have hrun : (callFunc f args).run P w = .ok (.enter f args) w := by
    unfold callFunc
    have : fn.body.isNone = false := by cases hfb : fn.body <;> simp_all
    rw [Sem.run_bind]
    simp only [program, Sem.run, Result.andThen_ok, hf, hn, this]
    rfl
  rw [hrun]
  simp only [Oper.upon]
  refine hc.mono ?_
  intro e w' he
  cases r with
  | val v H1 => obtain ⟨x, rfl, hg⟩ := he; exact hq x w' hg
  | pan v H1 => obtain ⟨x, rfl, hg⟩ := he; exact hq x w' hg
  | skip _ => exact he.elim
  | dfr _ _ => exact he.elim

/-- A call, whoever answers it. -/
theorem wp_callA {C : Ctx} {call : CallT} (hc : CallOK C.P call) (hp : ∀ f F, C.prims f = some F → PrimOK C.P f F)
    (hname : ∀ (f : FuncId) (fn : Func), C.P.funcs[f]? = some fn → fn.name ≠ "runtime.NumGoroutine") (h : HRel X E H w) {o : Oper} {a : Act} {next : Act → World → Prop} {Q : Exit → Act → World → Prop} {f : FuncId} {args : List AV} {vs : List Value}
    {r : ORes} (hv : VL (Im X E H w) w args E vs) (hd : callA C call none f args H = some r) (hx : execOp a.eval o = callFunc f vs.toArray) (hq : OpSpec X E H w a o next Q r) : o.wp C.P a w next Q := by
  unfold callA at hd
  split at hd
  · simp only [Option.map_eq_some_iff] at hd
    obtain ⟨v, hv1, rfl⟩ := hd
    unfold externA at hv1
    split at hv1
    · rename_i us hus
      have := VL_conc hus hv
      subst this
      split at hv1
      · rename_i r hr
        cases hv1
        unfold Oper.wp
        rw [hx, pureRun_run C.P _ _ hr w]
        exact hq _ _ (Good.here h (V_absV E r))
      · cases hv1
    · cases hv1
  · obtain ⟨h0, hs0⟩ := h.preCall C f args
    obtain ⟨hb, hcall⟩ := doCall_sound hc hp h0 (VL_mono hs0.im _ hs0.le hv) hd
    refine wp_call hname hb hx (hcall.mono ?_) hq
    intro e w' he
    cases r with
    | val v H1 => obtain ⟨x, rfl, E', h', hs', hv'⟩ := he; exact ⟨x, rfl, E', h', hs0.trans hs', hv'⟩
    | pan v H1 => obtain ⟨x, rfl, E', h', hs', hv'⟩ := he; exact ⟨x, rfl, E', h', hs0.trans hs', hv'⟩
    | skip _ => exact he.elim
    | dfr _ _ => exact he.elim

theorem VL_zip {im : Nat → Nat → Prop} {ns : List Nat} {us : List AV} {xs : List Value} (hl : ns.length = us.length) (h : VL im w us E xs) :
    (ns.zip us).map (·.2) = us ∧ (ns.zip us).map (·.1) = ns ∧ True := by
  refine ⟨?_, ?_, trivial⟩
  · rw [List.map_snd_zip]; omega
  · rw [List.map_fst_zip]; omega

theorem evL_length {tmps : Tm} : ∀ {xs : List Operand} {vs : List AV}, evL tmps xs = some vs → vs.length = xs.length
  | [], vs, h => by simp only [evL, Option.some.injEq] at h; subst h; rfl
  | x :: xs, vs, h => by
    simp only [evL] at h
    split at h
    · rename_i v us e1 e2
      cases h
      simp [evL_length e2]
    · cases h

theorem snapOne_sound (h : HRel X E H w) {im' : Nat → Nat → Prop} (hsub : ∀ B o, Im X E H w B o → im' B o) {c c' : AV} {x : Value} (hs : snapOne H c = some c')
    (hz : ∀ b g i o, c = .ptr b g i o → Zone im' E H [b]) (hv : V (Im X E H w) w c E x) : V im' w c' E x := by
  unfold snapOne at hs
  split at hs
  · rename_i b g
    split at hs
    · rename_i size g' row fz hk
      split at hs
      · rename_i hq
        obtain ⟨rfl, hd⟩ := hq
        cases hs
        obtain ⟨l, C, t, hE, hl, hg, hsz, hK, hh, hC, hR⟩ := h.own hk (V_ptr_has hv)
        simp only [V] at hv
        obtain ⟨l', p, hE', _, rfl, hp⟩ := hv
        rw [hE] at hE'
        cases hE'
        obtain ⟨h1, h2⟩ := hR 0 row rfl
        simp only [V]
        refine ⟨l.B, l.o, by rw [hp hl hg]; simp, VR_of_get fun j c hj => ?_⟩
        obtain ⟨y, hy, hy1, hyv⟩ := h2 j c hj
        have hjl : j < row.length := by
          rcases Nat.lt_or_ge j row.length with h9 | h9
          · exact h9
          · rw [List.getElem?_eq_none h9] at hj; cases hj
        refine ⟨hz b g 0 0 rfl b (by simp) l size g _ fz hE hl hk _ (by simp; omega), y, by simpa [World.cell?, hh] using hy, hy1, ?_⟩
        exact V_mono (w := w) (fun B o hb => ⟨hsub B o hb, rfl⟩) _ (Le.refl _) (V_data (E' := noE) (isDataL_get hd hj) hyv)
      · cases hs
    · cases hs
  · split at hs
    · rename_i hd
      cases hs
      exact V_mono (w := w) (fun B o hb => ⟨hsub B o hb, rfl⟩) _ (Le.refl _) hv
    · cases hs

theorem snapL_sound (h : HRel X E H w) {im' : Nat → Nat → Prop} (hsub : ∀ B o, Im X E H w B o → im' B o) : ∀ {cs cs' : List AV} {xs : List Value}, snapL H cs = some cs' →
    Zone im' E H (ptrIds cs) → VL (Im X E H w) w cs E xs → VL im' w cs' E xs
  | [], cs', xs, hs, _, hv => by simp only [snapL, Option.some.injEq] at hs; subst hs; simpa [VL] using hv
  | c :: cs, cs', xs, hs, hz, hv => by
    simp only [snapL] at hs
    split at hs
    · rename_i v vs e1 e2
      cases hs
      simp only [VL] at hv ⊢
      obtain ⟨y, r, rfl, h1, h2⟩ := hv
      refine ⟨y, r, rfl, snapOne_sound h hsub e1 (fun b g i o hc => hz.mono fun b' hb' => ?_) h1, snapL_sound h hsub e2 (hz.mono fun b hb => ?_) h2⟩
      · subst hc
        simp at hb'
        simp [ptrIds, hb']
      · unfold ptrIds
        split
        · cases ‹_ :: _ = ([] : List AV)›
        · rename_i he; cases he; simp [hb]
        · rename_i he; cases he; exact hb
    · cases hs

theorem capOf_sound {C : Ctx} (h : HRel X E H w) {f : FuncId} {cs : List AV} {xs : List Value} {r : List AV × List Blk} (hv : VL (Im X E H w) w cs E xs) (hc : capOf C H f cs = some r) :
    Good X E H w (.fn f r.1) r.2 (.func (.func f) #[] xs.toArray) w := by
  unfold capOf at hc
  split at hc
  · simp only [Option.map_eq_some_iff] at hc
    obtain ⟨l, hl, rfl⟩ := hc
    obtain ⟨hm, hms⟩ := HRel.mark (ptrIds cs) h
    refine ⟨E, hm, hms, ?_⟩
    simp only [V]
    exact ⟨_, rfl, by simpa using snapL_sound h (fun B o hi => (hms.im B o hi).1) hl (zone_mark h _) hv⟩
  · cases hc
    refine Good.here h ?_
    simp only [V]
    exact ⟨_, rfl, by simpa using hv⟩

theorem evO_sound {n : Nat} {tmps : Tm} {a : Act} (ht : TRel im w E n tmps a) {x : Option Operand} {v : Option AV} (h : x.mapM (ev tmps) = some v) : VO im w E v (x.map a.eval) := by
  cases x with
  | none => simp at h; subst h; trivial
  | some x =>
    simp only [Option.mapM_some, Option.map_eq_map, Option.map_eq_some_iff] at h
    obtain ⟨u, hu, rfl⟩ := h
    exact ev_sound ht hu

theorem args2 {args : Array Operand} {a : Act} {s x : AV} (h : VL im w [s, x] E (args.toList.map a.eval)) : ∃ y z, args.map a.eval = #[y, z] ∧ V im w s E y ∧ V im w x E z := by
  simp only [VL] at h
  obtain ⟨y, r, h1, h2, z, r', h3, h4, rfl⟩ := h
  refine ⟨y, z, ?_, h2, h4⟩
  apply Array.toList_inj.1
  rw [Array.toList_map, h1, h3]

theorem args1 {args : Array Operand} {a : Act} {s : AV} (h : VL im w [s] E (args.toList.map a.eval)) : ∃ y, args.map a.eval = #[y] ∧ V im w s E y := by
  simp only [VL] at h
  obtain ⟨y, r, h1, h2, rfl⟩ := h
  refine ⟨y, ?_, h2⟩
  apply Array.toList_inj.1
  rw [Array.toList_map, h1]

theorem argsC {args : Array Operand} {a : Act} {us : List AV} {vs : List Value} (hc : concL us = some vs) (h : VL im w us E (args.toList.map a.eval)) : args.map a.eval = vs.toArray := by
  have := VL_conc hc h
  apply Array.toList_inj.1
  rw [Array.toList_map, this]

set_option maxHeartbeats 1600000 in
theorem evalOp_sound {C : Ctx} {call : CallT} (hc : CallOK C.P call) (hp : ∀ f F, C.prims f = some F → PrimOK C.P f F)
    (hname : ∀ (f : FuncId) (fn : Func), C.P.funcs[f]? = some fn → fn.name ≠ "runtime.NumGoroutine") (h : HRel X E H w) {n : Nat} {tmps : Tm} {a : Act} (ht : TRel (Im X E H w) w E n tmps a)
    {o : Oper} {r : ORes} (hv : evalOp C call none tmps H o = some r) {next : Act → World → Prop} {Q : Exit → Act → World → Prop} (hq : OpSpec X E H w a o next Q r) : o.wp C.P a w next Q := by
  unfold evalOp at hv
  simp only at hv
  split at hv
  · -- move
    rename_i x ho
    simp only [Option.map_eq_some_iff] at hv
    obtain ⟨v, hv, rfl⟩ := hv
    exact wp_val (pure (a.eval x)) (by simp only [execOp, ho] <;> rfl) rfl (hq _ _ (Good.here h (ev_sound ht hv)))
  · -- assign
    rename_i x ho
    simp only [Option.map_eq_some_iff] at hv
    obtain ⟨v, hv, rfl⟩ := hv
    exact wp_val (pure (a.eval x)) (by simp only [execOp, ho] <;> rfl) rfl (hq _ _ (Good.here h (ev_sound ht hv)))
  · -- pick
    rename_i c x y ho
    split at hv
    · rename_i b hb
      simp only [Option.map_eq_some_iff] at hv
      obtain ⟨v, hv, rfl⟩ := hv
      have h1 := ev_sound ht hb
      simp only [V] at h1
      have hexec : execOp a.eval o = (do let v ← (pure (if b then a.eval x else a.eval y) : Sem Value); pure (.value v)) := by
        simp only [execOp, ho, h1, asBool]
        rfl
      refine wp_val _ hexec rfl (hq _ _ (Good.here h ?_))
      cases b
      · exact ev_sound ht hv
      · exact ev_sound ht hv
    · cases hv
  · -- alloc
    rename_i t ho
    simp only [valOf, Option.map_eq_some_iff] at hv
    obtain ⟨⟨v, H'⟩, hv, rfl⟩ := hv
    obtain ⟨x, w', hr, hg⟩ := allocA_sound h hv (.tuple #[])
    exact wp_val _ (by simp only [execOp, ho] <;> rfl) hr (hq _ _ hg)
  · -- box
    rename_i t x ho
    simp only [valOf, Option.bind_eq_some_iff, Option.map_eq_some_iff] at hv
    obtain ⟨u, hu, ⟨v, H'⟩, hv, rfl⟩ := hv
    obtain ⟨y, w', hr, hg⟩ := boxA_sound (P := C.P) (t := t) h (ev_sound ht hu) hv
    exact wp_val _ (by simp only [execOp, ho] <;> rfl) hr (hq _ _ hg)
  · -- build
    rename_i t ps ho
    simp only [Option.bind_eq_some_iff, Option.map_eq_some_iff] at hv
    obtain ⟨us, hu, v, hv, rfl⟩ := hv
    have hl := evL_length hu
    have hx := evL_sound ht hu
    obtain ⟨z1, z2, _⟩ := VL_zip (ns := ps.toList.map (·.1)) (us := us) (by simpa using hl.symm) hx
    obtain ⟨y, hr, hg⟩ := buildA_sound (P := C.P) h (vs := ps.map fun (i, x) => (i, a.eval x)) hv (by rw [z2]; simp) (by rw [z1]; simpa [List.map_map, Function.comp_def] using hx)
    exact wp_val _ (by simp only [execOp, ho] <;> rfl) hr (hq _ _ (Good.here h hg))
  · -- buildSlice
    rename_i t m ps ho
    simp only [valOf, Option.bind_eq_some_iff, Option.map_eq_some_iff] at hv
    obtain ⟨us, hu, ⟨v, H'⟩, hv, rfl⟩ := hv
    have hl := evL_length hu
    have hx := evL_sound ht hu
    obtain ⟨z1, z2, _⟩ := VL_zip (ns := ps.toList.map (·.1)) (us := us) (by simpa using hl.symm) hx
    obtain ⟨y, w', hr, hg⟩ := buildSliceA_sound (P := C.P) h (vs := ps.map fun (i, x) => (i, a.eval x)) hv (by rw [z2]; simp) (by rw [z1]; simpa [List.map_map, Function.comp_def] using hx)
    exact wp_val _ (by simp only [execOp, ho] <;> rfl) hr (hq _ _ hg)
  · -- load
    rename_i t x ho
    simp only [Option.bind_eq_some_iff, Option.map_eq_some_iff] at hv
    obtain ⟨u, hu, v, hv, rfl⟩ := hv
    obtain ⟨y, hr, hg⟩ := loadA_sound h (ev_sound ht hu) hv
    exact wp_val _ (by simp only [execOp, ho] <;> rfl) hr (hq _ _ (Good.here h hg))
  · -- store
    rename_i t x y ho
    split at hv
    · rename_i u v hu hy
      simp only [Option.map_eq_some_iff] at hv
      obtain ⟨H', hv, rfl⟩ := hv
      obtain ⟨w', hr, h1, h2⟩ := storeA_sound (P := C.P) h (ev_sound ht hu) (ev_sound ht hy) hv
      exact wp_unit _ (by simp only [execOp, ho] <;> rfl) hr (hq _ h1 h2)
    · cases hv
  · -- nilCheck
    rename_i x ho
    split at hv
    · rename_i b g i off hx
      cases hv
      have hx := ev_sound ht hx
      have hx' := hx
      simp only [V] at hx'
      obtain ⟨l, ad, _, _, hz, _⟩ := hx'
      exact wp_val (pure (a.eval x)) (by simp only [execOp, ho, hz] <;> rfl) rfl (hq _ _ (Good.here h hx))
    · rename_i r off hx
      cases hv
      have hx := ev_sound ht hx
      have hx' := hx
      simp only [V] at hx'
      obtain ⟨B, oo, hz, _⟩ := hx'
      exact wp_val (pure (a.eval x)) (by simp only [execOp, ho, hz] <;> rfl) rfl (hq _ _ (Good.here h hx))
    · rename_i f cs hx
      cases hv
      have hx := ev_sound ht hx
      have hx' := hx
      simp only [V] at hx'
      obtain ⟨vs, hz, _⟩ := hx'
      exact wp_val (pure (a.eval x)) (by simp only [execOp, ho, hz] <;> rfl) rfl (hq _ _ (Good.here h hx))
    · cases hv
  · -- binOp
    rename_i op t x y k ho
    split at hv
    · rename_i u v hu hy
      simp only [Option.map_eq_some_iff] at hv
      obtain ⟨z, hv, rfl⟩ := hv
      obtain ⟨r, hr, hz⟩ := binA_sound (w := w) (P := C.P) (ev_sound ht hu) (ev_sound ht hy) t x y hv
      exact wp_val _ (by simp only [execOp, ho] <;> rfl) hr (hq _ _ (Good.here h hz))
    · cases hv
  · -- unOp
    rename_i op k x ho
    simp only [Option.bind_eq_some_iff, Option.map_eq_some_iff] at hv
    obtain ⟨z, ⟨v, ⟨u, hu, hc1⟩, r, hr, rfl⟩, rfl⟩ := hv
    have hz := V_conc hc1 (ev_sound ht hu)
    exact wp_val _ (by simp only [execOp, ho, hz] <;> rfl) (pureRun_run C.P _ _ hr w) (hq _ _ (Good.here h (V_absV E r)))
  · -- convert
    rename_i s d x ho
    simp only [Option.bind_eq_some_iff, Option.map_eq_some_iff] at hv
    obtain ⟨u, hu, v, hv, rfl⟩ := hv
    obtain ⟨y, w', hr, hg⟩ := convert_sound h (ev_sound ht hu) hv
    exact wp_val _ (by simp only [execOp, ho] <;> rfl) hr (hq _ _ hg)
  · -- makeInterface
    rename_i t x ho
    split at hv
    · cases hv
    · cases hv
    · rename_i hn1 hn2
      simp only [Option.map_eq_some_iff] at hv
      obtain ⟨v, ⟨u, hu, rfl⟩, rfl⟩ := hv
      have hr : (Instr.makeInterface t (a.eval x)).run C.P w = .ok (.iface t (a.eval x)) w := by
        cases ht' : C.P.underlying t with
        | none => exact absurd ht' hn2
        | some d =>
          unfold Instr.makeInterface
          rw [Sem.run_bind, run_underlying ht', Result.andThen_ok]
          cases d <;> first | rfl | exact absurd ht' (hn1 _)
      exact wp_val _ (by simp only [execOp, ho] <;> rfl) hr (hq _ _ (Good.here h (by simp only [V]; exact ⟨_, rfl, ev_sound ht hu⟩)))
  · -- makeFunc
    rename_i f fs cs ho
    split at hv
    · rename_i hfs
      simp only [Option.bind_eq_some_iff, Option.map_eq_some_iff] at hv
      obtain ⟨us, hu, r1, hv, rfl⟩ := hv
      have hg := capOf_sound h (evL_sound ht hu) hv
      have hfe : fs = #[] := Array.eq_empty_of_size_eq_zero hfs
      refine wp_val (pure (.func (.func f) #[] (cs.toList.map a.eval).toArray)) ?_ rfl (hq _ _ hg)
      have hca : (cs.toList.map a.eval).toArray = cs.map a.eval := by rw [← Array.toList_map]
      simp only [execOp, ho, Instr.makeFunc, hfe, hca, Array.map_empty]
    · cases hv
  · -- makeMap
    rename_i t ho
    simp only [valOf, Option.map_eq_some_iff] at hv
    obtain ⟨r1, ⟨⟨b, H'⟩, hv, rfl⟩, rfl⟩ := hv
    obtain ⟨h1, h2⟩ := h.lay hv (o := .map #[] 0) (w' := w.alloc (.map #[] 0)) rfl
      (l := { live := true, g := 0, B := w.heap.size, o := 0, K := 0, size := 0 }) rfl rfl (fun im' him hle ho => ⟨_, #[], rfl, rfl, rfl, ho, rfl⟩)
    have hr : (Instr.makeMap t none).run C.P w = .ok (.map (some w.heap.size)) (w.alloc (.map #[] 0)) := by simp [Instr.makeMap]
    refine wp_val _ (by simp only [execOp, ho] <;> rfl) hr (hq _ _ ⟨_, h1, h2, ?_⟩)
    simp only [V]
    exact ⟨_, _, upd_same _ _ _, rfl, fun _ _ => rfl⟩
  · -- makeSlice
    rename_i t x y ho
    split at hv
    · rename_i u v hu hy
      simp only [valOf, Option.map_eq_some_iff] at hv
      obtain ⟨⟨z, H'⟩, hv, rfl⟩ := hv
      obtain ⟨r, w', hr, hg⟩ := makeSliceA_sound (P := C.P) h (ev_sound ht hu) (ev_sound ht hy) hv
      exact wp_val _ (by simp only [execOp, ho] <;> rfl) hr (hq _ _ hg)
    · cases hv
  · -- slice
    rename_i t x lo hi mx ho
    split at hv
    · rename_i u lo' hi' mx' hu h1 h2 h3
      simp only [valOf, Option.map_eq_some_iff] at hv
      obtain ⟨⟨z, H'⟩, hv, rfl⟩ := hv
      obtain ⟨r, w', hr, hg⟩ := sliceA_sound (P := C.P) h (ev_sound ht hu) (evO_sound ht h1) (evO_sound ht h2) (evO_sound ht h3) hv
      exact wp_val _ (by simp only [execOp, ho] <;> rfl) hr (hq _ _ hg)
    · cases hv
  · -- fieldAddr
    rename_i t x f ho
    simp only [Option.bind_eq_some_iff, Option.map_eq_some_iff] at hv
    obtain ⟨u, hu, v, hv, rfl⟩ := hv
    obtain ⟨y, hr, hg⟩ := fieldAddrA_sound (P := C.P) (ev_sound ht hu) hv
    exact wp_val _ (by simp only [execOp, ho] <;> rfl) hr (hq _ _ (Good.here h hg))
  · -- field
    rename_i t x f ho
    simp only [Option.bind_eq_some_iff, Option.map_eq_some_iff] at hv
    obtain ⟨u, hu, v, hv, rfl⟩ := hv
    obtain ⟨y, hr, hg⟩ := fieldA_sound (P := C.P) (ev_sound ht hu) hv
    exact wp_val _ (by simp only [execOp, ho] <;> rfl) hr (hq _ _ (Good.here h hg))
  · -- indexAddr
    rename_i t x i ho
    split at hv
    · rename_i u v hu hy
      simp only [Option.map_eq_some_iff] at hv
      obtain ⟨z, hv, rfl⟩ := hv
      obtain ⟨r, hr, hz⟩ := indexAddrA_sound (P := C.P) h (ev_sound ht hu) (ev_sound ht hy) hv
      exact wp_val _ (by simp only [execOp, ho] <;> rfl) hr (hq _ _ (Good.here h hz))
    · cases hv
  · -- index
    rename_i t x i ho
    split at hv
    · rename_i u v hu hy
      simp only [Option.bind_eq_some_iff] at hu hy
      obtain ⟨u', hu', hc1⟩ := hu
      obtain ⟨v', hv', hc2⟩ := hy
      simp only [Option.map_eq_some_iff] at hv
      obtain ⟨z, ⟨r, hr, rfl⟩, rfl⟩ := hv
      have e1 := V_conc hc1 (ev_sound ht hu')
      have e2 := V_conc hc2 (ev_sound ht hv')
      exact wp_val _ (by simp only [execOp, ho, e1, e2] <;> rfl) (pureRun_run C.P _ _ hr w) (hq _ _ (Good.here h (V_absV E r)))
    · cases hv
  · -- extract
    rename_i t i ho
    split at hv
    · rename_i vs hx
      simp only [Option.map_eq_some_iff] at hv
      obtain ⟨v, hv, rfl⟩ := hv
      have hx := ev_sound ht hx
      simp only [V] at hx
      obtain ⟨ws, hz, hl⟩ := hx
      obtain ⟨y, hy, hyv⟩ := VL_get hl hv
      have hy' : ws[i]? = some y := by simpa using hy
      have hr : (Instr.extract (a.eval t) i).run C.P w = .ok y w := by
        simp only [Instr.extract, hz, hy']
        rfl
      exact wp_val _ (by simp only [execOp, ho] <;> rfl) hr (hq _ _ (Good.here h hyv))
    · cases hv
  · -- append
    rename_i args tys ho
    split at hv
    · rename_i s x hu
      simp only [valOf, Option.map_eq_some_iff] at hv
      obtain ⟨⟨z, H'⟩, hv, rfl⟩ := hv
      obtain ⟨y1, y2, he, h1, h2⟩ := args2 (evL_sound ht hu)
      obtain ⟨r, w', hr, hg⟩ := appendA_sound (P := C.P) h h1 h2 hv o.type
      exact wp_val _ (by simp only [execOp, ho, resolve, invoke, builtin, he] <;> rfl) hr (hq _ _ hg)
    · cases hv
  · -- len
    rename_i args tys ho
    split at hv
    · rename_i x t hu h0
      simp only [Option.map_eq_some_iff] at hv
      obtain ⟨z, hv, rfl⟩ := hv
      obtain ⟨y1, he, h1⟩ := args1 (evL_sound ht hu)
      obtain ⟨r, hr, hg⟩ := lenA_sound (P := C.P) (ty := o.type) h h0 h1 hv
      exact wp_val _ (by simp only [execOp, ho, resolve, invoke, builtin, he] <;> rfl) hr (hq _ _ (Good.here h hg))
    · cases hv
  · -- max
    rename_i args tys ho
    split at hv
    · rename_i vs hu
      simp only [Option.bind_eq_some_iff] at hu
      obtain ⟨us, hu, hcc⟩ := hu
      simp only [Option.map_eq_some_iff] at hv
      obtain ⟨z, ⟨r, hr, rfl⟩, rfl⟩ := hv
      have he := argsC hcc (evL_sound ht hu)
      exact wp_val (Builtin.max_ tys o.type vs.toArray) (by simp only [execOp, ho, resolve, invoke, builtin, he] <;> rfl) (pureRun_run C.P _ _ hr w) (hq _ _ (Good.here h (V_absV E r)))
    · cases hv
  · -- min
    rename_i args tys ho
    split at hv
    · rename_i vs hu
      simp only [Option.bind_eq_some_iff] at hu
      obtain ⟨us, hu, hcc⟩ := hu
      simp only [Option.map_eq_some_iff] at hv
      obtain ⟨z, ⟨r, hr, rfl⟩, rfl⟩ := hv
      have he := argsC hcc (evL_sound ht hu)
      exact wp_val (Builtin.min_ tys o.type vs.toArray) (by simp only [execOp, ho, resolve, invoke, builtin, he] <;> rfl) (pureRun_run C.P _ _ hr w) (hq _ _ (Good.here h (V_absV E r)))
    · cases hv
  · -- a call
    rename_i f args tys ho
    split at hv
    · rename_i g cs us hf hu
      have hf := ev_sound ht hf
      have hu := evL_sound ht hu
      simp only [V] at hf
      obtain ⟨vs, hz, hl⟩ := hf
      refine wp_callA hc hp hname h (VL_append hu hl) hv ?_ hq
      have he : (args.toList.map a.eval ++ vs.toList).toArray = args.map a.eval ++ vs := by
        apply Array.toList_inj.1
        simp
      simp only [execOp, ho, resolve, hz, Deferred.ofValue, he]
      simp [invoke]
    · rename_i g fs cs us hf hu
      split at hv
      · rename_i hse
        have hf := ev_sound ht hf
        have hu := evL_sound ht hu
        simp only [V] at hf
        refine wp_callA hc hp hname h hu hv ?_ hq
        have h1 : fs = #[] := Array.eq_empty_of_size_eq_zero hse.1
        have h2 : cs = #[] := Array.eq_empty_of_size_eq_zero hse.2
        have he : (args.toList.map a.eval).toArray = args.map a.eval := by
          apply Array.toList_inj.1
          simp
        simp only [execOp, ho, resolve, hf, Deferred.ofValue, he, h1, h2]
        simp [invoke]
      · cases hv
    · cases hv
  · -- delete
    rename_i args tys ho
    split at hv
    · rename_i m k t hu h0
      simp only [Option.map_eq_some_iff] at hv
      obtain ⟨z, hv, rfl⟩ := hv
      obtain ⟨y1, y2, he, h1, h2⟩ := args2 (evL_sound ht hu)
      obtain ⟨w', hr, hg, hs⟩ := deleteA_sound (P := C.P) (ty := o.type) h h0 h1 h2 hv
      exact wp_val _ (by simp only [execOp, ho, resolve, invoke, builtin, he] <;> rfl) hr (hq _ _ ⟨_, hg, hs, by simp [V, unit]⟩)
    · cases hv
  · -- clear
    rename_i args tys ho
    split at hv
    · rename_i m t hu h0
      simp only [Option.map_eq_some_iff] at hv
      obtain ⟨z, hv, rfl⟩ := hv
      obtain ⟨y1, he, h1⟩ := args1 (evL_sound ht hu)
      obtain ⟨w', hr, hg, hs⟩ := clearA_sound (P := C.P) (ty := o.type) h h0 h1 hv
      exact wp_val _ (by simp only [execOp, ho, resolve, invoke, builtin, he] <;> rfl) hr (hq _ _ ⟨_, hg, hs, by simp [V, unit]⟩)
    · cases hv
  · -- range
    rename_i t x ho
    simp only [valOf, Option.bind_eq_some_iff, Option.map_eq_some_iff] at hv
    obtain ⟨u, hu, ⟨v, H'⟩, hv, rfl⟩ := hv
    obtain ⟨y, w', hr, hg⟩ := rangeA_sound (P := C.P) h (ev_sound ht hu) hv
    exact wp_val _ (by simp only [execOp, ho] <;> rfl) hr (hq _ _ hg)
  · -- next
    rename_i x str ho
    simp only [valOf, Option.bind_eq_some_iff, Option.map_eq_some_iff] at hv
    obtain ⟨u, hu, ⟨v, H'⟩, hv, rfl⟩ := hv
    obtain ⟨y, w', hr, hg⟩ := nextA_sound (P := C.P) (ty := o.type) h (ev_sound ht hu) hv
    exact wp_val _ (by simp only [execOp, ho] <;> rfl) hr (hq _ _ hg)
  · -- lookup
    rename_i t x i ok ho
    split at hv
    · rename_i u v hu hy
      simp only [Option.map_eq_some_iff] at hv
      obtain ⟨z, hv, rfl⟩ := hv
      obtain ⟨r, hr, hz⟩ := lookupA_sound (P := C.P) h (ev_sound ht hu) (ev_sound ht hy) hv
      exact wp_val _ (by simp only [execOp, ho] <;> rfl) hr (hq _ _ (Good.here h hz))
    · cases hv
  · -- mapUpdate
    rename_i t m k x ho
    split at hv
    · rename_i u v y hu hk hy
      simp only [Option.map_eq_some_iff] at hv
      obtain ⟨H', hv, rfl⟩ := hv
      obtain ⟨w', hr, h1, h2⟩ := mapUpdateA_sound (P := C.P) h (ev_sound ht hu) (ev_sound ht hk) (ev_sound ht hy) hv
      exact wp_unit _ (by simp only [execOp, ho] <;> rfl) hr (hq _ h1 h2)
    · cases hv
  · -- insert
    rename_i t m k x ho
    split at hv
    · rename_i u v y hu hk hy
      simp only [Option.map_eq_some_iff] at hv
      obtain ⟨H', hv, rfl⟩ := hv
      obtain ⟨w', hr, h1, h2⟩ := mapUpdateA_sound (P := C.P) h (ev_sound ht hu) (ev_sound ht hk) (ev_sound ht hy) hv
      exact wp_unit _ (by simp only [execOp, ho] <;> rfl) hr (hq _ h1 h2)
    · cases hv
  · -- defer
    rename_i f args tys ho
    split at hv
    · rename_i g cs hf
      split at hv
      · rename_i hse
        cases hv
        have hf := ev_sound ht hf
        simp only [V] at hf
        obtain ⟨vs, hz, hl⟩ := hf
        have h1 : args = #[] := Array.eq_empty_of_size_eq_zero hse
        have := hq vs.toList hl
        unfold Oper.wp
        have hrun : (execOp a.eval o).run C.P w = .ok (.defer { target := .fn (.func g) vs, args := #[] }) w := by
          simp only [execOp, ho, resolve, hz, Deferred.ofValue, h1, Array.map_empty, Array.append_empty]
          rfl
        rw [hrun]
        simpa [Oper.upon] using this
      · cases hv
    · cases hv
  · -- panic
    rename_i x ho
    split at hv
    · rename_i t v hx
      cases hv
      have hx := ev_sound ht hx
      have hx' := hx
      simp only [V] at hx'
      obtain ⟨y, hz, hy⟩ := hx'
      unfold Oper.wp
      have hrun : (execOp a.eval o).run C.P w = .halt (.panic (a.eval x)) w := by
        simp only [execOp, ho, hz]
        rfl
      rw [hrun]
      simp only [Oper.upon]
      exact hq _ _ (Good.here h hx)
    · cases hv
  · cases hv

end
end Go.Ai

/-
  A REGION IN THE TEXT'S ORDER.
-/
set_option linter.unusedVariables false
set_option linter.unusedSimpArgs false
namespace Go.Ai
section
variable {P : Program} {X : Nat → Nat → Prop} {E E' E0 : Env} {H H0 : List Blk} {w w0 : World} {im : Nat → Nat → Prop}

def DRel (im : Nat → Nat → Prop) (w : World) (E : Env) : List (FuncId × List AV) → List Deferred → Prop
  | [], l => l = []
  | d :: ds, l => ∃ vs r, l = { target := .fn (.func d.1) vs, args := #[] } :: r ∧ VL im w d.2 E vs.toList ∧ DRel im w E ds r

theorem DRel.mono {im' : Nat → Nat → Prop} {w' : World} (hi : ∀ B o, im B o → im' B o ∧ w'.cell? ⟨B, o, none⟩ = w.cell? ⟨B, o, none⟩) (he : Le E E') :
    ∀ {ds : List (FuncId × List AV)} {l : List Deferred}, DRel im w E ds l → DRel im' w' E' ds l
  | [], l, h => h
  | d :: ds, l, h => by
    obtain ⟨vs, r, h1, h2, h3⟩ := h
    exact ⟨vs, r, h1, VL_mono hi _ he h2, DRel.mono hi he h3⟩

/-- The machine's state as an abstract one, a way behind a first. -/
def SR (X : Nat → Nat → Prop) (E0 : Env) (H0 : List Blk) (w0 : World) (st : St) (pv : AV) (a : Act) (w : World) (px : Value) : Prop :=
  ∃ E, HRel X E st.heap w ∧ Step X E0 H0 w0 E st.heap w ∧ TRel (Im X E st.heap w) w E st.n st.tmps a ∧ DRel (Im X E st.heap w) w E st.defers a.defers ∧
    V (Im X E st.heap w) w pv E px

def Post (X : Nat → Nat → Prop) (E0 : Env) (H0 : List Blk) (w0 : World) (r : Ex × St) (e : Exit) (a : Act) (w : World) : Prop :=
  match r.1 with
  | .normal => e = .normal ∧ SR X E0 H0 w0 r.2 .undef a w Go.undef
  | .exit id => e = .exit id ∧ SR X E0 H0 w0 r.2 .undef a w Go.undef
  | .ret => e = .ret ∧ SR X E0 H0 w0 r.2 .undef a w Go.undef
  | .pan v => ∃ x, e = .panic [{ v := x, recovered := false }] ∧ SR X E0 H0 w0 r.2 v a w x

/-- Slots outside W are as they were. -/
def Fr (W : List Nat) (a a' : Act) : Prop := ∀ t, t ∉ W → a'.tmps.getD t Go.undef = a.tmps.getD t Go.undef

theorem Fr.refl {W : List Nat} {a : Act} : Fr W a a := fun _ _ => rfl
theorem Fr.trans {W : List Nat} {a a' a'' : Act} (h : Fr W a a') (h' : Fr W a' a'') : Fr W a a'' := fun t ht => (h' t ht).trans (h t ht)
theorem Fr.put {W : List Nat} {a : Act} {d : Option Tmp} {v : Value} (h : ∀ t, d = some t → t ∈ W) : Fr W a (a.put d v) := by
  intro t ht
  cases d with
  | none => rfl
  | some d =>
    have hne : d ≠ t := by rintro rfl; exact ht (h d rfl)
    simp only [Act.put, Array.getD_eq_getD_getElem?]
    rw [Array.getElem?_setIfInBounds_ne hne]
theorem Fr.sub {W W' : List Nat} {a a' : Act} (h : Fr W a a') (hs : ∀ t ∈ W, t ∈ W') : Fr W' a a' := fun t ht => h t fun hm => ht (hs t hm)

theorem put_defers' (a : Act) (d : Option Tmp) (v : Value) : (a.put d v).defers = a.defers := by cases d <;> rfl

/-- A result is put, a way ahead. -/
theorem SR.put {st : St} {a : Act} {x : Value} {w' : World} {d : Option Tmp} {v : AV} {t : Tm} {H' : List Blk} (h : HRel X E st.heap w) (hs : Step X E0 H0 w0 E st.heap w)
    (ht : TRel (Im X E st.heap w) w E st.n st.tmps a) (hd : DRel (Im X E st.heap w) w E st.defers a.defers) (hp : putA st.n st.tmps d v = some t) (h' : HRel X E' H' w') (hs' : Step X E st.heap w E' H' w')
    (hv : V (Im X E' H' w') w' v E' x) : SR X E0 H0 w0 ⟨st.n, t, H', st.defers⟩ .undef (a.put d x) w' Go.undef :=
  ⟨E', h', hs.trans hs', (ht.mono hs'.im hs'.le).put hp hv, by rw [put_defers']; exact hd.mono hs'.im hs'.le, by simp [V]⟩

theorem wanted_sound {ops : Array Oper} {o : Oper} {n : Nat} {tmps : Tm} {a : Act} {b : Bool} (ht : TRel im w E n tmps a) (h : wantedA ops tmps o = some b) : Region.wanted o (yielded ops a.tmps) = b := by
  unfold wantedA at h
  unfold Region.wanted
  split at h
  · rename_i hg
    cases h
    simp [hg]
  · rename_i j want hg
    simp only [hg]
    split at h
    · rename_i hd
      cases h
      simp [yielded, hd]
    · rename_i d hd
      have hv := ht.2 d
      split at h
      · rename_i c hc
        cases h
        rw [hc] at hv
        simp only [V] at hv
        have : a.tmps[d]? = some (.bool c) := by
          rw [Array.getD_eq_getD_getElem?] at hv
          cases hq : a.tmps[d]? with
          | none => rw [hq] at hv; cases hv
          | some x => rw [hq] at hv; simpa using hv
        simp [yielded, hd, this]
      · rename_i c hc
        cases h
        rw [hc] at hv
        simp only [V] at hv
        rw [Array.getD_eq_getD_getElem?] at hv
        cases hq : a.tmps[d]? with
        | none => simp [yielded, hd, hq]
        | some x => rw [hq] at hv; simp at hv; subst hv; simp [yielded, hd, hq]
      · cases h

theorem unit_ok : V im w unit E Go.undef := by simp only [unit, V]; rfl

theorem runList_sound {C : Ctx} {call : CallT} (hc : CallOK C.P call) (hp : ∀ f F, C.prims f = some F → PrimOK C.P f F)
    (hname : ∀ (f : FuncId) (fn : Func), C.P.funcs[f]? = some fn → fn.name ≠ "runtime.NumGoroutine") {ops : Array Oper} {W : List Nat}
    (hW : ∀ (i : Nat) (o : Oper) (d : Tmp), ops[i]? = some o → o.dst = some d → d ∈ W) {a0 : Act} :
    ∀ (l : List Nat) (st : St) (r : Ex × St), runList C call ops l st = some r → ∀ (a : Act) (w : World), SR X E0 H0 w0 st .undef a w Go.undef → Fr W a0 a →
      wpOps C.P ops (fun e a' w' => Post X E0 H0 w0 r e a' w' ∧ Fr W a0 a') l a w
  | [], st, r, hr, a, w, hs, hf => by
    simp only [runList, Option.some.injEq] at hr
    subst hr
    exact ⟨⟨rfl, hs⟩, hf⟩
  | i :: rest, st, r, hr, a, w, hs, hf => by
    obtain ⟨E, h, hst, ht, hd, hu⟩ := hs
    simp only [runList] at hr
    simp only [wpOps]
    split at hr
    · rename_i ho
      simp only [ho]
      exact runList_sound hc hp hname hW rest st r hr a w ⟨E, h, hst, ht, hd, hu⟩ hf
    · rename_i o ho
      simp only [ho]
      have hput : ∀ (x : Value), Fr W a0 (a.put o.dst x) := fun x => hf.trans (Fr.put fun t e => hW i o t ho e)
      split at hr
      · rename_i hw
        rw [wanted_sound ht hw]
        simp only [if_true]
        left
        split at hr
        · rename_i v H' he
          rw [seqV_eq] at hr
          split at hr
          · rename_i t hpt
            rw [seqL_eq] at hr
            refine evalOp_sound hc hp hname h ht he ?_
            rintro x w' ⟨E', h', hs', hv⟩
            exact runList_sound hc hp hname hW rest _ r hr _ _ (SR.put h hst ht hd hpt h' hs' hv) (hput x)
          · cases hr
        · rename_i H' he
          split at hr
          · rename_i t hpt
            rw [seqL_eq] at hr
            refine evalOp_sound hc hp hname h ht he ?_
            rintro w' h' hs'
            exact runList_sound hc hp hname hW rest _ r hr _ _ (SR.put h hst ht hd hpt h' hs' unit_ok) (hput _)
          · cases hr
        · rename_i f cs he
          split at hr
          · rename_i t hpt
            refine evalOp_sound hc hp hname h ht he ?_
            intro vs hvs
            refine runList_sound hc hp hname hW rest _ r hr _ _ ⟨E, h, hst, ?_, ?_, by simp [V]⟩ ?_
            · have ht' : TRel (Im X E st.heap w) w E st.n st.tmps ({ a with defers := { target := .fn (.func f) vs.toArray, args := #[] } :: a.defers } : Act) := ht
              exact ht'.put hpt unit_ok
            · rw [put_defers']
              exact ⟨vs.toArray, a.defers, rfl, by simpa using hvs, hd⟩
            · have hf' : Fr W a0 ({ a with defers := { target := .fn (.func f) vs.toArray, args := #[] } :: a.defers } : Act) := hf
              exact hf'.trans (Fr.put fun t e => hW i o t ho e)
          · cases hr
        · rename_i v H' he
          cases hr
          refine evalOp_sound hc hp hname h ht he ?_
          rintro x w' ⟨E', h', hs', hv⟩
          exact ⟨⟨x, rfl, E', h', hst.trans hs', ht.mono hs'.im hs'.le, hd.mono hs'.im hs'.le, hv⟩, hf⟩
        · cases hr
      · rename_i hw
        rw [wanted_sound ht hw]
        simp only [Bool.false_eq_true, if_false]
        split at hr
        · rename_i t hpt
          exact runList_sound hc hp hname hW rest _ r hr _ _ (SR.put h hst ht hd hpt h Step.refl unit_ok) (hput _)
        · cases hr
      · cases hr

end
end Go.Ai

/-
  WHAT AN OPERATION'S ABSTRACT RESULT HANGS ON: its operands, and the blocks they name.
-/
set_option linter.unusedVariables false
set_option linter.unusedSimpArgs false
namespace Go.Ai

/-- Two blocks alike, but for what is told of later writes. -/
def sameB (k k' : Option Blk) : Prop := k' = k ∨ ∃ size g es fz fz', k = some (.cells size g es fz) ∧ k' = some (.cells size g es fz')

theorem sameB.refl (k : Option Blk) : sameB k k := .inl rfl
theorem sameB.symm {k k' : Option Blk} (h : sameB k k') : sameB k' k := by
  rcases h with h | ⟨s, g, es, fz, fz', h1, h2⟩
  · exact .inl h.symm
  · exact .inr ⟨s, g, es, fz', fz, h2, h1⟩
theorem sameB.trans {k k' k'' : Option Blk} (h : sameB k k') (h' : sameB k' k'') : sameB k k'' := by
  rcases h with h | ⟨s, g, es, fz, fz', h1, h2⟩
  · subst h; exact h'
  · rcases h' with h' | ⟨s', g', es', f, f', h3, h4⟩
    · subst h'; exact .inr ⟨s, g, es, fz, fz', h1, h2⟩
    · rw [h2] at h3
      cases h3
      exact .inr ⟨s, g, es, fz, f', h1, h4⟩
theorem sameB.cells {k k' : Option Blk} (h : sameB k k') {size g : Nat} {es : List (List AV)} {fz : Bool} (hk : k = some (.cells size g es fz)) : ∃ fz', k' = some (.cells size g es fz') := by
  rcases h with h | ⟨s, g', es', f, f', h1, h2⟩
  · exact ⟨fz, h.trans hk⟩
  · rw [hk] at h1; cases h1; exact ⟨f', h2⟩
theorem sameB.map {k k' : Option Blk} (h : sameB k k') {es : List (Value × AV × Nat)} {c : Nat} (hk : k = some (.map es c)) : k' = some (.map es c) := by
  rcases h with h | ⟨s, g', es', f, f', h1, h2⟩
  · exact h.trans hk
  · rw [hk] at h1; cases h1

theorem evL_congr {tmps tmps' : Tm} : ∀ {xs : List Operand}, (∀ x ∈ xs, ev tmps x = ev tmps' x) → evL tmps xs = evL tmps' xs
  | [], _ => rfl
  | x :: xs, h => by
    simp only [evL]
    rw [h x (by simp), evL_congr (xs := xs) fun y hy => h y (by simp [hy])]

theorem evO_congr {tmps tmps' : Tm} {x : Option Operand} (h : ∀ y ∈ x, ev tmps y = ev tmps' y) : x.mapM (ev tmps) = x.mapM (ev tmps') := by
  cases x with
  | none => rfl
  | some x => simp only [Option.mapM_some, h x (by simp)]

theorem evalOp_congr {C : Ctx} {call : CallT} {tmps tmps' : Tm} {H : List Blk} {o : Oper} (h : ∀ x ∈ o.op.operands.toList, ev tmps x = ev tmps' x) :
    evalOp C call none tmps H o = evalOp C call none tmps' H o := by
  obtain ⟨dst, op, ty, pos, after, guard⟩ := o
  simp only at h
  cases op
  case call c =>
    obtain ⟨cal, args, tys⟩ := c
    simp only [Op.operands, Call.operands] at h
    cases cal with
    | value f =>
      have h1 : ev tmps f = ev tmps' f := h f (by simp)
      have h2 : evL tmps args.toList = evL tmps' args.toList := evL_congr fun y hy => h y (by simp; simp at hy; simp [hy])
      simp only [evalOp, h1, h2]
    | invoke r m => rfl
    | builtin b =>
      have h2 : evL tmps args.toList = evL tmps' args.toList := evL_congr fun y hy => h y (by simpa using hy)
      cases b <;> simp only [evalOp, h2]
  case defer c =>
    obtain ⟨cal, args, tys⟩ := c
    simp only [Op.operands, Call.operands] at h
    cases cal with
    | value f =>
      have h1 : ev tmps f = ev tmps' f := h f (by simp)
      simp only [evalOp, h1]
    | invoke r m => rfl
    | builtin b => rfl
  case build t ps =>
    simp only [Op.operands] at h
    have h2 : evL tmps (ps.toList.map (·.2)) = evL tmps' (ps.toList.map (·.2)) := evL_congr fun y hy => h y (by simpa using hy)
    simp only [evalOp, h2]
  case buildSlice t n ps =>
    simp only [Op.operands] at h
    have h2 : evL tmps (ps.toList.map (·.2)) = evL tmps' (ps.toList.map (·.2)) := evL_congr fun y hy => h y (by simpa using hy)
    simp only [evalOp, h2]
  case makeFunc fn fs cs =>
    simp only [Op.operands] at h
    have h2 : evL tmps cs.toList = evL tmps' cs.toList := evL_congr fun y hy => h y (by simp; right; simpa using hy)
    cases fn <;> simp only [evalOp, h2]
  case slice t x lo hi mx =>
    simp only [Op.operands] at h
    have h1 : ev tmps x = ev tmps' x := h x (by simp)
    have h2 : lo.mapM (ev tmps) = lo.mapM (ev tmps') := evO_congr fun y hy => h y (by simp_all)
    have h3 : hi.mapM (ev tmps) = hi.mapM (ev tmps') := evO_congr fun y hy => h y (by simp_all)
    have h4 : mx.mapM (ev tmps) = mx.mapM (ev tmps') := evO_congr fun y hy => h y (by simp_all)
    simp only [evalOp, h1, h2, h3, h4]
  case makeMap t r => cases r <;> simp only [evalOp]
  all_goals first
    | rfl
    | (simp only [Op.operands, List.mem_cons, List.not_mem_nil, or_false, forall_eq_or_imp, forall_eq] at h; simp only [evalOp, h])

/-! ### what looks at no memory -/

theorem pure1_spec {e : Option AV} {H H1 : List Blk} {v : AV} (h : e.map (fun v => ORes.val v H) = some (.val v H1)) : H1 = H ∧ e = some v := by
  cases e with
  | none => cases h
  | some u => simp only [Option.map_some, Option.some.injEq, ORes.val.injEq] at h; exact ⟨h.2.symm, by rw [h.1]⟩

theorem evalOp_pure {C : Ctx} {call : CallT} {tmps : Tm} {H H1 : List Blk} {o : Oper} {v : AV} (hk : kindOf o.op = .pure) (h : evalOp C call none tmps H o = some (.val v H1)) :
    H1 = H ∧ ∀ H2, evalOp C call none tmps H2 o = some (.val v H2) := by
  obtain ⟨dst, op, ty, pos, after, guard⟩ := o
  simp only at hk
  cases op
  case call c =>
    obtain ⟨cal, args, tys⟩ := c
    cases cal with
    | value f => simp only [kindOf] at hk; cases hk
    | invoke r m => simp only [kindOf] at hk; cases hk
    | builtin b =>
      cases b <;> simp only [kindOf] at hk <;> try cases hk
      all_goals
        simp only [evalOp] at h ⊢
        split at h
        · rename_i vs hvs
          obtain ⟨rfl, he⟩ := pure1_spec h
          exact ⟨rfl, fun H2 => by simp only [hvs, he, Option.map_some]⟩
        · cases h
  case pick c a b =>
    simp only [evalOp] at h ⊢
    split at h
    · rename_i t ht
      obtain ⟨rfl, he⟩ := pure1_spec h
      exact ⟨rfl, fun H2 => by simp only [ht, he, Option.map_some]⟩
    · cases h
  case build t ps =>
    simp only [evalOp, Option.bind_eq_some_iff] at h ⊢
    obtain ⟨us, hu, h⟩ := h
    obtain ⟨rfl, he⟩ := pure1_spec h
    exact ⟨rfl, fun H2 => ⟨us, hu, by simp only [he, Option.map_some]⟩⟩
  case nilCheck x =>
    simp only [evalOp] at h ⊢
    split at h
    · rename_i hx
      obtain ⟨rfl, he⟩ := pure1_spec h
      exact ⟨rfl, fun H2 => by simp only [hx, he, Option.map_some]⟩
    · rename_i hx
      obtain ⟨rfl, he⟩ := pure1_spec h
      exact ⟨rfl, fun H2 => by simp only [hx, he, Option.map_some]⟩
    · rename_i hx
      obtain ⟨rfl, he⟩ := pure1_spec h
      exact ⟨rfl, fun H2 => by simp only [hx, he, Option.map_some]⟩
    · cases h
  case binOp op t x y k =>
    simp only [evalOp] at h ⊢
    split at h
    · rename_i a b ha hb
      obtain ⟨rfl, he⟩ := pure1_spec h
      exact ⟨rfl, fun H2 => by simp only [ha, hb, he, Option.map_some]⟩
    · cases h
  case index t x y =>
    simp only [evalOp] at h ⊢
    split at h
    · rename_i a b ha hb
      obtain ⟨rfl, he⟩ := pure1_spec h
      exact ⟨rfl, fun H2 => by simp only [ha, hb, he, Option.map_some]⟩
    · cases h
  case makeInterface t x =>
    simp only [evalOp] at h ⊢
    split at h
    · cases h
    · cases h
    · obtain ⟨rfl, he⟩ := pure1_spec h
      refine ⟨rfl, fun H2 => ?_⟩
      simp only [he, Option.map_some]
  case extract t i =>
    simp only [evalOp] at h ⊢
    split at h
    · rename_i a ha
      obtain ⟨rfl, he⟩ := pure1_spec h
      exact ⟨rfl, fun H2 => by simp only [ha, he, Option.map_some]⟩
    · cases h
  case unOp op k x =>
    simp only [evalOp] at h ⊢
    obtain ⟨rfl, he⟩ := pure1_spec h
    exact ⟨rfl, fun H2 => by simp only [he, Option.map_some]⟩
  case fieldAddr s x f =>
    simp only [evalOp, Option.bind_eq_some_iff] at h ⊢
    obtain ⟨us, hu, h⟩ := h
    obtain ⟨rfl, he⟩ := pure1_spec h
    exact ⟨rfl, fun H2 => ⟨us, hu, by simp only [he, Option.map_some]⟩⟩
  case field s x f =>
    simp only [evalOp, Option.bind_eq_some_iff] at h ⊢
    obtain ⟨us, hu, h⟩ := h
    obtain ⟨rfl, he⟩ := pure1_spec h
    exact ⟨rfl, fun H2 => ⟨us, hu, by simp only [he, Option.map_some]⟩⟩
  case move x =>
    simp only [evalOp] at h ⊢
    obtain ⟨rfl, he⟩ := pure1_spec h
    exact ⟨rfl, fun H2 => by simp only [he, Option.map_some]⟩
  case assign x =>
    simp only [evalOp] at h ⊢
    obtain ⟨rfl, he⟩ := pure1_spec h
    exact ⟨rfl, fun H2 => by simp only [he, Option.map_some]⟩
  all_goals (simp only [kindOf] at hk; cases hk)

/-! ### what looks at the blocks of its operands -/

def Alike (T : List Nat) (H H2 : List Blk) : Prop := ∀ b ∈ T, sameB H[b]? H2[b]?

theorem loadA_local {P : Program} {H H2 : List Blk} {t : TypeId} {a v : AV} (hs : Alike (refs 0 a) H H2) (h : loadA P H t a = some v) : loadA P H2 t a = some v := by
  unfold loadA at h ⊢
  split at h
  · rename_i b g i off
    split at h
    · rename_i size g' es fz hk
      obtain ⟨fz', hk'⟩ := (hs b (by simp [refs])).cells hk
      simp only [hk']
      exact h
    · cases h
  · exact h
  · cases h

theorem indexAddrA_local {P : Program} {H H2 : List Blk} {t : TypeId} {a ix v : AV} (hs : Alike (refs 0 a) H H2) (h : indexAddrA P H t a ix = some v) : indexAddrA P H2 t a ix = some v := by
  unfold indexAddrA at h ⊢
  split at h
  · rename_i k i
    split at h
    · cases h
    · rename_i hi
      simp only [hi, if_false]
      split at h
      · rename_i elem ht
        split at h
        · rename_i size hsz
          split at h
          · exact h
          · rename_i b g start len cap
            split at h
            · rename_i size g' es fz hk
              obtain ⟨fz', hk'⟩ := (hs b (by simp [refs])).cells hk
              simp only [hk', hsz]
              exact h
            · cases h
          · cases h
        · cases h
      · exact h
      · cases h
  · cases h

theorem elemsA_local {H H2 : List Blk} {size : Nat} {a : AV} {es : List (List AV)} (hs : Alike (refs 0 a) H H2) (h : elemsA H size a = some es) : elemsA H2 size a = some es := by
  unfold elemsA at h ⊢
  split at h
  · exact h
  · exact h
  · exact h
  · rename_i b g start len cap
    split at h
    · rename_i sz g' es' fz hk
      obtain ⟨fz', hk'⟩ := (hs b (by simp [refs])).cells hk
      simp only [hk']
      exact h
    · cases h
  · cases h

theorem convertA_local {P : Program} {H H2 : List Blk} {src dst : TypeId} {a v : AV} (hs : Alike (refs 0 a) H H2) (h : convertA P H src dst a = some v) : convertA P H2 src dst a = some v := by
  have key : ∀ {e : Option AV}, (match P.underlying src, P.underlying dst with
      | some (.slice e), some .string => match P.underlying e with
        | some (.int .u8) => ((elemsA H 1 a).bind bytesA).map fun l => AV.sc (.string ⟨l.toArray⟩)
        | _ => none
      | _, _ => none) = some v → (match P.underlying src, P.underlying dst with
      | some (.slice e), some .string => match P.underlying e with
        | some (.int .u8) => ((elemsA H2 1 a).bind bytesA).map fun l => AV.sc (.string ⟨l.toArray⟩)
        | _ => none
      | _, _ => none) = some v := by
    intro _ h
    split at h
    · split at h
      · rename_i hq
        simp only [Option.map_eq_some_iff, Option.bind_eq_some_iff] at h ⊢
        obtain ⟨l, ⟨es, he, hl⟩, hv⟩ := h
        exact ⟨l, ⟨es, elemsA_local hs he, hl⟩, hv⟩
      · cases h
    · cases h
  unfold convertA at h ⊢
  cases a with
  | sc x => cases x <;> exact h
  | ro s es c => exact key (e := none) h
  | sl b g s l c => exact key (e := none) h
  | _ => exact h

theorem lenA_local {P : Program} {H H2 : List Blk} {t : TypeId} {a v : AV} (hs : Alike (refs 0 a) H H2) (h : lenA P H t a = some v) : lenA P H2 t a = some v := by
  unfold lenA at h ⊢
  split at h
  · exact h
  · exact h
  · rename_i b ht
    split at h
    · rename_i es c hk
      have hk' := (hs b (by simp [refs])).map hk
      simp only [hk']
      exact h
    · cases h
  · exact h

theorem lookupA_local {P : Program} {H H2 : List Blk} {t : TypeId} {a ix v : AV} {ok : Bool} (hs : Alike (refs 0 a) H H2) (h : lookupA P H t a ix ok = some v) : lookupA P H2 t a ix ok = some v := by
  have he : ∀ es, entsA H a = some es → entsA H2 a = some es := by
    intro es he
    unfold entsA at he ⊢
    split at he
    · exact he
    · rename_i b
      split at he
      · rename_i es' c hk
        have hk' := (hs b (by simp [refs])).map hk
        simp only [hk']
        exact he
      · cases he
    · cases he
  unfold lookupA at h ⊢
  split at h
  · split at h
    · rename_i k es z hk hes hz
      simp only [hk, he es hes, hz]
      exact h
    · cases h
  · cases h

theorem evalOp_looks {C : Ctx} {call : CallT} {tmps : Tm} {H H1 : List Blk} {o : Oper} {v : AV} {us : List AV} (hk : kindOf o.op = .looks) (hu : evL tmps o.op.operands.toList = some us)
    (h : evalOp C call none tmps H o = some (.val v H1)) : H1 = H ∧ ∀ H2, Alike (refsL 0 us) H H2 → evalOp C call none tmps H2 o = some (.val v H2) := by
  obtain ⟨dst, op, ty, pos, after, guard⟩ := o
  simp only at hk hu
  cases op
  case call c =>
    obtain ⟨cal, args, tys⟩ := c
    cases cal with
    | value f => simp only [kindOf] at hk; cases hk
    | invoke r m => simp only [kindOf] at hk; cases hk
    | builtin b =>
      cases b <;> simp only [kindOf] at hk <;> try cases hk
      simp only [Op.operands, Call.operands] at hu
      simp only [evalOp] at h ⊢
      split at h
      · rename_i x t hx ht
        obtain ⟨rfl, he⟩ := pure1_spec h
        refine ⟨rfl, fun H2 hs => ?_⟩
        have : us = [x] := by
          have h2 : evL tmps args.toList = some us := by simpa using hu
          rw [hx] at h2
          cases h2
          rfl
        subst this
        simp only [hx, ht, lenA_local (fun b hb => hs b (by simpa [refsL] using hb)) he, Option.map_some]
      · cases h
  case load t x =>
    simp only [evalOp, Option.bind_eq_some_iff] at h ⊢
    obtain ⟨u, hx, h⟩ := h
    obtain ⟨rfl, he⟩ := pure1_spec h
    simp only [Op.operands, evL, hx] at hu
    cases hu
    exact ⟨rfl, fun H2 hs => ⟨u, hx, by simp only [loadA_local (fun b hb => hs b (by simpa [refsL] using hb)) he, Option.map_some]⟩⟩
  case convert s d x =>
    simp only [evalOp, Option.bind_eq_some_iff] at h ⊢
    obtain ⟨u, hx, h⟩ := h
    obtain ⟨rfl, he⟩ := pure1_spec h
    simp only [Op.operands, evL, hx] at hu
    cases hu
    exact ⟨rfl, fun H2 hs => ⟨u, hx, by simp only [convertA_local (fun b hb => hs b (by simpa [refsL] using hb)) he, Option.map_some]⟩⟩
  case indexAddr t x y =>
    simp only [evalOp] at h ⊢
    split at h
    · rename_i a b ha hb
      obtain ⟨rfl, he⟩ := pure1_spec h
      simp only [Op.operands, evL, ha, hb] at hu
      cases hu
      exact ⟨rfl, fun H2 hs => by simp only [ha, hb, indexAddrA_local (fun b hb => hs b (by simp [refsL, hb])) he, Option.map_some]⟩
    · cases h
  case lookup t x y ok =>
    simp only [evalOp] at h ⊢
    split at h
    · rename_i a b ha hb
      obtain ⟨rfl, he⟩ := pure1_spec h
      simp only [Op.operands, evL, ha, hb] at hu
      cases hu
      exact ⟨rfl, fun H2 hs => by simp only [ha, hb, lookupA_local (fun b hb => hs b (by simp [refsL, hb])) he, Option.map_some]⟩
    · cases h
  all_goals (simp only [kindOf] at hk; cases hk)

end Go.Ai

/-
  WHAT A MOVE LEAVES ALONE.
-/
set_option linter.unusedVariables false
set_option linter.unusedSimpArgs false
namespace Go.Ai

mutual
theorem frz_data {H : List Blk} : ∀ {c : AV}, isData c = true → frz H c = some c ∧ slIds c = []
  | .sc _, _ => ⟨rfl, rfl⟩
  | .rp .., _ => ⟨rfl, rfl⟩
  | .ro .., _ => ⟨rfl, rfl⟩
  | .agg cs, h => by
    simp only [isData] at h
    obtain ⟨h1, h2⟩ := frzL_data (H := H) h
    exact ⟨by simp only [frz, h1, Option.map_some], by simp only [slIds, h2]⟩
  | .tup cs, h => by
    simp only [isData] at h
    obtain ⟨h1, h2⟩ := frzL_data (H := H) h
    exact ⟨by simp only [frz, h1, Option.map_some], by simp only [slIds, h2]⟩
  | .fn f cs, h => by
    simp only [isData] at h
    obtain ⟨h1, h2⟩ := frzL_data (H := H) h
    exact ⟨by simp only [frz, h1, Option.map_some], by simp only [slIds, h2]⟩
  | .ifc t v, h => by
    simp only [isData] at h
    obtain ⟨h1, h2⟩ := frz_data (H := H) h
    exact ⟨by simp only [frz, h1, Option.map_some], by simp only [slIds, h2]⟩
  | .undef, h => by simp [isData] at h
  | .ptr .., h => by simp [isData] at h
  | .sl .., h => by simp [isData] at h
  | .mp _, h => by simp [isData] at h
theorem frzL_data {H : List Blk} : ∀ {cs : List AV}, isDataL cs = true → frzL H cs = some cs ∧ slIdsL cs = []
  | [], _ => ⟨rfl, rfl⟩
  | c :: cs, h => by
    simp only [isDataL, Bool.and_eq_true] at h
    obtain ⟨h1, h2⟩ := frz_data (H := H) h.1
    obtain ⟨h3, h4⟩ := frzL_data (H := H) h.2
    exact ⟨by simp only [frzL, h1, h3], by simp only [slIdsL, h2, h4, List.append_nil]⟩
end

theorem frzRows_data {H : List Blk} : ∀ {rows : List (List AV)}, (∀ r ∈ rows, isDataL r = true) → frzRows H rows = some rows ∧ rows.flatMap slIdsL = []
  | [], _ => ⟨rfl, rfl⟩
  | r :: rows, h => by
    obtain ⟨h1, h2⟩ := frzL_data (H := H) (h r (by simp))
    obtain ⟨h3, h4⟩ := frzRows_data (H := H) (rows := rows) fun x hx => h x (by simp [hx])
    exact ⟨by simp only [frzRows, h1, h3], by simp only [List.flatMap_cons, h2, h4, List.append_nil]⟩

theorem isDataL_mem : ∀ {cs : List AV}, isDataL cs = true ↔ ∀ c ∈ cs, isData c = true
  | [] => by simp [isDataL]
  | c :: cs => by simp [isDataL, isDataL_mem (cs := cs)]

theorem cellsA_data {v : AV} {cs : List AV} (h : cellsA v = some cs) (hd : isData v = true) : isDataL cs = true := by
  have one : ∀ {u : AV}, isData u = true → isDataL [u] = true := fun hu => by simp [isDataL, hu]
  unfold cellsA at h
  split at h
  · rename_i l
    split at h
    · cases h; simpa [isData] using hd
    · cases h
  · rename_i l
    simp only at h
    split at h
    · cases h
      rw [isDataL_mem]
      intro c hc
      rw [List.mem_map] at hc
      obtain ⟨y, _, rfl⟩ := hc
      rfl
    · cases h
  · split at h
    · cases h; exact one hd
    · cases h

theorem cellsA_absV {z : Value} {cs : List AV} (h : cellsA (absV z) = some cs) : isDataL cs = true := by
  refine cellsA_data h ?_
  have h1 : ∀ v, isData (abs1 v) = true := by
    intro v
    cases v <;> simp only [abs1, isData]
    rw [isDataL_mem]
    intro c hc
    rw [List.mem_map] at hc
    obtain ⟨y, _, rfl⟩ := hc
    rfl
  cases z with
  | tuple vs =>
    simp only [absV]
    split
    · rfl
    · simp only [isData]
      rw [isDataL_mem]
      intro c hc
      rw [List.mem_map] at hc
      obtain ⟨y, _, rfl⟩ := hc
      exact h1 y
  | _ => simp only [absV]; exact h1 _

theorem setRows_data {size : Nat} : ∀ {ps : List (Nat × AV)} {rows rows' : List (List AV)}, setRows size rows ps = some rows' → (∀ r ∈ rows, isDataL r = true) → (∀ p ∈ ps, isData p.2 = true) →
    ∀ r ∈ rows', isDataL r = true
  | [], rows, rows', h, hr, hp => by simp only [setRows, Option.some.injEq] at h; subst h; exact hr
  | (i, v) :: ps, rows, rows', h, hr, hp => by
    simp only [setRows] at h
    split at h
    · rename_i cs hcs
      split at h
      · refine setRows_data h ?_ fun p hq => hp p (by simp [hq])
        intro r hx
        rcases List.mem_or_eq_of_mem_set hx with hx | rfl
        · exact hr r hx
        · exact cellsA_data hcs (hp (i, v) (by simp))
      · cases h
    · cases h

theorem evalOp_lit {C : Ctx} {call : CallT} {tmps : Tm} {H H1 : List Blk} {o : Oper} {v : AV} {us : List AV} (hk : kindOf o.op = .lit) (hu : evL tmps o.op.operands.toList = some us) (hd : isDataL us = true) (hl : litOK C o.op = true)
    (h : evalOp C call none tmps H o = some (.val v H1)) : H1 = H ∧ ∀ H2, evalOp C call none tmps H2 o = some (.val v H2) := by
  obtain ⟨dst, op, ty, pos, after, guard⟩ := o
  simp only at hk hu hl
  cases op
  case call c =>
    obtain ⟨cal, args, tys⟩ := c
    cases cal with
    | value f => simp only [kindOf] at hk; cases hk
    | invoke r m => simp only [kindOf] at hk; cases hk
    | builtin b => cases b <;> simp only [kindOf] at hk <;> cases hk
  case buildSlice t n ps =>
    have ho : C.own t = false := by simpa [litOK] using hl
    simp only [evalOp, valOf, Option.bind_eq_some_iff, Option.map_eq_some_iff] at h ⊢
    obtain ⟨us', hx, ⟨v', H'⟩, hb, he⟩ := h
    have : us' = us := by
      have h2 : evL tmps (ps.toList.map (·.2)) = some us := by simpa [Op.operands] using hu
      rw [hx] at h2
      cases h2
      rfl
    subst this
    simp only [ORes.val.injEq] at he
    obtain ⟨rfl, rfl⟩ := he
    have key : H' = H ∧ ∀ H2, buildSliceA (C.own t) C.P H2 none t n ((ps.toList.map (·.1)).zip us') = some (v', H2) := by
      rw [ho] at hb ⊢
      unfold buildSliceA at hb ⊢
      split at hb
      · rename_i elem ht
        split at hb
        · rename_i size zero hsz hz
          split at hb
          · rename_i hc
            split at hb
            · rename_i rows hr
              have hrows : ∀ r ∈ rows, isDataL r = true := by
                refine setRows_data hr ?_ ?_
                · intro r hr'
                  rw [List.mem_replicate] at hr'
                  rw [hr'.2]
                  simp only [Option.bind_eq_some_iff] at hz
                  obtain ⟨z, _, hz⟩ := hz
                  exact cellsA_absV hz
                · intro p hp
                  have := (List.of_mem_zip hp).2
                  exact isDataL_mem.1 hd _ this
              obtain ⟨f1, f2⟩ := frzRows_data (H := H) hrows
              simp only [f1, f2, mark, List.foldl_nil, Option.some.injEq, Prod.mk.injEq] at hb
              obtain ⟨rfl, rfl⟩ := hb
              refine ⟨rfl, fun H2 => ?_⟩
              obtain ⟨f3, f4⟩ := frzRows_data (H := H2) hrows
              simp only [hsz, hz, hc, and_self, ne_eq, not_false_eq_true, if_true, hr, f3, f4, mark, List.foldl_nil]
            · cases hb
          · cases hb
        · cases hb
      · cases hb
    exact ⟨key.1, fun H2 => ⟨us', hx, (v', H2), key.2 H2, rfl⟩⟩
  all_goals (simp only [kindOf] at hk; cases hk)

/-! ### moves -/

/-- From H to H2 the blocks are alike but those of D. -/
def Kept (D : List Nat) (H H2 : List Blk) : Prop := H.length ≤ H2.length ∧ ∀ b, b < H.length → b ∉ D → sameB H[b]? H2[b]?

theorem Kept.refl (D : List Nat) (H : List Blk) : Kept D H H := ⟨Nat.le_refl _, fun _ _ _ => .refl _⟩
theorem Kept.append (D : List Nat) (H L : List Blk) : Kept D H (H ++ L) :=
  ⟨by simp, fun b hb _ => .inl (by rw [List.getElem?_append_left hb])⟩
theorem Kept.set {H : List Blk} {b : Nat} {k : Blk} : Kept [b] H (H.set b k) :=
  ⟨by simp, fun x hx hn => .inl (by rw [List.getElem?_set_ne (by rintro rfl; simp at hn)])⟩
theorem Kept.mark (D : List Nat) (H : List Blk) (ids : List Nat) : Kept D H (mark H ids) := by
  refine ⟨?_, fun b hb _ => ?_⟩
  · rcases Nat.lt_or_ge (Ai.mark H ids).length H.length with h1 | h1
    · have h2 := mark_get ids H (Ai.mark H ids).length
      rw [List.getElem?_eq_none (Nat.le_refl _), List.getElem?_eq_getElem h1] at h2
      split at h2
      · cases h2
      · cases h2
    · exact h1
  · rw [mark_get]
    cases hk : H[b]? with
    | none => exact .refl _
    | some k => cases k <;> first | exact .refl _ | exact .inr ⟨_, _, _, _, _, rfl, rfl⟩
theorem Kept.trans {D : List Nat} {H H1 H2 : List Blk} (h : Kept D H H1) (h' : Kept D H1 H2) : Kept D H H2 :=
  ⟨Nat.le_trans h.1 h'.1, fun b hb hn => (h.2 b hb hn).trans (h'.2 b (Nat.lt_of_lt_of_le hb h.1) hn)⟩
theorem Kept.markOne (D : List Nat) (H : List Blk) (b : Nat) : Kept D H (markOne H b) := Kept.mark D H [b]
theorem Kept.new {D : List Nat} {H H' : List Blk} {k : Blk} {b : Nat} (h : newAt H none k = some (b, H')) : Kept D H H' := by
  simp only [newAt, Option.some.injEq, Prod.mk.injEq] at h
  rw [← h.2]
  exact Kept.append D H _

theorem appendA_kept {P : Program} {H H' : List Blk} {tys : Array TypeId} {s x v : AV} (h : appendA P H none tys s x = some (v, H')) : Kept (blkOf s) H H' := by
  have hnew : ∀ {k : Blk} {f : Nat × List Blk → AV × List Blk}, (∀ r, (f r).2 = r.2) → (newAt H none k).map f = some (v, H') → Kept (blkOf s) H H' := by
    intro k f hf hm
    simp only [Option.map_eq_some_iff] at hm
    obtain ⟨⟨b, H1⟩, hn, he⟩ := hm
    have h2 := hf (b, H1)
    rw [he] at h2
    simp only at h2
    rw [h2]
    exact Kept.new hn
  unfold appendA at h
  split at h
  · split at h
    · split at h
      · cases h
      · split at h
        · split at h
          · cases h
          · split at h
            · simp only at h
              split at h
              · split at h
                · cases h; exact Kept.refl _ _
                · split at h
                  · exact hnew (fun _ => rfl) h
                  · cases h
              · split at h
                · cases h; exact Kept.refl _ _
                · split at h
                  · split at h
                    · exact hnew (fun _ => rfl) h
                    · cases h
                  · cases h
              · split at h
                · split at h
                  · split at h
                    · cases h; exact Kept.refl _ _
                    · split at h
                      · split at h
                        · cases h; exact Kept.set
                        · cases h
                      · split at h
                        · split at h
                          · cases h; exact Kept.set
                          · cases h
                        · split at h
                          · exact hnew (fun _ => rfl) h
                          · cases h
                  · cases h
                · cases h
              · cases h
            · cases h
        · cases h
    · cases h
  · cases h

theorem sliceA_kept {P : Program} {H H' : List Blk} {D : List Nat} {t : TypeId} {x v : AV} {lo hi mx : Option AV} (h : sliceA P H t x lo hi mx = some (v, H')) : Kept D H H' := by
  unfold sliceA at h
  split at h
  · split at h
    · simp only [Option.map_eq_some_iff] at h
      obtain ⟨_, _, he⟩ := h
      cases he
      exact Kept.refl _ _
    · cases h
  · split at h
    · cases h; exact Kept.refl _ _
    · cases h
  · split at h
    · split at h
      · cases h; exact Kept.refl _ _
      · cases h
    · cases h
  · split at h
    · split at h
      · cases h; exact Kept.refl _ _
      · cases h
    · cases h
  · split at h
    · split at h
      · simp only at h
        split at h
        · cases h; exact Kept.markOne _ _ _
        · cases h
      · cases h
    · cases h
  · cases h

theorem doCall_kept {C : Ctx} {call : CallT} {f : FuncId} {args : List AV} {H H' : List Blk} {D : List Nat} {v : AV} (hi : ((C.prims f).isSome || (!C.byRef f && (frzL H args).isSome)) = true)
    (h : doCall C call none f args H = some (.val v H')) : Kept D H H' := by
  unfold doCall at h
  split at h
  · split at h
    · split at h
      · split at h
        · cases h; exact Kept.refl _ _
        · split at h
          · cases h; exact Kept.mark _ _ _
          · cases h
      · cases h
    · cases h
  · rename_i hp
    simp only [hp, Option.isSome_none, Bool.false_or, Bool.and_eq_true, Bool.not_eq_true'] at hi
    obtain ⟨us, hus⟩ := Option.isSome_iff_exists.1 hi.2
    simp only [hi.1, Bool.false_eq_true, if_false, hus] at h
    split at h
    · split at h
      · cases h; exact Kept.refl _ _
      · split at h
        · cases h; exact Kept.mark _ _ _
        · simp only [Option.map_eq_some_iff] at h
          obtain ⟨⟨v', H1⟩, ha, he⟩ := h
          cases he
          simp only [adopt, Option.some.injEq, Prod.mk.injEq] at ha
          rw [← ha.2]
          exact (Kept.mark _ _ _).trans (Kept.append _ _ _)
    · simp only [Option.map_eq_some_iff] at h
      obtain ⟨_, _, he⟩ := h
      cases he
    · cases h

theorem buildSliceA_kept {own : Bool} {P : Program} {H H' : List Blk} {D : List Nat} {t n : Nat} {ps : List (Nat × AV)} {v : AV} (h : buildSliceA own P H none t n ps = some (v, H')) : Kept D H H' := by
  unfold buildSliceA at h
  split at h
  · split at h
    · split at h
      · split at h
        · split at h
          · cases h; exact Kept.mark _ _ _
          · simp only [Option.map_eq_some_iff] at h
            obtain ⟨⟨b, H1⟩, hn, he⟩ := h
            cases he
            exact Kept.new hn
        · cases h
      · cases h
    · cases h
  · cases h

theorem makeSliceA_kept {P : Program} {H H' : List Blk} {D : List Nat} {t : TypeId} {l c v : AV} (h : makeSliceA P H none t l c = some (v, H')) : Kept D H H' := by
  unfold makeSliceA at h
  split at h
  · split at h
    · split at h
      · simp only [Option.map_eq_some_iff] at h
        obtain ⟨⟨b, H1⟩, hn, he⟩ := h
        cases he
        exact Kept.new hn
      · cases h
    · cases h
  · cases h

theorem storeA_kept {P : Program} {H H' : List Blk} {t : TypeId} {a v : AV} (h : storeA P H t a v = some H') : Kept (blkOf a) H H' := by
  unfold storeA at h
  split at h
  · split at h
    · split at h
      · split at h
        · cases h; exact Kept.set
        · cases h
      · cases h
    · cases h
  · cases h

theorem dirt_kept {C : Ctx} {call : CallT} {tmps : Tm} {H H' : List Blk} {o : Oper} {D : List Nat} {r : ORes} (hd : dirtOf C tmps H o = some (some D)) (h : evalOp C call none tmps H o = some r)
    (hr : (∃ v, r = .val v H') ∨ r = .skip H') : Kept D H H' := by
  obtain ⟨dst, op, ty, pos, after, guard⟩ := o
  cases op
  case store t a x =>
    simp only [dirtOf, Option.map_eq_some_iff, Option.some.injEq] at hd
    obtain ⟨u, hu, rfl⟩ := hd
    simp only [evalOp, hu] at h
    split at h
    · rename_i a' v' e1 e2
      cases e1
      simp only [Option.map_eq_some_iff] at h
      obtain ⟨H1, hs, rfl⟩ := h
      rcases hr with ⟨v, hr⟩ | hr <;> cases hr
      exact storeA_kept hs
    · cases h
  case makeSlice t l c =>
    simp only [dirtOf, Option.some.injEq] at hd
    subst hd
    simp only [evalOp] at h
    split at h
    · simp only [valOf, Option.map_eq_some_iff] at h
      obtain ⟨⟨v', H1⟩, hs, rfl⟩ := h
      rcases hr with ⟨v, hr⟩ | hr <;> cases hr
      exact makeSliceA_kept hs
    · cases h
  case slice t x lo hi mx =>
    simp only [dirtOf, Option.some.injEq] at hd
    subst hd
    simp only [evalOp] at h
    split at h
    · simp only [valOf, Option.map_eq_some_iff] at h
      obtain ⟨⟨v', H1⟩, hs, rfl⟩ := h
      rcases hr with ⟨v, hr⟩ | hr <;> cases hr
      exact sliceA_kept hs
    · cases h
  case buildSlice t n ps =>
    simp only [dirtOf, Option.some.injEq] at hd
    subst hd
    simp only [evalOp, valOf, Option.bind_eq_some_iff, Option.map_eq_some_iff] at h
    obtain ⟨us, hu, ⟨v', H1⟩, hs, rfl⟩ := h
    rcases hr with ⟨v, hr⟩ | hr <;> cases hr
    exact buildSliceA_kept hs
  case call c =>
    obtain ⟨cal, args, tys⟩ := c
    cases cal with
    | invoke r m => simp only [dirtOf] at hd; cases hd
    | builtin b =>
      cases b <;> simp only [dirtOf] at hd <;> try cases hd
      split at hd
      · rename_i s us hu
        cases hd
        simp only [evalOp, hu] at h
        split at h
        · rename_i s' x e
          cases e
          simp only [valOf, Option.map_eq_some_iff] at h
          obtain ⟨⟨v', H1⟩, hs, rfl⟩ := h
          rcases hr with ⟨v, hr⟩ | hr <;> cases hr
          exact appendA_kept hs
        · cases h
      · cases hd
    | value f =>
      simp only [dirtOf] at hd
      split at hd
      · rename_i g cs us hf hu
        split at hd
        · rename_i hi
          cases hd
          simp only [evalOp, hf, hu] at h
          unfold callA at h
          split at h
          · simp only [Option.map_eq_some_iff] at h
            obtain ⟨v1, _, rfl⟩ := h
            rcases hr with ⟨v, hr⟩ | hr <;> cases hr
            exact Kept.refl _ _
          rename_i hext
          simp only [hext, Bool.false_or, Bool.and_eq_true, Bool.not_eq_true'] at hi
          unfold preCall at h
          rw [hi.1] at h
          replace hi := hi.2
          rcases hr with ⟨v, rfl⟩ | rfl
          · exact doCall_kept hi h
          · unfold doCall at h
            exfalso
            revert h
            repeat' split
            all_goals first
              | (intro h; cases h; done)
              | (intro h; simp only [Option.map_eq_some_iff] at h; obtain ⟨_, _, h⟩ := h; cases h)
        · cases hd
      · cases hd
  all_goals (simp only [dirtOf] at hd; cases hd)

end Go.Ai

/-
  THE RUN OF A DRAWN REGION IN THE TEXT'S ORDER, state by state.
-/
set_option linter.unusedVariables false
set_option linter.unusedSimpArgs false
namespace Go.Ai

structure TS where
  k : Nat
  sp : Moved
  fl : Seen
  pan : Option (Nat × AV × List Blk)
  tmps : Tm
  heap : List Blk

def Next (n i : Nat) (o : Oper) (r : DRes) (s s' : TS) : Prop :=
  match r with
  | .dead => s' = ⟨nextK o s.k, s.sp, s.fl, s.pan, s.tmps, s.heap⟩
  | .val v T => ∃ t, putA n s.tmps o.dst v = some t ∧ s' = ⟨nextK o s.k, s.sp, (i, T) :: s.fl, s.pan, t, s.heap⟩
  | .mov v H D => ∃ t, putA n s.tmps o.dst v = some t ∧ s' = ⟨nextK o s.k, (i, D) :: s.sp, s.fl, s.pan, t, H⟩
  | .pan v H => s' = ⟨nextK o s.k, s.sp, s.fl, some (i, v, H), s.tmps, s.heap⟩

/-- One operation of the text's run. -/
def At1 (C : Ctx) (call : CallT) (ops : Array Oper) (B : List Nat) (n i : Nat) (o : Oper) (r : DRes) (s s' : TS) : Prop :=
  ops[i]? = some o ∧ drawOp C call ops (B.getD i 0) (s.pan.map (·.1)) s.k s.sp s.fl s.tmps s.heap o = some r ∧ Next n i o r s s'

theorem drawList_trace {C : Ctx} {call : CallT} {ops : Array Oper} {B : List Nat} {n : Nat} : ∀ (m i0 : Nat) (s : TS) (d : DSt),
    drawList C call ops B n (List.range' i0 m) s.k s.sp s.fl s.pan s.tmps s.heap = some d →
    ∃ S : Nat → TS, S i0 = s ∧ (∀ i, i0 ≤ i → i < i0 + m → ∃ o r, At1 C call ops B n i o r (S i) (S (i + 1))) ∧ d = ⟨(S (i0 + m)).tmps, (S (i0 + m)).heap, (S (i0 + m)).pan⟩
  | 0, i0, s, d, h => by
    simp only [List.range'_zero, drawList, Option.some.injEq] at h
    exact ⟨fun _ => s, rfl, fun i h1 h2 => by omega, h.symm⟩
  | m + 1, i0, s, d, h => by
    rw [List.range'_succ] at h
    have fin : ∀ (o : Oper) (r : DRes) (s' : TS), At1 C call ops B n i0 o r s s' → drawList C call ops B n (List.range' (i0 + 1) m) s'.k s'.sp s'.fl s'.pan s'.tmps s'.heap = some d →
        ∃ S : Nat → TS, S i0 = s ∧ (∀ i, i0 ≤ i → i < i0 + (m + 1) → ∃ o r, At1 C call ops B n i o r (S i) (S (i + 1))) ∧ d = ⟨(S (i0 + (m + 1))).tmps, (S (i0 + (m + 1))).heap, (S (i0 + (m + 1))).pan⟩ := by
      intro o r s' h1 h2
      obtain ⟨S, hS0, hS, hd⟩ := drawList_trace m (i0 + 1) s' d h2
      refine ⟨fun i => if i = i0 then s else S i, by simp, fun i h3 h4 => ?_, ?_⟩
      · by_cases e : i = i0
        · subst e
          refine ⟨o, r, ?_⟩
          simp only [if_true, Nat.succ_ne_self, if_false, hS0]
          exact h1
        · obtain ⟨o', r', h5⟩ := hS i (by omega) (by omega)
          refine ⟨o', r', ?_⟩
          have e2 : i + 1 ≠ i0 := by omega
          simp only [e, e2, if_false]
          exact h5
      · have e : i0 + (m + 1) ≠ i0 := by omega
        simp only [e, if_false]
        rw [hd, show i0 + 1 + m = i0 + (m + 1) by omega]
    simp only [drawList] at h
    split at h
    · cases h
    · rename_i o ho
      split at h
      · cases h
      · rename_i hr
        exact fin o .dead ⟨nextK o s.k, s.sp, s.fl, s.pan, s.tmps, s.heap⟩ ⟨ho, hr, rfl⟩ h
      · rename_i v T hr
        rw [seqV_eq] at h
        split at h
        · rename_i t hp
          exact fin o _ ⟨nextK o s.k, s.sp, (i0, T) :: s.fl, s.pan, t, s.heap⟩ ⟨ho, hr, t, hp, rfl⟩ h
        · cases h
      · rename_i v H' D hr
        rw [seqV_eq] at h
        split at h
        · rename_i t hp
          rw [seqL_eq] at h
          exact fin o _ ⟨nextK o s.k, (i0, D) :: s.sp, s.fl, s.pan, t, H'⟩ ⟨ho, hr, t, hp, rfl⟩ h
        · cases h
      · rename_i v H' hr
        exact fin o _ ⟨nextK o s.k, s.sp, s.fl, some (i0, v, H'), s.tmps, s.heap⟩ ⟨ho, hr, rfl⟩ h

/-! ### what must stand before: the closure of the edges -/

/-- i must stand before j. -/
def bef (B : List Nat) (i j : Nat) : Bool := Nat.testBit (B.getD j 0) i

theorem befs_length : ∀ (os : List Oper) (acc : List Nat), (befs os acc).length = acc.length + os.length
  | [], acc => by simp [befs]
  | o :: os, acc => by simp only [befs]; rw [befs_length os]; simp; omega

theorem befs_old : ∀ (os : List Oper) (acc : List Nat) (i : Nat), i < acc.length → (befs os acc).getD i 0 = acc.getD i 0
  | [], acc, i, h => rfl
  | o :: os, acc, i, h => by
    simp only [befs]
    rw [befs_old os _ i (by simp; omega)]
    simp only [List.getD_eq_getElem?_getD, List.getElem?_append_left h]

theorem befs_new : ∀ (os : List Oper) (acc : List Nat) (j : Nat) (o : Oper), os[j]? = some o → (befs os acc).getD (acc.length + j) 0 = befOf ((befs os acc).take (acc.length + j)) o
  | [], acc, j, o, h => by simp at h
  | o' :: os, acc, 0, o, h => by
    simp only [List.getElem?_cons_zero, Option.some.injEq] at h
    subst h
    simp only [befs, Nat.add_zero]
    rw [befs_old os _ acc.length (by simp)]
    have : (befs os (acc ++ [befOf acc o'])).take acc.length = acc := by
      have h2 : ∀ (os : List Oper) (acc : List Nat), (befs os acc).take acc.length = acc := by
        intro os
        induction os with
        | nil => intro acc; simp [befs]
        | cons o os ih =>
          intro acc
          simp only [befs]
          have h3 := ih (acc ++ [befOf acc o])
          have h4 := congrArg (List.take acc.length) h3
          rw [List.take_take] at h4
          simp at h4
          exact h4
      have h3 := h2 os (acc ++ [befOf acc o'])
      have h4 := congrArg (List.take acc.length) h3
      rw [List.take_take] at h4
      simp at h4
      exact h4
    rw [this]
    simp [List.getD_eq_getElem?_getD]
  | o' :: os, acc, j + 1, o, h => by
    simp only [befs]
    have := befs_new os (acc ++ [befOf acc o']) j o (by simpa using h)
    simp only [List.length_append, List.length_singleton] at this
    rw [show acc.length + (j + 1) = acc.length + 1 + j by omega]
    exact this

theorem befOf_spec {acc : List Nat} {o : Oper} {i : Nat} : Nat.testBit (befOf acc o) i = true ↔ ∃ e ∈ o.after.toList, Region.binds .any e = true ∧ (i = e.on ∨ Nat.testBit (acc.getD e.on 0) i = true) := by
  unfold befOf
  have : ∀ (l : List Edge) (s : Nat), Nat.testBit (l.foldl (fun s e => if Region.binds .any e then s ||| (2 ^ e.on ||| acc.getD e.on 0) else s) s) i = true ↔
      Nat.testBit s i = true ∨ ∃ e ∈ l, Region.binds .any e = true ∧ (i = e.on ∨ Nat.testBit (acc.getD e.on 0) i = true) := by
    intro l
    induction l with
    | nil => intro s; simp
    | cons e l ih =>
      intro s
      simp only [List.foldl_cons]
      rw [ih]
      by_cases hb : Region.binds .any e = true
      · simp only [hb, if_true, Nat.testBit_or, Nat.testBit_two_pow, Bool.or_eq_true, decide_eq_true_eq, List.mem_cons, exists_eq_or_imp, true_and]
        constructor
        · rintro ((h | h | h) | h)
          · exact .inl h
          · exact .inr (.inl (.inl h.symm))
          · exact .inr (.inl (.inr h))
          · exact .inr (.inr h)
        · rintro (h | (h | h) | h)
          · exact .inl (.inl h)
          · exact .inl (.inr (.inl h.symm))
          · exact .inl (.inr (.inr h))
          · exact .inr h
      · simp [hb]
  rw [this]
  simp

theorem edgesOK_spec : ∀ {os : List Oper} {i : Nat}, edgesOK os i = true → ∀ (j : Nat) (o : Oper), os[j]? = some o → ∀ e ∈ o.after.toList, Region.binds .any e = true → e.on < i + j
  | [], i, h, j, o, hj => by simp at hj
  | o' :: os, i, h, 0, o, hj => by
    simp only [List.getElem?_cons_zero, Option.some.injEq] at hj
    subst hj
    simp only [edgesOK, Bool.and_eq_true, List.all_eq_true, Bool.or_eq_true, Bool.not_eq_true', Nat.blt_eq] at h
    intro e he hb
    have := (h.1 e he).resolve_left (by simp [hb])
    omega
  | o' :: os, i, h, j + 1, o, hj => by
    simp only [edgesOK, Bool.and_eq_true] at h
    intro e he hb
    have := edgesOK_spec h.2 j o (by simpa using hj) e he hb
    omega

/-- What stands before j: the ends of its edges, and what stands before those. -/
theorem bef_spec {ops : Array Oper} (he : edgesOK ops.toList 0 = true) {j : Nat} {o : Oper} (ho : ops[j]? = some o) {i : Nat} :
    bef (befs ops.toList []) i j = true ↔ ∃ e ∈ o.after.toList, Region.binds .any e = true ∧ (i = e.on ∨ bef (befs ops.toList []) i e.on = true) := by
  have ho' : ops.toList[j]? = some o := by simpa using ho
  have h1 := befs_new ops.toList [] j o ho'
  simp only [List.length_nil, Nat.zero_add] at h1
  unfold bef
  rw [h1, befOf_spec]
  constructor
  · rintro ⟨e, h2, h3, h4⟩
    refine ⟨e, h2, h3, h4.imp id fun h5 => ?_⟩
    have hlt := edgesOK_spec he j o ho' e h2 h3
    simp only [List.getD_eq_getElem?_getD, List.getElem?_take] at h5
    rw [if_pos (by omega)] at h5
    simpa [List.getD_eq_getElem?_getD] using h5
  · rintro ⟨e, h2, h3, h4⟩
    refine ⟨e, h2, h3, h4.imp id fun h5 => ?_⟩
    have hlt := edgesOK_spec he j o ho' e h2 h3
    simp only [List.getD_eq_getElem?_getD, List.getElem?_take]
    rw [if_pos (by omega)]
    simpa [List.getD_eq_getElem?_getD] using h5

theorem bef_lt {ops : Array Oper} (he : edgesOK ops.toList 0 = true) : ∀ (j i : Nat) (o : Oper), ops[j]? = some o → bef (befs ops.toList []) i j = true → i < j := by
  intro j
  induction j using Nat.strongRecOn with
  | _ j ih =>
    intro i o ho h
    obtain ⟨e, h1, h2, h3⟩ := (bef_spec he ho).1 h
    have hlt := edgesOK_spec he j o (by simpa using ho) e h1 h2
    rcases h3 with rfl | h3
    · omega
    · have hj : j < ops.size := (Array.getElem?_eq_some_iff.1 ho).1
      have h4 := ih e.on (by omega) i (ops[e.on]'(by omega)) (by rw [Array.getElem?_eq_getElem (by omega)]) h3
      omega

theorem apartAll_spec {ops : Array Oper} {Bj : Nat} {y : Oper} : ∀ {xs : List Oper} {i0 : Nat}, apartAll ops Bj y xs i0 = true → ∀ (i : Nat) (x : Oper), xs[i]? = some x → Nat.testBit Bj (i0 + i) = true ∨ x.apart ops y = true
  | [], i0, h, i, x, hx => by simp at hx
  | x' :: xs, i0, h, 0, x, hx => by
    simp only [List.getElem?_cons_zero, Option.some.injEq] at hx
    subst hx
    simp only [apartAll, Bool.and_eq_true, Bool.or_eq_true] at h
    simpa using h.1
  | x' :: xs, i0, h, i + 1, x, hx => by
    simp only [apartAll, Bool.and_eq_true] at h
    have := apartAll_spec h.2 i x (by simpa using hx)
    rw [show i0 + (i + 1) = i0 + 1 + i by omega]
    exact this

theorem pairsOK_spec {ops : Array Oper} {B : List Nat} : ∀ {ys : List Oper} {j0 : Nat} {before : List Oper}, pairsOK ops B ys j0 before = true → before.length = j0 → ∀ (j : Nat) (y : Oper), ys[j]? = some y →
    ∀ (i : Nat) (x : Oper), (before ++ ys)[i]? = some x → i < j0 + j → bef B i (j0 + j) = true ∨ x.apart ops y = true
  | [], j0, before, h, hl, j, y, hy => by simp at hy
  | y' :: ys, j0, before, h, hl, 0, y, hy => by
    simp only [List.getElem?_cons_zero, Option.some.injEq] at hy
    subst hy
    simp only [pairsOK, Bool.and_eq_true] at h
    intro i x hx hi
    rw [List.getElem?_append_left (by omega)] at hx
    have := apartAll_spec h.1 i x hx
    simpa [bef] using this
  | y' :: ys, j0, before, h, hl, j + 1, y, hy => by
    simp only [pairsOK, Bool.and_eq_true] at h
    intro i x hx hi
    have := pairsOK_spec h.2 (by simp [hl]) j y (by simpa using hy) i x (by simpa using hx) (by omega)
    rw [show j0 + (j + 1) = j0 + 1 + j by omega]
    exact this

end Go.Ai

/-
  A VARIABLE COMES TO BE, whenever its turn is.
-/
set_option linter.unusedVariables false
set_option linter.unusedSimpArgs false
namespace Go.Ai
section
variable {P : Program} {X : Nat → Nat → Prop} {E E' E0 : Env} {H H0 : List Blk} {w w0 : World} {im : Nat → Nat → Prop}

mutual
/-- The blocks that a value names are there. -/
theorem V_refs : ∀ {c : AV} {x : Value} {b : Nat}, V im w c E x → b ∈ refs 0 c → ∃ l, E b = some l
  | .undef, _, b, _, hb => by simp [refs] at hb
  | .sc _, _, b, _, hb => by simp [refs] at hb
  | .rp .., _, b, _, hb => by simp [refs] at hb
  | .ro .., _, b, _, hb => by simp [refs] at hb
  | .ptr b' g i o, x, b, h, hb => by
    simp [refs] at hb
    subst hb
    exact V_ptr_has h
  | .sl b' g s l c, x, b, h, hb => by
    simp [refs] at hb
    subst hb
    exact V_sl_has h
  | .mp b', x, b, h, hb => by
    simp [refs] at hb
    subst hb
    simp only [V] at h
    obtain ⟨l, _, h, _⟩ := h
    exact ⟨l, h⟩
  | .agg cs, x, b, h, hb => by
    simp only [refs] at hb
    simp only [V] at h
    obtain ⟨vs, _, h⟩ := h
    exact VL_refs h hb
  | .tup cs, x, b, h, hb => by
    simp only [refs] at hb
    simp only [V] at h
    obtain ⟨vs, _, h⟩ := h
    exact VL_refs h hb
  | .fn f cs, x, b, h, hb => by
    simp only [refs] at hb
    simp only [V] at h
    obtain ⟨vs, _, h⟩ := h
    exact VL_refs h hb
  | .ifc t v, x, b, h, hb => by
    simp only [refs] at hb
    simp only [V] at h
    obtain ⟨y, _, h⟩ := h
    exact V_refs h hb
theorem VL_refs : ∀ {cs : List AV} {xs : List Value} {b : Nat}, VL im w cs E xs → b ∈ refsL 0 cs → ∃ l, E b = some l
  | [], _, b, _, hb => by simp [refsL] at hb
  | c :: cs, xs, b, h, hb => by
    simp only [refsL, List.mem_append] at hb
    simp only [VL] at h
    obtain ⟨y, r, _, h1, h2⟩ := h
    rcases hb with hb | hb
    · exact V_refs h1 hb
    · exact VL_refs h2 hb
end

theorem mask_wr {b : Nat} {k : Blk} (hE : E b = none) {B o : Nat} : Wr E (H.set b k) B o ↔ Wr E H B o := by
  constructor
  · rintro ⟨b', l, hb, hl, hB, hz⟩
    have e : b' ≠ b := by rintro rfl; rw [hE] at hb; cases hb
    exact ⟨b', l, hb, hl, hB, fun s g es hk => hz s g es (by rw [List.getElem?_set_ne (Ne.symm e)]; exact hk)⟩
  · rintro ⟨b', l, hb, hl, hB, hz⟩
    have e : b' ≠ b := by rintro rfl; rw [hE] at hb; cases hb
    exact ⟨b', l, hb, hl, hB, fun s g es hk => hz s g es (by rw [List.getElem?_set_ne (Ne.symm e)] at hk; exact hk)⟩

theorem mask_im {b : Nat} {k : Blk} (hE : E b = none) {B o : Nat} : Im X E (H.set b k) w B o ↔ Im X E H w B o := by
  unfold Im
  rw [mask_wr hE]

/-- What nobody knows of may as well be kept free. -/
theorem HRel.mask (h : HRel X E H w) {b : Nat} (hE : E b = none) : HRel X E (H.set b .res) w := by
  refine ⟨?_, ?_, h.sep, h.xs, h.xlt⟩
  · intro x hx
    by_cases e : x = b
    · rw [e, hE]
    · exact h.dom x (by rw [List.getElem?_set_ne (Ne.symm e)] at hx; exact hx)
  · intro x k hk
    by_cases e : x = b
    · subst e
      have hlt : x < (H.set x .res).length := by
        rcases Nat.lt_or_ge x (H.set x .res).length with h9 | h9
        · exact h9
        · rw [List.getElem?_eq_none h9] at hk; cases hk
      rw [List.getElem?_set_self (by simpa using hlt)] at hk
      cases hk
      exact hE
    · rw [List.getElem?_set_ne (Ne.symm e)] at hk
      exact BRel_mono (fun B o hi => ⟨(mask_im hE).2 hi, rfl⟩) (Le.refl _) (fun _ _ _ => rfl) (h.blk x k hk)

theorem HRel.birth (h : HRel X E H w) (hs : Step X E0 H0 w0 E H w) {b n : Nat} {cs : List AV} {fz : Bool} (hb : H[b]? = some (.cells n 0 [cs] fz)) (hE : E b = none) (hb0 : H0.length ≤ b) {t : TypeId}
    (hz : (zeroT P t).bind (fun z => cellsA (absV z)) = some cs) (hn : szT P t = some n) (hl : cs.length = n) (u : Value) :
    ∃ x w' E', (Instr.alloc t true u).run P w = .ok x w' ∧ HRel X E' H w' ∧ Step X E0 H0 w0 E' H w' ∧ V (Im X E' H w') w' (.ptr b 0 0 0) E' x ∧
      (∀ B o, Im X E H w B o → Im X E' H w' B o ∧ w'.cell? ⟨B, o, none⟩ = w.cell? ⟨B, o, none⟩) ∧ Le E E' ∧ (∀ b', b' ≠ b → IsC H b' → E b' = none → E' b' = none) := by
  have hlt : b < H.length := by
    rcases Nat.lt_or_ge b H.length with h9 | h9
    · exact h9
    · rw [List.getElem?_eq_none h9] at hb; cases hb
  have hm := h.mask hE
  have hres : (H.set b .res)[b]? = some Blk.res := by rw [List.getElem?_set_self hlt]
  have ha : allocA P (H.set b .res) (some b) t = some (.ptr b 0 0 0, (H.set b .res).set b (.cells n 0 [cs] false)) := by
    simp only [allocA, hz, hn, hl, if_true, newAt, hres, Option.map_some]
  obtain ⟨x, w', hr, E', h1, hs1, hv⟩ := allocA_sound hm ha u
  have hfin : ∃ H2, H2 = H ∧ HRel X E' H2 w' ∧ Step X E (H.set b .res) w E' H2 w' ∧ V (Im X E' H2 w') w' (.ptr b 0 0 0) E' x := by
    cases fz with
    | false =>
      refine ⟨_, ?_, h1, hs1, hv⟩
      apply List.ext_getElem?
      intro i
      by_cases e : b = i
      · subst e
        rw [List.getElem?_set_self (by simpa using hlt), hb]
      · rw [List.getElem?_set_ne e, List.getElem?_set_ne e]
    | true =>
      obtain ⟨h2, hs2⟩ := h1.markOne b
      refine ⟨_, ?_, h2, hs1.trans hs2, hs2.V hv⟩
      have hg : ((H.set b .res).set b (.cells n 0 [cs] false))[b]? = some (.cells n 0 [cs] false) := by rw [List.getElem?_set_self (by simpa using hlt)]
      simp only [Ai.markOne, hg]
      apply List.ext_getElem?
      intro i
      by_cases e : b = i
      · subst e
        rw [List.getElem?_set_self (by simpa using hlt), hb]
      · rw [List.getElem?_set_ne e, List.getElem?_set_ne e, List.getElem?_set_ne e]
  obtain ⟨H2, rfl, h2, hs2, hv2⟩ := hfin
  have hsb : Step X E0 H0 w0 E (H2.set b .res) w :=
    { le := hs.le, size := hs.size, im := fun B o hi => ⟨(mask_im hE).2 (hs.im B o hi).1, (hs.im B o hi).2⟩, obj := hs.obj, new := hs.new, len := by simpa using hs.len, still := hs.still,
      nb := fun b' h3 h4 => by
        obtain ⟨⟨s, g, es, f, h5⟩, h6⟩ := hs.nb b' h3 h4
        have e : b' ≠ b := by
          rintro rfl
          obtain ⟨s', g', es', f', h7⟩ := h3
          rw [List.getElem?_eq_none hb0] at h7
          cases h7
        exact ⟨⟨s, g, es, f, by rw [List.getElem?_set_ne (Ne.symm e)]; exact h5⟩, h6⟩ }
  refine ⟨x, w', E', hr, h2, hsb.trans hs2, hv2, fun B o hi => hs2.im B o ((mask_im hE).2 hi), hs2.le, fun b' e hc he => ?_⟩
  obtain ⟨s, g, es, f, h5⟩ := hc
  exact (hs2.nb b' ⟨s, g, es, f, by rw [List.getElem?_set_ne (Ne.symm e)]; exact h5⟩ he).2

end
end Go.Ai

/-
  WHAT THE TEXT'S RUN OF A DRAWN REGION TELLS OF ANOTHER ORDER: plain lists.
-/
set_option linter.unusedVariables false
set_option linter.unusedSimpArgs false
namespace Go.Ai

structure Dr (C : Ctx) (call : CallT) (ops : Array Oper) (n : Nat) (t0 : Tm) (Hb bs : List Blk) (S : Nat → TS) (res : Nat → DRes) : Prop where
  ok : drawOK ops (befs ops.toList []) = true
  lay : layAllocs C.P ops.toList = some bs
  s0 : S 0 = ⟨Hb.length, [], [], none, t0, Hb ++ bs⟩
  at1 : ∀ i, i < ops.size → ∃ o, At1 C call ops (befs ops.toList []) n i o (res i) (S i) (S (i + 1))

def Pt (res : Nat → DRes) (i : Nat) : Bool := match res i with
  | .val .. | .mov .. => true
  | _ => false

def valAt (res : Nat → DRes) (i : Nat) : AV := match res i with
  | .val v _ | .mov v _ _ => v
  | _ => .undef

/-- The slots once the operations of L have come, each later one in the text on top. -/
def tmL (ops : Array Oper) (res : Nat → DRes) (t0 : Tm) (L : Nat → Bool) : Nat → Tm
  | 0 => t0
  | i + 1 => if L i then (match (ops[i]?).bind (·.dst) with
      | some d => (d, valAt res i) :: tmL ops res t0 L i
      | none => tmL ops res t0 L i) else tmL ops res t0 L i

theorem getT_cons (d t : Nat) (v : AV) (r : Tm) : getT ((d, v) :: r) t = if d = t then v else getT r t := by
  simp only [getT]
  by_cases h : d = t
  · subst h; simp
  · have : Nat.beq d t = false := by
      cases hb : Nat.beq d t with
      | false => rfl
      | true => exact absurd (Nat.eq_of_beq_eq_true hb) h
    simp [this, h]

section
variable {C : Ctx} {call : CallT} {ops : Array Oper} {n : Nat} {t0 : Tm} {Hb bs : List Blk} {S : Nat → TS} {res : Nat → DRes}

theorem Dr.edges (h : Dr C call ops n t0 Hb bs S res) : edgesOK ops.toList 0 = true := by
  have := h.ok
  simp only [drawOK, Bool.and_eq_true] at this
  exact this.1

theorem Dr.pairs (h : Dr C call ops n t0 Hb bs S res) {i j : Nat} {x y : Oper} (hx : ops[i]? = some x) (hy : ops[j]? = some y) (hij : i < j) : bef (befs ops.toList []) i j = true ∨ x.apart ops y = true := by
  have := h.ok
  simp only [drawOK, Bool.and_eq_true] at this
  have := pairsOK_spec this.2 rfl j y (by simpa using hy) i x (by simpa using hx) (by omega)
  simpa using this

theorem Dr.fl (h : Dr C call ops n t0 Hb bs S res) : ∀ (i : Nat), i ≤ ops.size → ∀ (j : Nat) (T : List Nat), (j, T) ∈ (S i).fl ↔ j < i ∧ ∃ v, res j = .val v T
  | 0, _, j, T => by rw [h.s0]; simp
  | i + 1, hi, j, T => by
    obtain ⟨o, ho, hd, hn⟩ := h.at1 i (by omega)
    have ih := h.fl i (by omega) j T
    have key : ∀ s : Seen, (∀ v U, res i ≠ .val v U) → (S (i + 1)).fl = (S i).fl → ((j, T) ∈ (S (i + 1)).fl ↔ j < i + 1 ∧ ∃ v, res j = .val v T) := by
      intro _ hne he
      rw [he, ih]
      constructor
      · rintro ⟨h1, h2⟩; exact ⟨by omega, h2⟩
      · rintro ⟨h1, v, h2⟩
        refine ⟨?_, v, h2⟩
        rcases Nat.lt_or_ge j i with h3 | h3
        · exact h3
        · have : j = i := by omega
          subst this
          exact absurd h2 (hne v T)
    cases hr : res i with
    | dead => rw [hr] at hn; simp only [Next] at hn; exact key [] (by rw [hr]; simp) (by rw [hn])
    | pan v H => rw [hr] at hn; simp only [Next] at hn; exact key [] (by rw [hr]; simp) (by rw [hn])
    | mov v H D => rw [hr] at hn; simp only [Next] at hn; obtain ⟨t, _, hn⟩ := hn; exact key [] (by rw [hr]; simp) (by rw [hn])
    | val v U =>
      rw [hr] at hn
      simp only [Next] at hn
      obtain ⟨t, _, hn⟩ := hn
      rw [hn]
      simp only [List.mem_cons, Prod.mk.injEq, ih]
      constructor
      · rintro (⟨rfl, rfl⟩ | ⟨h1, h2⟩)
        · exact ⟨by omega, v, hr⟩
        · exact ⟨by omega, h2⟩
      · rintro ⟨h1, v', h2⟩
        rcases Nat.lt_or_ge j i with h3 | h3
        · exact .inr ⟨h3, v', h2⟩
        · have : j = i := by omega
          subst this
          rw [hr] at h2
          cases h2
          exact .inl ⟨rfl, rfl⟩

theorem Dr.sp (h : Dr C call ops n t0 Hb bs S res) : ∀ (i : Nat), i ≤ ops.size → ∀ (j : Nat) (D : Dirt), (j, D) ∈ (S i).sp ↔ j < i ∧ ∃ v H, res j = .mov v H D
  | 0, _, j, T => by rw [h.s0]; simp
  | i + 1, hi, j, T => by
    obtain ⟨o, ho, hd, hn⟩ := h.at1 i (by omega)
    have ih := h.sp i (by omega) j T
    have key : ∀ s : Seen, (∀ v H U, res i ≠ .mov v H U) → (S (i + 1)).sp = (S i).sp → ((j, T) ∈ (S (i + 1)).sp ↔ j < i + 1 ∧ ∃ v H, res j = .mov v H T) := by
      intro _ hne he
      rw [he, ih]
      constructor
      · rintro ⟨h1, h2⟩; exact ⟨by omega, h2⟩
      · rintro ⟨h1, v, H, h2⟩
        refine ⟨?_, v, H, h2⟩
        rcases Nat.lt_or_ge j i with h3 | h3
        · exact h3
        · have : j = i := by omega
          subst this
          exact absurd h2 (hne v H T)
    cases hr : res i with
    | dead => rw [hr] at hn; simp only [Next] at hn; exact key [] (by rw [hr]; simp) (by rw [hn])
    | pan v H => rw [hr] at hn; simp only [Next] at hn; exact key [] (by rw [hr]; simp) (by rw [hn])
    | val v U => rw [hr] at hn; simp only [Next] at hn; obtain ⟨t, _, hn⟩ := hn; exact key [] (by rw [hr]; simp) (by rw [hn])
    | mov v H U =>
      rw [hr] at hn
      simp only [Next] at hn
      obtain ⟨t, _, hn⟩ := hn
      rw [hn]
      simp only [List.mem_cons, Prod.mk.injEq, ih]
      constructor
      · rintro (⟨rfl, rfl⟩ | ⟨h1, h2⟩)
        · exact ⟨by omega, v, H, hr⟩
        · exact ⟨by omega, h2⟩
      · rintro ⟨h1, v', H', h2⟩
        rcases Nat.lt_or_ge j i with h3 | h3
        · exact .inr ⟨h3, v', H', h2⟩
        · have : j = i := by omega
          subst this
          rw [hr] at h2
          cases h2
          exact .inl ⟨rfl, rfl⟩

theorem Dr.pan (h : Dr C call ops n t0 Hb bs S res) : ∀ (i : Nat), i ≤ ops.size → (∀ j v H, (S i).pan = some (j, v, H) → j < i ∧ res j = .pan v H) ∧ ((S i).pan = none → ∀ j v H, j < i → res j ≠ .pan v H)
  | 0, _ => by
    rw [h.s0]
    refine ⟨fun j v H hp => ?_, fun _ j v H hj => ?_⟩
    · cases hp
    · omega
  | i + 1, hi => by
    obtain ⟨o, ho, hd, hn⟩ := h.at1 i (by omega)
    obtain ⟨ih1, ih2⟩ := h.pan i (by omega)
    have key : (∀ v H, res i ≠ .pan v H) → (S (i + 1)).pan = (S i).pan → (∀ j v H, (S (i + 1)).pan = some (j, v, H) → j < i + 1 ∧ res j = .pan v H) ∧ ((S (i + 1)).pan = none → ∀ j v H, j < i + 1 → res j ≠ .pan v H) := by
      intro hne he
      rw [he]
      refine ⟨fun j v H hp => ⟨by have := (ih1 j v H hp).1; omega, (ih1 j v H hp).2⟩, fun hp j v H hj => ?_⟩
      rcases Nat.lt_or_ge j i with h3 | h3
      · exact ih2 hp j v H h3
      · have : j = i := by omega
        subst this
        exact hne v H
    cases hr : res i with
    | dead => rw [hr] at hn; simp only [Next] at hn; exact key (by rw [hr]; simp) (by rw [hn])
    | val v U => rw [hr] at hn; simp only [Next] at hn; obtain ⟨t, _, hn⟩ := hn; exact key (by rw [hr]; simp) (by rw [hn])
    | mov v H U => rw [hr] at hn; simp only [Next] at hn; obtain ⟨t, _, hn⟩ := hn; exact key (by rw [hr]; simp) (by rw [hn])
    | pan v H =>
      rw [hr] at hn
      simp only [Next] at hn
      rw [hn]
      refine ⟨fun j v' H' hp => ?_, fun hp => by cases hp⟩
      simp only [Option.some.injEq, Prod.mk.injEq] at hp
      obtain ⟨rfl, rfl, rfl⟩ := hp
      exact ⟨by omega, hr⟩

theorem putA_tmL {i : Nat} {o : Oper} {v : AV} {t r : Tm} (ho : ops[i]? = some o) (hp : putA n r o.dst v = some t) :
    t = match (ops[i]?).bind (·.dst) with
      | some d => (d, v) :: r
      | none => r := by
  rw [ho]
  simp only [Option.bind_some]
  cases hd : o.dst with
  | none => rw [hd] at hp; simp only [putA, Option.some.injEq] at hp; exact hp.symm
  | some d =>
    rw [hd] at hp
    simp only [putA] at hp
    split at hp
    · cases hp; rfl
    · cases hp

theorem Dr.tmps (h : Dr C call ops n t0 Hb bs S res) : ∀ (i : Nat), i ≤ ops.size → (S i).tmps = tmL ops res t0 (Pt res) i
  | 0, _ => by rw [h.s0]; rfl
  | i + 1, hi => by
    obtain ⟨o, ho, hd, hn⟩ := h.at1 i (by omega)
    have ih := h.tmps i (by omega)
    simp only [tmL]
    cases hr : res i with
    | dead => rw [hr] at hn; simp only [Next] at hn; rw [hn]; simp [Pt, hr, ih]
    | pan v H => rw [hr] at hn; simp only [Next] at hn; rw [hn]; simp [Pt, hr, ih]
    | val v U =>
      rw [hr] at hn; simp only [Next] at hn; obtain ⟨t, hp, hn⟩ := hn
      rw [hn]
      simp only [Pt, hr, if_true, valAt, ← ih]
      exact putA_tmL ho hp
    | mov v H U =>
      rw [hr] at hn; simp only [Next] at hn; obtain ⟨t, hp, hn⟩ := hn
      rw [hn]
      simp only [Pt, hr, if_true, valAt, ← ih]
      exact putA_tmL ho hp

/-- The place of the next variable's block. -/
def cnt : List Oper → Nat → Nat
  | [], _ => 0
  | _, 0 => 0
  | o :: os, i + 1 => (match kindOf o.op with | .alloc _ => 1 | _ => 0) + cnt os i

theorem cnt_succ : ∀ {os : List Oper} {i : Nat} {o : Oper}, os[i]? = some o → cnt os (i + 1) = cnt os i + (match kindOf o.op with | .alloc _ => 1 | _ => 0)
  | [], i, o, h => by simp at h
  | o' :: os, 0, o, h => by
    simp only [List.getElem?_cons_zero, Option.some.injEq] at h
    subst h
    cases os <;> simp [cnt]
  | o' :: os, i + 1, o, h => by
    have := cnt_succ (os := os) (i := i) (o := o) (by simpa using h)
    simp only [cnt] at this ⊢
    rw [this]
    omega

theorem nextK_eq (o : Oper) (k : Nat) : nextK o k = k + (match kindOf o.op with | .alloc _ => 1 | _ => 0) := by
  unfold nextK
  split <;> simp_all

theorem Dr.k (h : Dr C call ops n t0 Hb bs S res) : ∀ (i : Nat), i ≤ ops.size → (S i).k = Hb.length + cnt ops.toList i
  | 0, _ => by
    rw [h.s0]
    cases ops.toList <;> simp [cnt]
  | i + 1, hi => by
    obtain ⟨o, ho, hd, hn⟩ := h.at1 i (by omega)
    have ih := h.k i (by omega)
    have hk : (S (i + 1)).k = nextK o (S i).k := by
      cases hr : res i with
      | dead => rw [hr] at hn; simp only [Next] at hn; rw [hn]
      | pan v H => rw [hr] at hn; simp only [Next] at hn; rw [hn]
      | val v U => rw [hr] at hn; simp only [Next] at hn; obtain ⟨t, _, hn⟩ := hn; rw [hn]
      | mov v H U => rw [hr] at hn; simp only [Next] at hn; obtain ⟨t, _, hn⟩ := hn; rw [hn]
    rw [hk, nextK_eq, ih, cnt_succ (show ops.toList[i]? = some o by simpa using ho)]
    omega

theorem layAllocs_spec {P : Program} : ∀ {os : List Oper} {bs : List Blk}, layAllocs P os = some bs → ∀ (i : Nat) (o : Oper) (t : TypeId), os[i]? = some o → kindOf o.op = .alloc t →
    ∃ cs n, bs[cnt os i]? = some (.cells n 0 [cs] false) ∧ (zeroT P t).bind (fun z => cellsA (absV z)) = some cs ∧ szT P t = some n ∧ cs.length = n
  | [], bs, h, i, o, t, ho, hk => by simp at ho
  | o' :: os, bs, h, i, o, t, ho, hk => by
    simp only [layAllocs] at h
    split at h
    · rename_i t' hk'
      split at h
      · rename_i cs n bs' h1 h2 h3
        split at h
        · rename_i hl
          cases h
          cases i with
          | zero =>
            simp only [List.getElem?_cons_zero, Option.some.injEq] at ho
            subst ho
            rw [hk'] at hk
            cases hk
            exact ⟨cs, n, by simp [cnt], h1, h2, hl⟩
          | succ i =>
            obtain ⟨cs', n', h4, h5⟩ := layAllocs_spec h3 i o t (by simpa using ho) hk
            refine ⟨cs', n', ?_, h5⟩
            simp only [cnt, hk']
            rw [show 1 + cnt os i = cnt os i + 1 by omega, List.getElem?_cons_succ]
            exact h4
        · cases h
      · cases h
    · rename_i hk'
      cases i with
      | zero =>
        simp only [List.getElem?_cons_zero, Option.some.injEq] at ho
        subst ho
        exact absurd hk (hk' t)
      | succ i =>
        obtain ⟨cs', n', h4, h5⟩ := layAllocs_spec h i o t (by simpa using ho) hk
        refine ⟨cs', n', ?_, h5⟩
        simp only [cnt]
        rw [Nat.zero_add]
        exact h4

end
end Go.Ai
