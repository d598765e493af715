/-
  ONE OPERATION.
-/
import Derived.Test.YtndloeajkfajnaaAiCall
set_option linter.unusedVariables false
set_option linter.unusedSimpArgs false
namespace Go.Ai
section
variable {P : Program} {X : Nat → Nat → Prop} {E E' : Env} {H : List Blk} {w : World} {im : Nat → Nat → Prop}

def OpSpec (X : Nat → Nat → Prop) (E : Env) (H : List Blk) (w : World) (a : Act) (o : Oper) (next : Act → World → Prop) (Q : Exit → Act → World → Prop) : ORes → Prop
  | .val v H' => ∀ x w', Good X E H w v H' x w' → next (a.put o.dst x) w'
  | .skip H' => ∀ w', HRel X E H' w' → Step X E H w E H' w' → next (a.put o.dst Go.undef) w'
  | .pan v H' => ∀ x w', Good X E H w v H' x w' → Q (.panic [{ v := x, recovered := false }]) a w'
  | .dfr f cs => ∀ vs : List Value, VL (Im X E H w) w cs E vs → next (({ a with defers := { target := .fn (.func f) vs.toArray, args := #[] } :: a.defers } : Act).put o.dst Go.undef) w

theorem wp_val {o : Oper} {a : Act} {w w' : World} {next : Act → World → Prop} {Q : Exit → Act → World → Prop} (s : Sem Value) {x : Value} (hx : execOp a.eval o = (do let v ← s; pure (.value v)))
    (hr : s.run P w = .ok x w') (h : next (a.put o.dst x) w') : o.wp P a w next Q := by
  unfold Oper.wp
  rw [hx]
  simp only [Sem.run_bind, hr, Result.andThen_ok, Sem.run_pure, Oper.upon]
  exact h

theorem wp_unit {o : Oper} {a : Act} {w w' : World} {next : Act → World → Prop} {Q : Exit → Act → World → Prop} (s : Sem Unit) (hx : execOp a.eval o = (do s; pure .skip))
    (hr : s.run P w = .ok () w') (h : next (a.put o.dst Go.undef) w') : o.wp P a w next Q := by
  unfold Oper.wp
  rw [hx]
  simp only [Sem.run_bind, hr, Result.andThen_ok, Sem.run_pure, Oper.upon]
  exact h

theorem wp_call {o : Oper} {a : Act} {w : World} {next : Act → World → Prop} {Q : Exit → Act → World → Prop} {f : FuncId} {args : Array Value}
    (hname : ∀ (f : FuncId) (fn : Func), P.funcs[f]? = some fn → fn.name ≠ "runtime.NumGoroutine") (hb : ∃ fn, P.funcs[f]? = some fn ∧ fn.body.isSome = true)
    (hx : execOp a.eval o = callFunc f args) {r : ORes} (hc : Calls P f args w (EndsO X E H w r)) (hq : OpSpec X E H w a o next Q r) : o.wp P a w next Q := by
  unfold Oper.wp
  rw [hx]
  obtain ⟨fn, hf, hbody⟩ := hb
  have hn : (fn.name == "runtime.NumGoroutine") = false := by simpa using hname f fn hf
  have hrun : (callFunc f args).run P w = .ok (.enter f args) w := by
    unfold callFunc
    have : fn.body.isNone = false := by cases hfb : fn.body <;> simp_all
    rw [Sem.run_bind]
    simp only [program, Sem.run, Result.andThen_ok, hf, hn, this]
    rfl
  rw [hrun]
  simp only [Oper.upon]
  refine hc.mono ?_
  intro e w' he
  cases r with
  | val v H1 => obtain ⟨x, rfl, hg⟩ := he; exact hq x w' hg
  | pan v H1 => obtain ⟨x, rfl, hg⟩ := he; exact hq x w' hg
  | skip _ => exact he.elim
  | dfr _ _ => exact he.elim

/-- A call, whoever answers it. -/
theorem wp_callA {C : Ctx} {call : CallT} (hc : CallOK C.P call) (hp : ∀ f F, C.prims f = some F → PrimOK C.P f F)
    (hname : ∀ (f : FuncId) (fn : Func), C.P.funcs[f]? = some fn → fn.name ≠ "runtime.NumGoroutine") (h : HRel X E H w) {o : Oper} {a : Act} {next : Act → World → Prop} {Q : Exit → Act → World → Prop} {f : FuncId} {args : List AV} {vs : List Value}
    {r : ORes} (hv : VL (Im X E H w) w args E vs) (hd : callA C call none f args H = some r) (hx : execOp a.eval o = callFunc f vs.toArray) (hq : OpSpec X E H w a o next Q r) : o.wp C.P a w next Q := by
  unfold callA at hd
  split at hd
  · simp only [Option.map_eq_some_iff] at hd
    obtain ⟨v, hv1, rfl⟩ := hd
    unfold externA at hv1
    split at hv1
    · rename_i us hus
      have := VL_conc hus hv
      subst this
      split at hv1
      · rename_i r hr
        cases hv1
        unfold Oper.wp
        rw [hx, pureRun_run C.P _ _ hr w]
        exact hq _ _ (Good.here h (V_absV E r))
      · cases hv1
    · cases hv1
  · obtain ⟨h0, hs0⟩ := h.preCall C f args
    obtain ⟨hb, hcall⟩ := doCall_sound hc hp h0 (VL_mono hs0.im _ hs0.le hv) hd
    refine wp_call hname hb hx (hcall.mono ?_) hq
    intro e w' he
    cases r with
    | val v H1 => obtain ⟨x, rfl, E', h', hs', hv'⟩ := he; exact ⟨x, rfl, E', h', hs0.trans hs', hv'⟩
    | pan v H1 => obtain ⟨x, rfl, E', h', hs', hv'⟩ := he; exact ⟨x, rfl, E', h', hs0.trans hs', hv'⟩
    | skip _ => exact he.elim
    | dfr _ _ => exact he.elim

theorem VL_zip {im : Nat → Nat → Prop} {ns : List Nat} {us : List AV} {xs : List Value} (hl : ns.length = us.length) (h : VL im w us E xs) :
    (ns.zip us).map (·.2) = us ∧ (ns.zip us).map (·.1) = ns ∧ True := by
  refine ⟨?_, ?_, trivial⟩
  · rw [List.map_snd_zip]; omega
  · rw [List.map_fst_zip]; omega

theorem evL_length {tmps : Tm} : ∀ {xs : List Operand} {vs : List AV}, evL tmps xs = some vs → vs.length = xs.length
  | [], vs, h => by simp only [evL, Option.some.injEq] at h; subst h; rfl
  | x :: xs, vs, h => by
    simp only [evL] at h
    split at h
    · rename_i v us e1 e2
      cases h
      simp [evL_length e2]
    · cases h

theorem snapOne_sound (h : HRel X E H w) {im' : Nat → Nat → Prop} (hsub : ∀ B o, Im X E H w B o → im' B o) {c c' : AV} {x : Value} (hs : snapOne H c = some c')
    (hz : ∀ b g i o, c = .ptr b g i o → Zone im' E H [b]) (hv : V (Im X E H w) w c E x) : V im' w c' E x := by
  unfold snapOne at hs
  split at hs
  · rename_i b g
    split at hs
    · rename_i size g' row fz hk
      split at hs
      · rename_i hq
        obtain ⟨rfl, hd⟩ := hq
        cases hs
        obtain ⟨l, C, t, hE, hl, hg, hsz, hK, hh, hC, hR⟩ := h.own hk (V_ptr_has hv)
        simp only [V] at hv
        obtain ⟨l', p, hE', _, rfl, hp⟩ := hv
        rw [hE] at hE'
        cases hE'
        obtain ⟨h1, h2⟩ := hR 0 row rfl
        simp only [V]
        refine ⟨l.B, l.o, by rw [hp hl hg]; simp, VR_of_get fun j c hj => ?_⟩
        obtain ⟨y, hy, hy1, hyv⟩ := h2 j c hj
        have hjl : j < row.length := by
          rcases Nat.lt_or_ge j row.length with h9 | h9
          · exact h9
          · rw [List.getElem?_eq_none h9] at hj; cases hj
        refine ⟨hz b g 0 0 rfl b (by simp) l size g _ fz hE hl hk _ (by simp; omega), y, by simpa [World.cell?, hh] using hy, hy1, ?_⟩
        exact V_mono (w := w) (fun B o hb => ⟨hsub B o hb, rfl⟩) _ (Le.refl _) (V_data (E' := noE) (isDataL_get hd hj) hyv)
      · cases hs
    · cases hs
  · split at hs
    · rename_i hd
      cases hs
      exact V_mono (w := w) (fun B o hb => ⟨hsub B o hb, rfl⟩) _ (Le.refl _) hv
    · cases hs

theorem snapL_sound (h : HRel X E H w) {im' : Nat → Nat → Prop} (hsub : ∀ B o, Im X E H w B o → im' B o) : ∀ {cs cs' : List AV} {xs : List Value}, snapL H cs = some cs' →
    Zone im' E H (ptrIds cs) → VL (Im X E H w) w cs E xs → VL im' w cs' E xs
  | [], cs', xs, hs, _, hv => by simp only [snapL, Option.some.injEq] at hs; subst hs; simpa [VL] using hv
  | c :: cs, cs', xs, hs, hz, hv => by
    simp only [snapL] at hs
    split at hs
    · rename_i v vs e1 e2
      cases hs
      simp only [VL] at hv ⊢
      obtain ⟨y, r, rfl, h1, h2⟩ := hv
      refine ⟨y, r, rfl, snapOne_sound h hsub e1 (fun b g i o hc => hz.mono fun b' hb' => ?_) h1, snapL_sound h hsub e2 (hz.mono fun b hb => ?_) h2⟩
      · subst hc
        simp at hb'
        simp [ptrIds, hb']
      · unfold ptrIds
        split
        · cases ‹_ :: _ = ([] : List AV)›
        · rename_i he; cases he; simp [hb]
        · rename_i he; cases he; exact hb
    · cases hs

theorem capOf_sound {C : Ctx} (h : HRel X E H w) {f : FuncId} {cs : List AV} {xs : List Value} {r : List AV × List Blk} (hv : VL (Im X E H w) w cs E xs) (hc : capOf C H f cs = some r) :
    Good X E H w (.fn f r.1) r.2 (.func (.func f) #[] xs.toArray) w := by
  unfold capOf at hc
  split at hc
  · simp only [Option.map_eq_some_iff] at hc
    obtain ⟨l, hl, rfl⟩ := hc
    obtain ⟨hm, hms⟩ := HRel.mark (ptrIds cs) h
    refine ⟨E, hm, hms, ?_⟩
    simp only [V]
    exact ⟨_, rfl, by simpa using snapL_sound h (fun B o hi => (hms.im B o hi).1) hl (zone_mark h _) hv⟩
  · cases hc
    refine Good.here h ?_
    simp only [V]
    exact ⟨_, rfl, by simpa using hv⟩

theorem evO_sound {n : Nat} {tmps : Tm} {a : Act} (ht : TRel im w E n tmps a) {x : Option Operand} {v : Option AV} (h : x.mapM (ev tmps) = some v) : VO im w E v (x.map a.eval) := by
  cases x with
  | none => simp at h; subst h; trivial
  | some x =>
    simp only [Option.mapM_some, Option.map_eq_map, Option.map_eq_some_iff] at h
    obtain ⟨u, hu, rfl⟩ := h
    exact ev_sound ht hu

theorem args2 {args : Array Operand} {a : Act} {s x : AV} (h : VL im w [s, x] E (args.toList.map a.eval)) : ∃ y z, args.map a.eval = #[y, z] ∧ V im w s E y ∧ V im w x E z := by
  simp only [VL] at h
  obtain ⟨y, r, h1, h2, z, r', h3, h4, rfl⟩ := h
  refine ⟨y, z, ?_, h2, h4⟩
  apply Array.toList_inj.1
  rw [Array.toList_map, h1, h3]

theorem args1 {args : Array Operand} {a : Act} {s : AV} (h : VL im w [s] E (args.toList.map a.eval)) : ∃ y, args.map a.eval = #[y] ∧ V im w s E y := by
  simp only [VL] at h
  obtain ⟨y, r, h1, h2, rfl⟩ := h
  refine ⟨y, ?_, h2⟩
  apply Array.toList_inj.1
  rw [Array.toList_map, h1]

theorem argsC {args : Array Operand} {a : Act} {us : List AV} {vs : List Value} (hc : concL us = some vs) (h : VL im w us E (args.toList.map a.eval)) : args.map a.eval = vs.toArray := by
  have := VL_conc hc h
  apply Array.toList_inj.1
  rw [Array.toList_map, this]

set_option maxHeartbeats 1600000 in
theorem evalOp_sound {C : Ctx} {call : CallT} (hc : CallOK C.P call) (hp : ∀ f F, C.prims f = some F → PrimOK C.P f F)
    (hname : ∀ (f : FuncId) (fn : Func), C.P.funcs[f]? = some fn → fn.name ≠ "runtime.NumGoroutine") (h : HRel X E H w) {n : Nat} {tmps : Tm} {a : Act} (ht : TRel (Im X E H w) w E n tmps a)
    {o : Oper} {r : ORes} (hv : evalOp C call none tmps H o = some r) {next : Act → World → Prop} {Q : Exit → Act → World → Prop} (hq : OpSpec X E H w a o next Q r) : o.wp C.P a w next Q := by
  unfold evalOp at hv
  simp only at hv
  split at hv
  · -- move
    rename_i x ho
    simp only [Option.map_eq_some_iff] at hv
    obtain ⟨v, hv, rfl⟩ := hv
    exact wp_val (pure (a.eval x)) (by simp only [execOp, ho] <;> rfl) rfl (hq _ _ (Good.here h (ev_sound ht hv)))
  · -- assign
    rename_i x ho
    simp only [Option.map_eq_some_iff] at hv
    obtain ⟨v, hv, rfl⟩ := hv
    exact wp_val (pure (a.eval x)) (by simp only [execOp, ho] <;> rfl) rfl (hq _ _ (Good.here h (ev_sound ht hv)))
  · -- pick
    rename_i c x y ho
    split at hv
    · rename_i b hb
      simp only [Option.map_eq_some_iff] at hv
      obtain ⟨v, hv, rfl⟩ := hv
      have h1 := ev_sound ht hb
      simp only [V] at h1
      have hexec : execOp a.eval o = (do let v ← (pure (if b then a.eval x else a.eval y) : Sem Value); pure (.value v)) := by
        simp only [execOp, ho, h1, asBool]
        rfl
      refine wp_val _ hexec rfl (hq _ _ (Good.here h ?_))
      cases b
      · exact ev_sound ht hv
      · exact ev_sound ht hv
    · cases hv
  · -- alloc
    rename_i t ho
    simp only [valOf, Option.map_eq_some_iff] at hv
    obtain ⟨⟨v, H'⟩, hv, rfl⟩ := hv
    obtain ⟨x, w', hr, hg⟩ := allocA_sound h hv (.tuple #[])
    exact wp_val _ (by simp only [execOp, ho] <;> rfl) hr (hq _ _ hg)
  · -- box
    rename_i t x ho
    simp only [valOf, Option.bind_eq_some_iff, Option.map_eq_some_iff] at hv
    obtain ⟨u, hu, ⟨v, H'⟩, hv, rfl⟩ := hv
    obtain ⟨y, w', hr, hg⟩ := boxA_sound (P := C.P) (t := t) h (ev_sound ht hu) hv
    exact wp_val _ (by simp only [execOp, ho] <;> rfl) hr (hq _ _ hg)
  · -- build
    rename_i t ps ho
    simp only [Option.bind_eq_some_iff, Option.map_eq_some_iff] at hv
    obtain ⟨us, hu, v, hv, rfl⟩ := hv
    have hl := evL_length hu
    have hx := evL_sound ht hu
    obtain ⟨z1, z2, _⟩ := VL_zip (ns := ps.toList.map (·.1)) (us := us) (by simpa using hl.symm) hx
    obtain ⟨y, hr, hg⟩ := buildA_sound (P := C.P) h (vs := ps.map fun (i, x) => (i, a.eval x)) hv (by rw [z2]; simp) (by rw [z1]; simpa [List.map_map, Function.comp_def] using hx)
    exact wp_val _ (by simp only [execOp, ho] <;> rfl) hr (hq _ _ (Good.here h hg))
  · -- buildSlice
    rename_i t m ps ho
    simp only [valOf, Option.bind_eq_some_iff, Option.map_eq_some_iff] at hv
    obtain ⟨us, hu, ⟨v, H'⟩, hv, rfl⟩ := hv
    have hl := evL_length hu
    have hx := evL_sound ht hu
    obtain ⟨z1, z2, _⟩ := VL_zip (ns := ps.toList.map (·.1)) (us := us) (by simpa using hl.symm) hx
    obtain ⟨y, w', hr, hg⟩ := buildSliceA_sound (P := C.P) h (vs := ps.map fun (i, x) => (i, a.eval x)) hv (by rw [z2]; simp) (by rw [z1]; simpa [List.map_map, Function.comp_def] using hx)
    exact wp_val _ (by simp only [execOp, ho] <;> rfl) hr (hq _ _ hg)
  · -- load
    rename_i t x ho
    simp only [Option.bind_eq_some_iff, Option.map_eq_some_iff] at hv
    obtain ⟨u, hu, v, hv, rfl⟩ := hv
    obtain ⟨y, hr, hg⟩ := loadA_sound h (ev_sound ht hu) hv
    exact wp_val _ (by simp only [execOp, ho] <;> rfl) hr (hq _ _ (Good.here h hg))
  · -- store
    rename_i t x y ho
    split at hv
    · rename_i u v hu hy
      simp only [Option.map_eq_some_iff] at hv
      obtain ⟨H', hv, rfl⟩ := hv
      obtain ⟨w', hr, h1, h2⟩ := storeA_sound (P := C.P) h (ev_sound ht hu) (ev_sound ht hy) hv
      exact wp_unit _ (by simp only [execOp, ho] <;> rfl) hr (hq _ h1 h2)
    · cases hv
  · -- nilCheck
    rename_i x ho
    split at hv
    · rename_i b g i off hx
      cases hv
      have hx := ev_sound ht hx
      have hx' := hx
      simp only [V] at hx'
      obtain ⟨l, ad, _, _, hz, _⟩ := hx'
      exact wp_val (pure (a.eval x)) (by simp only [execOp, ho, hz] <;> rfl) rfl (hq _ _ (Good.here h hx))
    · rename_i r off hx
      cases hv
      have hx := ev_sound ht hx
      have hx' := hx
      simp only [V] at hx'
      obtain ⟨B, oo, hz, _⟩ := hx'
      exact wp_val (pure (a.eval x)) (by simp only [execOp, ho, hz] <;> rfl) rfl (hq _ _ (Good.here h hx))
    · rename_i f cs hx
      cases hv
      have hx := ev_sound ht hx
      have hx' := hx
      simp only [V] at hx'
      obtain ⟨vs, hz, _⟩ := hx'
      exact wp_val (pure (a.eval x)) (by simp only [execOp, ho, hz] <;> rfl) rfl (hq _ _ (Good.here h hx))
    · cases hv
  · -- binOp
    rename_i op t x y k ho
    split at hv
    · rename_i u v hu hy
      simp only [Option.map_eq_some_iff] at hv
      obtain ⟨z, hv, rfl⟩ := hv
      obtain ⟨r, hr, hz⟩ := binA_sound (w := w) (P := C.P) (ev_sound ht hu) (ev_sound ht hy) t x y hv
      exact wp_val _ (by simp only [execOp, ho] <;> rfl) hr (hq _ _ (Good.here h hz))
    · cases hv
  · -- unOp
    rename_i op k x ho
    simp only [Option.bind_eq_some_iff, Option.map_eq_some_iff] at hv
    obtain ⟨z, ⟨v, ⟨u, hu, hc1⟩, r, hr, rfl⟩, rfl⟩ := hv
    have hz := V_conc hc1 (ev_sound ht hu)
    exact wp_val _ (by simp only [execOp, ho, hz] <;> rfl) (pureRun_run C.P _ _ hr w) (hq _ _ (Good.here h (V_absV E r)))
  · -- convert
    rename_i s d x ho
    simp only [Option.bind_eq_some_iff, Option.map_eq_some_iff] at hv
    obtain ⟨u, hu, v, hv, rfl⟩ := hv
    obtain ⟨y, w', hr, hg⟩ := convert_sound h (ev_sound ht hu) hv
    exact wp_val _ (by simp only [execOp, ho] <;> rfl) hr (hq _ _ hg)
  · -- makeInterface
    rename_i t x ho
    split at hv
    · cases hv
    · cases hv
    · rename_i hn1 hn2
      simp only [Option.map_eq_some_iff] at hv
      obtain ⟨v, ⟨u, hu, rfl⟩, rfl⟩ := hv
      have hr : (Instr.makeInterface t (a.eval x)).run C.P w = .ok (.iface t (a.eval x)) w := by
        cases ht' : C.P.underlying t with
        | none => exact absurd ht' hn2
        | some d =>
          unfold Instr.makeInterface
          rw [Sem.run_bind, run_underlying ht', Result.andThen_ok]
          cases d <;> first | rfl | exact absurd ht' (hn1 _)
      exact wp_val _ (by simp only [execOp, ho] <;> rfl) hr (hq _ _ (Good.here h (by simp only [V]; exact ⟨_, rfl, ev_sound ht hu⟩)))
  · -- makeFunc
    rename_i f fs cs ho
    split at hv
    · rename_i hfs
      simp only [Option.bind_eq_some_iff, Option.map_eq_some_iff] at hv
      obtain ⟨us, hu, r1, hv, rfl⟩ := hv
      have hg := capOf_sound h (evL_sound ht hu) hv
      have hfe : fs = #[] := Array.eq_empty_of_size_eq_zero hfs
      refine wp_val (pure (.func (.func f) #[] (cs.toList.map a.eval).toArray)) ?_ rfl (hq _ _ hg)
      have hca : (cs.toList.map a.eval).toArray = cs.map a.eval := by rw [← Array.toList_map]
      simp only [execOp, ho, Instr.makeFunc, hfe, hca, Array.map_empty]
    · cases hv
  · -- makeMap
    rename_i t ho
    simp only [valOf, Option.map_eq_some_iff] at hv
    obtain ⟨r1, ⟨⟨b, H'⟩, hv, rfl⟩, rfl⟩ := hv
    obtain ⟨h1, h2⟩ := h.lay hv (o := .map #[] 0) (w' := w.alloc (.map #[] 0)) rfl
      (l := { live := true, g := 0, B := w.heap.size, o := 0, K := 0, size := 0 }) rfl rfl (fun im' him hle ho => ⟨_, #[], rfl, rfl, rfl, ho, rfl⟩)
    have hr : (Instr.makeMap t none).run C.P w = .ok (.map (some w.heap.size)) (w.alloc (.map #[] 0)) := by simp [Instr.makeMap]
    refine wp_val _ (by simp only [execOp, ho] <;> rfl) hr (hq _ _ ⟨_, h1, h2, ?_⟩)
    simp only [V]
    exact ⟨_, _, upd_same _ _ _, rfl, fun _ _ => rfl⟩
  · -- makeSlice
    rename_i t x y ho
    split at hv
    · rename_i u v hu hy
      simp only [valOf, Option.map_eq_some_iff] at hv
      obtain ⟨⟨z, H'⟩, hv, rfl⟩ := hv
      obtain ⟨r, w', hr, hg⟩ := makeSliceA_sound (P := C.P) h (ev_sound ht hu) (ev_sound ht hy) hv
      exact wp_val _ (by simp only [execOp, ho] <;> rfl) hr (hq _ _ hg)
    · cases hv
  · -- slice
    rename_i t x lo hi mx ho
    split at hv
    · rename_i u lo' hi' mx' hu h1 h2 h3
      simp only [valOf, Option.map_eq_some_iff] at hv
      obtain ⟨⟨z, H'⟩, hv, rfl⟩ := hv
      obtain ⟨r, w', hr, hg⟩ := sliceA_sound (P := C.P) h (ev_sound ht hu) (evO_sound ht h1) (evO_sound ht h2) (evO_sound ht h3) hv
      exact wp_val _ (by simp only [execOp, ho] <;> rfl) hr (hq _ _ hg)
    · cases hv
  · -- fieldAddr
    rename_i t x f ho
    simp only [Option.bind_eq_some_iff, Option.map_eq_some_iff] at hv
    obtain ⟨u, hu, v, hv, rfl⟩ := hv
    obtain ⟨y, hr, hg⟩ := fieldAddrA_sound (P := C.P) (ev_sound ht hu) hv
    exact wp_val _ (by simp only [execOp, ho] <;> rfl) hr (hq _ _ (Good.here h hg))
  · -- field
    rename_i t x f ho
    simp only [Option.bind_eq_some_iff, Option.map_eq_some_iff] at hv
    obtain ⟨u, hu, v, hv, rfl⟩ := hv
    obtain ⟨y, hr, hg⟩ := fieldA_sound (P := C.P) (ev_sound ht hu) hv
    exact wp_val _ (by simp only [execOp, ho] <;> rfl) hr (hq _ _ (Good.here h hg))
  · -- indexAddr
    rename_i t x i ho
    split at hv
    · rename_i u v hu hy
      simp only [Option.map_eq_some_iff] at hv
      obtain ⟨z, hv, rfl⟩ := hv
      obtain ⟨r, hr, hz⟩ := indexAddrA_sound (P := C.P) h (ev_sound ht hu) (ev_sound ht hy) hv
      exact wp_val _ (by simp only [execOp, ho] <;> rfl) hr (hq _ _ (Good.here h hz))
    · cases hv
  · -- index
    rename_i t x i ho
    split at hv
    · rename_i u v hu hy
      simp only [Option.bind_eq_some_iff] at hu hy
      obtain ⟨u', hu', hc1⟩ := hu
      obtain ⟨v', hv', hc2⟩ := hy
      simp only [Option.map_eq_some_iff] at hv
      obtain ⟨z, ⟨r, hr, rfl⟩, rfl⟩ := hv
      have e1 := V_conc hc1 (ev_sound ht hu')
      have e2 := V_conc hc2 (ev_sound ht hv')
      exact wp_val _ (by simp only [execOp, ho, e1, e2] <;> rfl) (pureRun_run C.P _ _ hr w) (hq _ _ (Good.here h (V_absV E r)))
    · cases hv
  · -- extract
    rename_i t i ho
    split at hv
    · rename_i vs hx
      simp only [Option.map_eq_some_iff] at hv
      obtain ⟨v, hv, rfl⟩ := hv
      have hx := ev_sound ht hx
      simp only [V] at hx
      obtain ⟨ws, hz, hl⟩ := hx
      obtain ⟨y, hy, hyv⟩ := VL_get hl hv
      have hy' : ws[i]? = some y := by simpa using hy
      have hr : (Instr.extract (a.eval t) i).run C.P w = .ok y w := by
        simp only [Instr.extract, hz, hy']
        rfl
      exact wp_val _ (by simp only [execOp, ho] <;> rfl) hr (hq _ _ (Good.here h hyv))
    · cases hv
  · -- append
    rename_i args tys ho
    split at hv
    · rename_i s x hu
      simp only [valOf, Option.map_eq_some_iff] at hv
      obtain ⟨⟨z, H'⟩, hv, rfl⟩ := hv
      obtain ⟨y1, y2, he, h1, h2⟩ := args2 (evL_sound ht hu)
      obtain ⟨r, w', hr, hg⟩ := appendA_sound (P := C.P) h h1 h2 hv o.type
      exact wp_val _ (by simp only [execOp, ho, resolve, invoke, builtin, he] <;> rfl) hr (hq _ _ hg)
    · cases hv
  · -- len
    rename_i args tys ho
    split at hv
    · rename_i x t hu h0
      simp only [Option.map_eq_some_iff] at hv
      obtain ⟨z, hv, rfl⟩ := hv
      obtain ⟨y1, he, h1⟩ := args1 (evL_sound ht hu)
      obtain ⟨r, hr, hg⟩ := lenA_sound (P := C.P) (ty := o.type) h h0 h1 hv
      exact wp_val _ (by simp only [execOp, ho, resolve, invoke, builtin, he] <;> rfl) hr (hq _ _ (Good.here h hg))
    · cases hv
  · -- max
    rename_i args tys ho
    split at hv
    · rename_i vs hu
      simp only [Option.bind_eq_some_iff] at hu
      obtain ⟨us, hu, hcc⟩ := hu
      simp only [Option.map_eq_some_iff] at hv
      obtain ⟨z, ⟨r, hr, rfl⟩, rfl⟩ := hv
      have he := argsC hcc (evL_sound ht hu)
      exact wp_val (Builtin.max_ tys o.type vs.toArray) (by simp only [execOp, ho, resolve, invoke, builtin, he] <;> rfl) (pureRun_run C.P _ _ hr w) (hq _ _ (Good.here h (V_absV E r)))
    · cases hv
  · -- min
    rename_i args tys ho
    split at hv
    · rename_i vs hu
      simp only [Option.bind_eq_some_iff] at hu
      obtain ⟨us, hu, hcc⟩ := hu
      simp only [Option.map_eq_some_iff] at hv
      obtain ⟨z, ⟨r, hr, rfl⟩, rfl⟩ := hv
      have he := argsC hcc (evL_sound ht hu)
      exact wp_val (Builtin.min_ tys o.type vs.toArray) (by simp only [execOp, ho, resolve, invoke, builtin, he] <;> rfl) (pureRun_run C.P _ _ hr w) (hq _ _ (Good.here h (V_absV E r)))
    · cases hv
  · -- a call
    rename_i f args tys ho
    split at hv
    · rename_i g cs us hf hu
      have hf := ev_sound ht hf
      have hu := evL_sound ht hu
      simp only [V] at hf
      obtain ⟨vs, hz, hl⟩ := hf
      refine wp_callA hc hp hname h (VL_append hu hl) hv ?_ hq
      have he : (args.toList.map a.eval ++ vs.toList).toArray = args.map a.eval ++ vs := by
        apply Array.toList_inj.1
        simp
      simp only [execOp, ho, resolve, hz, Deferred.ofValue, he]
      simp [invoke]
    · rename_i g fs cs us hf hu
      split at hv
      · rename_i hse
        have hf := ev_sound ht hf
        have hu := evL_sound ht hu
        simp only [V] at hf
        refine wp_callA hc hp hname h hu hv ?_ hq
        have h1 : fs = #[] := Array.eq_empty_of_size_eq_zero hse.1
        have h2 : cs = #[] := Array.eq_empty_of_size_eq_zero hse.2
        have he : (args.toList.map a.eval).toArray = args.map a.eval := by
          apply Array.toList_inj.1
          simp
        simp only [execOp, ho, resolve, hf, Deferred.ofValue, he, h1, h2]
        simp [invoke]
      · cases hv
    · cases hv
  · -- delete
    rename_i args tys ho
    split at hv
    · rename_i m k t hu h0
      simp only [Option.map_eq_some_iff] at hv
      obtain ⟨z, hv, rfl⟩ := hv
      obtain ⟨y1, y2, he, h1, h2⟩ := args2 (evL_sound ht hu)
      obtain ⟨w', hr, hg, hs⟩ := deleteA_sound (P := C.P) (ty := o.type) h h0 h1 h2 hv
      exact wp_val _ (by simp only [execOp, ho, resolve, invoke, builtin, he] <;> rfl) hr (hq _ _ ⟨_, hg, hs, by simp [V, unit]⟩)
    · cases hv
  · -- clear
    rename_i args tys ho
    split at hv
    · rename_i m t hu h0
      simp only [Option.map_eq_some_iff] at hv
      obtain ⟨z, hv, rfl⟩ := hv
      obtain ⟨y1, he, h1⟩ := args1 (evL_sound ht hu)
      obtain ⟨w', hr, hg, hs⟩ := clearA_sound (P := C.P) (ty := o.type) h h0 h1 hv
      exact wp_val _ (by simp only [execOp, ho, resolve, invoke, builtin, he] <;> rfl) hr (hq _ _ ⟨_, hg, hs, by simp [V, unit]⟩)
    · cases hv
  · -- range
    rename_i t x ho
    simp only [valOf, Option.bind_eq_some_iff, Option.map_eq_some_iff] at hv
    obtain ⟨u, hu, ⟨v, H'⟩, hv, rfl⟩ := hv
    obtain ⟨y, w', hr, hg⟩ := rangeA_sound (P := C.P) h (ev_sound ht hu) hv
    exact wp_val _ (by simp only [execOp, ho] <;> rfl) hr (hq _ _ hg)
  · -- next
    rename_i x str ho
    simp only [valOf, Option.bind_eq_some_iff, Option.map_eq_some_iff] at hv
    obtain ⟨u, hu, ⟨v, H'⟩, hv, rfl⟩ := hv
    obtain ⟨y, w', hr, hg⟩ := nextA_sound (P := C.P) (ty := o.type) h (ev_sound ht hu) hv
    exact wp_val _ (by simp only [execOp, ho] <;> rfl) hr (hq _ _ hg)
  · -- lookup
    rename_i t x i ok ho
    split at hv
    · rename_i u v hu hy
      simp only [Option.map_eq_some_iff] at hv
      obtain ⟨z, hv, rfl⟩ := hv
      obtain ⟨r, hr, hz⟩ := lookupA_sound (P := C.P) h (ev_sound ht hu) (ev_sound ht hy) hv
      exact wp_val _ (by simp only [execOp, ho] <;> rfl) hr (hq _ _ (Good.here h hz))
    · cases hv
  · -- mapUpdate
    rename_i t m k x ho
    split at hv
    · rename_i u v y hu hk hy
      simp only [Option.map_eq_some_iff] at hv
      obtain ⟨H', hv, rfl⟩ := hv
      obtain ⟨w', hr, h1, h2⟩ := mapUpdateA_sound (P := C.P) h (ev_sound ht hu) (ev_sound ht hk) (ev_sound ht hy) hv
      exact wp_unit _ (by simp only [execOp, ho] <;> rfl) hr (hq _ h1 h2)
    · cases hv
  · -- insert
    rename_i t m k x ho
    split at hv
    · rename_i u v y hu hk hy
      simp only [Option.map_eq_some_iff] at hv
      obtain ⟨H', hv, rfl⟩ := hv
      obtain ⟨w', hr, h1, h2⟩ := mapUpdateA_sound (P := C.P) h (ev_sound ht hu) (ev_sound ht hk) (ev_sound ht hy) hv
      exact wp_unit _ (by simp only [execOp, ho] <;> rfl) hr (hq _ h1 h2)
    · cases hv
  · -- defer
    rename_i f args tys ho
    split at hv
    · rename_i g cs hf
      split at hv
      · rename_i hse
        cases hv
        have hf := ev_sound ht hf
        simp only [V] at hf
        obtain ⟨vs, hz, hl⟩ := hf
        have h1 : args = #[] := Array.eq_empty_of_size_eq_zero hse
        have := hq vs.toList hl
        unfold Oper.wp
        have hrun : (execOp a.eval o).run C.P w = .ok (.defer { target := .fn (.func g) vs, args := #[] }) w := by
          simp only [execOp, ho, resolve, hz, Deferred.ofValue, h1, Array.map_empty, Array.append_empty]
          rfl
        rw [hrun]
        simpa [Oper.upon] using this
      · cases hv
    · cases hv
  · -- panic
    rename_i x ho
    split at hv
    · rename_i t v hx
      cases hv
      have hx := ev_sound ht hx
      have hx' := hx
      simp only [V] at hx'
      obtain ⟨y, hz, hy⟩ := hx'
      unfold Oper.wp
      have hrun : (execOp a.eval o).run C.P w = .halt (.panic (a.eval x)) w := by
        simp only [execOp, ho, hz]
        rfl
      rw [hrun]
      simp only [Oper.upon]
      exact hq _ _ (Good.here h hx)
    · cases hv
  · cases hv

end
end Go.Ai
