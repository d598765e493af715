/-
  WHOLE CALLS: what the evaluator tells of a call, the machine does.
-/
import Derived.Test.YtndloeajkfajnaaAiFlow
import Derived.Laws.Sem
set_option linter.unusedVariables false
set_option linter.unusedSimpArgs false
namespace Go.Ai
section
variable {P : Program} {C : Ctx} {X : Nat → Nat → Prop} {E E0 E1 : Env} {H H0 H1 : List Blk} {w w0 w1 : World} {im : Nat → Nat → Prop}

/-- How a deferred function finds the frame that left. -/
def Met (im : Nat → Nat → Prop) (w : World) (E : Env) (u : FrameMode) : Option AV → Prop
  | none => u = .returning
  | some v => ∃ x, u = .panicking [{ v := x, recovered := false }] ∧ V im w v E x

/-- What is told of a deferred function beforehand: given its cells, the panic it meets, and the heap: has it recovered? and the heap behind it. -/
def RecOK (P : Program) (g : FuncId) (F : List AV → Option AV → List Blk → Option (Bool × List Blk)) : Prop :=
  ∀ cs e H back H', F cs e H = some (back, H') → (∃ fn, P.funcs[g]? = some fn ∧ fn.body.isSome = true) ∧
    ∀ (X : Nat → Nat → Prop) (E : Env) (w : World) (vs : List Value) (u : FrameMode), HRel X E H w → VL (Im X E H w) w cs E vs →
      Met (Im X E H w) w E u e →
      CallsD P g vs.toArray u w fun en u' w' => ∃ x E', en = .returned x ∧ settle u' = (match e, back with
        | some _, false => u
        | _, _ => .returning) ∧ HRel X E' H' w' ∧ Step X E H w E' H' w'

theorem callFunc_run {f : FuncId} {args : Array Value} (hname : ∀ (f : FuncId) (fn : Func), P.funcs[f]? = some fn → fn.name ≠ "runtime.NumGoroutine") (hb : ∃ fn, P.funcs[f]? = some fn ∧ fn.body.isSome = true) (w : World) :
    (callFunc f args).run P w = .ok (.enter f args) w := by
  obtain ⟨fn, hf, hbody⟩ := hb
  have hn : (fn.name == "runtime.NumGoroutine") = false := by simpa using hname f fn hf
  unfold callFunc
  have : fn.body.isNone = false := by cases hfb : fn.body <;> simp_all
  rw [Sem.run_bind]
  simp only [program, Sem.run, Result.andThen_ok, hf, hn, this]
  rfl

theorem initT_get : ∀ (args : List AV) (i t : Nat), getT (initT i args) t = if i ≤ t then (args[t - i]?).getD .undef else .undef
  | [], i, t => by simp [initT, getT]
  | v :: vs, i, t => by
    simp only [initT]
    rw [getT_cons, initT_get vs (i + 1) t]
    by_cases h : i = t
    · subst h; simp
    · rw [if_neg h]
      by_cases h2 : i + 1 ≤ t
      · rw [if_pos h2, if_pos (by omega), show t - i = (t - (i + 1)) + 1 by omega, List.getElem?_cons_succ]
      · rw [if_neg h2, if_neg (by omega)]

theorem init_TRel {args : List AV} {vs : List Value} {k : Nat} (hv : VL im w args E vs) : TRel im w E (args.length + (k - args.length)) (initT 0 args) { tmps := vs.toArray ++ Array.replicate (k - vs.toArray.size) Go.undef, defers := [] } := by
  have hl := VL_length hv
  refine ⟨by simp [hl], fun t => ?_⟩
  rw [initT_get]
  simp only [Nat.zero_le, if_true, Nat.sub_zero]
  cases hc : args[t]? with
  | none => simp [V]
  | some c =>
    obtain ⟨x, hx, hxv⟩ := VL_get hv hc
    have hlt : t < vs.length := by
      rcases Nat.lt_or_ge t vs.length with h9 | h9
      · exact h9
      · rw [List.getElem?_eq_none h9] at hx; cases hx
    simp only [Option.getD_some]
    rw [Array.getD_eq_getD_getElem?, Array.getElem?_append_left (by simpa using hlt)]
    simp only [List.getElem?_toArray, hx, Option.getD_some]
    exact hxv

/-! ### results -/

def resM (tmps : Array Value) : ResultVar → Sem Value
  | .tmp t => pure (tmps.getD t undef)
  | .cell a t => do loadVar t (← asAddr (tmps.getD a undef))

theorem results_eq (fn : Func) (tmps : Array Value) : results fn tmps = (do let vs ← fn.results.mapM (resM tmps); pure (if h : vs.size = 1 then vs[0] else .tuple vs)) := by
  unfold results
  congr 1

theorem resultA_sound (h : HRel X E H w) {n : Nat} {tmps : Tm} {a : Act} (ht : TRel (Im X E H w) w E n tmps a) {r : ResultVar} {v : AV} (hv : resultA P tmps H r = some v) :
    ∃ y, (resM a.tmps r).run P w = .ok y w ∧ V (Im X E H w) w v E y := by
  cases r with
  | tmp t =>
    simp only [resultA, Option.some.injEq] at hv
    subst hv
    exact ⟨_, rfl, ht.2 t⟩
  | cell c t =>
    simp only [resultA] at hv
    have hc := ht.2 c
    obtain ⟨y, hy, hyv⟩ := loadA_sound (P := P) h hc hv
    refine ⟨y, ?_, hyv⟩
    have hptr : ∃ p, a.tmps.getD c Go.undef = .pointer (some p) := by
      unfold loadA at hv
      split at hv
      · rename_i e
        rw [e] at hc
        simp only [V] at hc
        obtain ⟨l, p, _, _, hx, _⟩ := hc
        exact ⟨p, hx⟩
      · rename_i e
        rw [e] at hc
        simp only [V] at hc
        obtain ⟨B, o, hx, _⟩ := hc
        exact ⟨_, hx⟩
      · cases hv
    obtain ⟨p, hp⟩ := hptr
    simp only [Instr.loadAt, hp, Instr.sureAddr] at hy
    simp only [resM, hp, asAddr]
    exact hy

theorem resultsA_sound (h : HRel X E H w) {n : Nat} {tmps : Tm} {a : Act} (ht : TRel (Im X E H w) w E n tmps a) : ∀ {rs : List ResultVar} {vs : List AV}, resultsA P tmps H rs = some vs →
    ∃ ys, (rs.mapM (resM a.tmps)).run P w = .ok ys w ∧ VL (Im X E H w) w vs E ys
  | [], vs, hv => by
    simp only [resultsA, Option.some.injEq] at hv
    subst hv
    exact ⟨[], rfl, by simp [VL]⟩
  | r :: rs, vs, hv => by
    simp only [resultsA] at hv
    split at hv
    · rename_i v us e1 e2
      cases hv
      obtain ⟨y, h1, h2⟩ := resultA_sound h ht e1
      obtain ⟨ys, h3, h4⟩ := resultsA_sound h ht e2
      refine ⟨y :: ys, ?_, by simp only [VL]; exact ⟨y, ys, rfl, h2, h4⟩⟩
      rw [List.mapM_cons]
      simp only [Sem.run_bind, h1, h3, Result.andThen_ok, Sem.run_pure]
    · cases hv

theorem results_sound (h : HRel X E H w) {n : Nat} {tmps : Tm} {a : Act} (ht : TRel (Im X E H w) w E n tmps a) {fn : Func} {vs : List AV} (hv : resultsA P tmps H fn.results.toList = some vs) :
    ∃ y, (results fn a.tmps).run P w = .ok y w ∧ V (Im X E H w) w (oneOr vs) E y := by
  obtain ⟨ys, h1, h2⟩ := resultsA_sound h ht hv
  rw [results_eq, Array.mapM_eq_mapM_toList]
  have hl := VL_length h2
  refine ⟨if h : ys.toArray.size = 1 then ys.toArray[0] else .tuple ys.toArray, ?_, ?_⟩
  · simp only [Sem.run_bind, map_eq_pure_bind, h1, Result.andThen_ok, Sem.run_pure]
  · cases vs with
    | nil =>
      simp only [VL] at h2
      subst h2
      simp [oneOr, unit, V]
    | cons v vs =>
      cases vs with
      | nil =>
        simp only [VL] at h2
        obtain ⟨y, r, rfl, h3, rfl⟩ := h2
        simpa [oneOr] using h3
      | cons v2 vs =>
        have : ys.toArray.size ≠ 1 := by simp at hl ⊢; omega
        rw [dif_neg this]
        simp only [oneOr, V]
        exact ⟨_, rfl, by simpa using h2⟩

/-! ### leaving -/

theorem leave_sound (hr : ∀ g F, C.recs g = some F → RecOK C.P g F) (hname : ∀ (f : FuncId) (fn : Func), C.P.funcs[f]? = some fn → fn.name ≠ "runtime.NumGoroutine") {fn : Func} {e : Option AV} {st : St} {r : CRes} {H1 : List Blk}
    (hl : leaveA C fn e st = some (r, H1)) {pv : AV} {a : Act} {px : Value} {u : FrameMode} (hs : SR X E0 H0 w0 st pv a w px) (hu : match e with
        | none => u = .returning
        | some v => u = .panicking [{ v := px, recovered := false }] ∧ pv = v) : Leaves C.P fn a.tmps (Ends X E0 H0 w0 r H1) a.defers u w := by
  obtain ⟨E, h, hst, ht, hd, hpv⟩ := hs
  unfold leaveA at hl
  split at hl
  · rename_i hds
    rw [hds] at hd
    simp only [DRel] at hd
    rw [hd]
    cases e with
    | none =>
      simp only at hu
      subst hu
      simp only [Option.map_eq_some_iff] at hl
      obtain ⟨vs, hvs, he⟩ := hl
      cases he
      obtain ⟨y, h1, h2⟩ := results_sound h ht hvs
      exact ⟨y, h1, y, rfl, E, h, hst, h2⟩
    | some v =>
      simp only at hu
      obtain ⟨rfl, rfl⟩ := hu
      cases hl
      exact ⟨px, rfl, E, h, hst, hpv⟩
  · rename_i g cs hds
    rw [hds] at hd
    simp only [DRel] at hd
    obtain ⟨vs, l, hdd, hcs, rfl⟩ := hd
    rw [hdd]
    split at hl
    case h_2 => cases hl
    rename_i F hF
    split at hl
    case h_2 => cases hl
    rename_i back H2 hFv
    obtain ⟨hb, hcall⟩ := hr g F hF cs e st.heap back H2 hFv
    simp only [Leaves]
    refine ⟨?_, .func g, vs, g, #[] ++ vs, rfl, callFunc_run hname hb w, ?_⟩
    · cases e with
      | none => simp only at hu; subst hu; simp
      | some v => simp only at hu; rw [hu.1]; simp
    have hu' : Met (Im X E st.heap w) w E u e := by
      cases e with
      | none => exact hu
      | some v => simp only at hu; exact ⟨px, hu.1, hu.2 ▸ hpv⟩
    have := hcall X E w vs.toList u h hcs hu'
    simp only [Array.toArray_toList] at this
    rw [Array.empty_append]
    refine this.mono ?_
    rintro en u' w' ⟨x, E', rfl, hset, h1, hs1⟩
    simp only
    rw [hset]
    have ht1 := ht.mono hs1.im hs1.le
    have retA : (resultsA C.P st.tmps H2 fn.results.toList).map (fun vs => (CRes.ret (oneOr vs), H2)) = some (r, H1) → Leaves C.P fn a.tmps (Ends X E0 H0 w0 r H1) [] .returning w' := by
      intro hq
      simp only [Option.map_eq_some_iff] at hq
      obtain ⟨vs', hvs, he⟩ := hq
      cases he
      obtain ⟨y, h2, h3⟩ := results_sound h1 ht1 hvs
      exact ⟨y, h2, y, rfl, E', h1, hst.trans hs1, h3⟩
    cases e with
    | none => exact retA hl
    | some v =>
      cases back with
      | true => exact retA hl
      | false =>
        simp only at hl hu ⊢
        obtain ⟨rfl, rfl⟩ := hu
        cases hl
        exact ⟨px, rfl, E', h1, hst.trans hs1, hs1.V hpv⟩
  · cases hl

theorem callW_sound (hr : ∀ g F, C.recs g = some F → RecOK C.P g F) (hname : ∀ (f : FuncId) (fn : Func), C.P.funcs[f]? = some fn → fn.name ≠ "runtime.NumGoroutine")
    {ex : Code → St → Option (Ex × St)} (hex : EOK C ex) : CallOK C.P (callW C ex) := by
  intro f args H r H1 hc
  unfold callW at hc
  split at hc
  · cases hc
  · rename_i fn hf
    split at hc
    · cases hc
    · rename_i body hbody
      refine ⟨⟨fn, hf, by simp [hbody]⟩, fun X E w vs h hv => ?_⟩
      refine calls_of_wp_defers hf hbody ?_
      have hsr : SR X E H w { n := args.length + (fn.ntmps - args.length), tmps := initT 0 args, heap := H, defers := [] } .undef
          { tmps := vs.toArray ++ Array.replicate (fn.ntmps - vs.toArray.size) Go.undef, defers := [] } w Go.undef :=
        ⟨E, h, Step.refl, init_TRel hv, rfl, by simp [V]⟩
      split at hc
      · rename_i st he
        refine wp_mono (hex body _ _ he X E H w _ w hsr) ?_
        rintro e a' w' ⟨hp, _⟩
        simp only [Post] at hp
        obtain ⟨rfl, hp⟩ := hp
        exact leave_sound hr hname hc hp rfl
      · rename_i st he
        refine wp_mono (hex body _ _ he X E H w _ w hsr) ?_
        rintro e a' w' ⟨hp, _⟩
        simp only [Post] at hp
        obtain ⟨rfl, hp⟩ := hp
        exact leave_sound hr hname hc hp rfl
      · rename_i v st he
        refine wp_mono (hex body _ _ he X E H w _ w hsr) ?_
        rintro e a' w' ⟨hp, _⟩
        simp only [Post] at hp
        obtain ⟨x, rfl, hp⟩ := hp
        exact leave_sound hr hname hc hp ⟨rfl, rfl⟩
      · cases hc

/-- A program about which what is told beforehand is true. -/
structure Told (C : Ctx) : Prop where
  mix : C.P.follows .mixedOrders = true
  name : ∀ (f : FuncId) (fn : Func), C.P.funcs[f]? = some fn → fn.name ≠ "runtime.NumGoroutine"
  prims : ∀ f F, C.prims f = some F → PrimOK C.P f F
  recs : ∀ g F, C.recs g = some F → RecOK C.P g F

theorem exec_sound (T : Told C) : ∀ n, EOK C (exec C n)
  | 0 => fun c st r hr => by simp [exec] at hr
  | n + 1 => by
    have h := exec_sound T n
    exact execW_sound T.mix (callW_sound T.recs T.name h) T.prims T.name h n

theorem call_sound (T : Told C) (n : Nat) : CallOK C.P (call C n) := callW_sound T.recs T.name (exec_sound T n)

end
end Go.Ai
