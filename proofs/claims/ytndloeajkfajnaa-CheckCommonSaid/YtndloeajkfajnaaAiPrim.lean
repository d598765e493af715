/-
  WHAT IS SHOWN OF A FUNCTION BY THE EVALUATOR IS TOLD OF IT; A LAW BY A RUN WITH UNKNOWNS.
-/
import Derived.Test.YtndloeajkfajnaaAiSym
set_option linter.unusedVariables false
namespace Go.Ai
open Go.RowKit

theorem prim_scalar {C : Ctx} (T : Told C) {f : FuncId} {F : List AV → Option AV} (hp : C.prims f = none) (hb : C.byRef f = false)
    (h : ∀ args v, F args = some v → frzL [] args = some args ∧ isScalar v = true ∧ ∃ n H1, call C n f args [] = some (.ret v, H1)) : PrimOK C.P f F := by
  intro args v hF
  obtain ⟨hz, hs, n, H1, hc⟩ := h args v hF
  refine ⟨(call_sound T n f args [] _ _ hc).1, fun X w vs hX hv => ?_⟩
  have hd : doCall C (call C n) none f args [] = some (.val v []) := by
    unfold doCall
    rw [hp]
    simp only [hb, Bool.false_eq_true, if_false, hz, hc, hs, if_true]
  exact (doCall_sound (call_sound T n) T.prims (HRel_empty hX) hv hd).2

theorem call_of_callP {C : Ctx} {S : Script} {n : Nat} {f : FuncId} {args : List AV} {H : List Blk} {v : AV} (h : callP C S n f args H fun r _ => r = .ret v) : ∃ n H1, call C n f args H = some (.ret v, H1) := by
  obtain ⟨⟨r, H1⟩, hr, hk⟩ := callP_sound h
  simp only at hk
  subst hk
  exact ⟨n, H1, hr⟩

theorem law_holds {C : Ctx} (T : Told C) {S : Script} {n : Nat} {f : FuncId} {args : List AV} (h : callP C S n f args [] fun r _ => r = .ret (.sc (.bool true))) {w : World} {vs : List Value}
    (hv : VL (Im noX noE [] w) w args noE vs) : Calls C.P f vs.toArray w fun e w' => e = .returned (.bool true) ∧ Below w.heap.size w w' := by
  obtain ⟨n, H1, hc⟩ := call_of_callP h
  exact law_calls T hc hv

theorem law_row {C : Ctx} (T : Told C) {P : Program} (hP : C.P = P) {n : Nat} {f : FuncId} {args : List AV} (h : ∃ S, callP C S n f args [] fun r _ => r = .ret (.sc (.bool true))) {w : World} {vs : List Value} {av : Array Value}
    (ha : av = vs.toArray) (hv : VL (Im noX noE [] w) w args noE vs) : Calls P f av w fun e w' => e = .returned (.bool true) ∧ Below w.heap.size w w' := by
  subst hP
  subst ha
  obtain ⟨S, h⟩ := h
  exact law_holds T h hv

/-! ### whole numbers -/

theorem wrap_i64 (n : Int) : IntKind.i64.wrap n = (n + 9223372036854775808) % 18446744073709551616 - 9223372036854775808 := by
  unfold IntKind.wrap
  simp only [show IntKind.i64.bits = 64 from rfl, show IntKind.i64.signed = true from rfl, Bool.true_and]
  split
  · rename_i h
    simp only [decide_eq_true_eq] at h
    omega
  · rename_i h
    simp only [decide_eq_true_eq] at h
    omega

theorem wrap_u64 (n : Int) : IntKind.u64.wrap n = n % 18446744073709551616 := by
  unfold IntKind.wrap
  rw [show IntKind.u64.signed = false from rfl]
  rfl

theorem i64_wf {a : Int} (h : (Lit.int .i64 a).wf = true) : -9223372036854775808 ≤ a ∧ a < 9223372036854775808 := by
  simp only [Lit.wf, Bool.and_eq_true, decide_eq_true_eq] at h
  have h1 : IntKind.i64.min = -9223372036854775808 := rfl
  have h2 : IntKind.i64.max = 9223372036854775807 := rfl
  omega

theorem u8_wf {a : Int} (h : (Lit.int .u8 a).wf = true) : 0 ≤ a ∧ a < 256 := by
  simp only [Lit.wf, Bool.and_eq_true, decide_eq_true_eq] at h
  have h1 : IntKind.u8.min = 0 := rfl
  have h2 : IntKind.u8.max = 255 := rfl
  omega

end Go.Ai
