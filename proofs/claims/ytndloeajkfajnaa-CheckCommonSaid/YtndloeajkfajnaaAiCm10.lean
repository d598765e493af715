/-
  CheckCommon: the loop over the first stream's fields, whole.
-/
import Derived.Test.YtndloeajkfajnaaAiCm9
set_option linter.unusedVariables false
set_option linter.unusedSimpArgs false
namespace Go.Ai.Cm
open Go.Proofs Go.RowKit

def h12E (d : Nat) : Option Hint := if d = 83 then some (.bit false) else none
def outB (i at_ : Int) (first : Bool) (F0 : AV) (len : Nat) (r : Nat) (R : Tm) (H : List Blk) : St := ⟨148, (83, .sc (.bool false)) :: (82, intN len) :: (81, F0) :: (80, .ptr 0 0 0 1) :: (79, .ptr 0 0 0 0) :: (78, .sl 0 0 0 r none) :: (77, intN i) :: tmpB first i at_ R, H, []⟩

theorem exB_1 (n : Nat) (es : List (List AV)) (cap : Option Nat) (v22 v23 v24 v25 : Value) (C : AV) (i at_ : Int) (s0 : List UInt8) (w0 : List (List AV)) (Q : AV → AV → List Blk → Prop) (X : Ex → St → Prop) : execP CV con45 (n+200) { op := h12E, inl := inlV } bB ⟨148, tmpB false i at_ (RB 1 C es cap v22 v23 v24 v25), [.cells 2 0 [[strN s0, .ro 2 w0 none]] true], []⟩ (KB Q X) =
  (decide (i < w0.length) = false ∧ X (.exit 4) (outB i at_ false (.ro 2 w0 none) w0.length 1 (RB 1 C es cap v22 v23 v24 v25) ([.cells 2 0 [[strN s0, .ro 2 w0 none]] true]))) := by kernel_rfl
theorem exB_2 (n : Nat) (es : List (List AV)) (cap : Option Nat) (v22 v23 v24 v25 : Value) (C : AV) (i at_ : Int) (s0 : List UInt8) (w0 : List (List AV)) (q1 : List AV) (Q : AV → AV → List Blk → Prop) (X : Ex → St → Prop) : execP CV con45 (n+200) { op := h12E, inl := inlV } bB ⟨148, tmpB false i at_ (RB 2 C es cap v22 v23 v24 v25), [.cells 2 0 [[strN s0, .ro 2 w0 none], q1] true], []⟩ (KB Q X) =
  (decide (i < w0.length) = false ∧ X (.exit 4) (outB i at_ false (.ro 2 w0 none) w0.length 2 (RB 2 C es cap v22 v23 v24 v25) ([.cells 2 0 [[strN s0, .ro 2 w0 none], q1] true]))) := by kernel_rfl
theorem exB_3 (n : Nat) (es : List (List AV)) (cap : Option Nat) (v22 v23 v24 v25 : Value) (C : AV) (i at_ : Int) (s0 : List UInt8) (w0 : List (List AV)) (q1 q2 : List AV) (Q : AV → AV → List Blk → Prop) (X : Ex → St → Prop) : execP CV con45 (n+200) { op := h12E, inl := inlV } bB ⟨148, tmpB false i at_ (RB 3 C es cap v22 v23 v24 v25), [.cells 2 0 [[strN s0, .ro 2 w0 none], q1, q2] true], []⟩ (KB Q X) =
  (decide (i < w0.length) = false ∧ X (.exit 4) (outB i at_ false (.ro 2 w0 none) w0.length 3 (RB 3 C es cap v22 v23 v24 v25) ([.cells 2 0 [[strN s0, .ro 2 w0 none], q1, q2] true]))) := by kernel_rfl
theorem exB_4 (n : Nat) (es : List (List AV)) (cap : Option Nat) (v22 v23 v24 v25 : Value) (C : AV) (i at_ : Int) (s0 : List UInt8) (w0 : List (List AV)) (q1 q2 q3 : List AV) (Q : AV → AV → List Blk → Prop) (X : Ex → St → Prop) : execP CV con45 (n+200) { op := h12E, inl := inlV } bB ⟨148, tmpB false i at_ (RB 4 C es cap v22 v23 v24 v25), [.cells 2 0 [[strN s0, .ro 2 w0 none], q1, q2, q3] true], []⟩ (KB Q X) =
  (decide (i < w0.length) = false ∧ X (.exit 4) (outB i at_ false (.ro 2 w0 none) w0.length 4 (RB 4 C es cap v22 v23 v24 v25) ([.cells 2 0 [[strN s0, .ro 2 w0 none], q1, q2, q3] true]))) := by kernel_rfl

/-- One round, whatever the others have. -/
theorem rbF (n : Nat) (es : List (List AV)) (cap : Option Nat) (v22 v23 v24 v25 : Value) (C : List (List AV)) (f : Fld) (gn : Nat → List UInt8) (gk : Nat → Int) (i at_ : Int) (s0 : List UInt8) (w0 : List (List AV)) (rest : List Strm) (hr : rest.length ≤ 3) (Q : AV → AV → List Blk → Prop) (X : Ex → St → Prop) :
    execP CV con45 (n+200) { op := h12B f gn gk, inl := inlV } bB ⟨148, tmpB false i at_ (RB (rest.length + 1) (.ro 2 C none) es cap v22 v23 v24 v25), [.cells 2 0 ([strN s0, .ro 2 w0 none] :: rest.map rowT) true], []⟩ (KB Q X) =
      roundB (n+186) C f gn gk w0 [.cells 2 0 ([strN s0, .ro 2 w0 none] :: rest.map rowT) true] i at_ (rest.map tripleT) Q := by
  match rest, hr with
  | [], _ => exact rb_1_f n es cap v22 v23 v24 v25 C f gn gk i at_ s0 w0 Q X
  | [(n1, a1 :: b1)], _ => exact rb_2t_f n es cap v22 v23 v24 v25 C f gn gk i at_ s0 w0 n1 (rowsC (a1 :: b1)) Q X
  | [(n1, [])], _ => exact rb_2f_f n es cap v22 v23 v24 v25 C f gn gk i at_ s0 w0 n1 (rowsC []) Q X
  | [(n1, a1 :: b1), (n2, a2 :: b2)], _ => exact rb_3tt_f n es cap v22 v23 v24 v25 C f gn gk i at_ s0 w0 n1 (rowsC (a1 :: b1)) n2 (rowsC (a2 :: b2)) Q X
  | [(n1, a1 :: b1), (n2, [])], _ => exact rb_3tf_f n es cap v22 v23 v24 v25 C f gn gk i at_ s0 w0 n1 (rowsC (a1 :: b1)) n2 (rowsC []) Q X
  | [(n1, []), (n2, a2 :: b2)], _ => exact rb_3ft_f n es cap v22 v23 v24 v25 C f gn gk i at_ s0 w0 n1 (rowsC []) n2 (rowsC (a2 :: b2)) Q X
  | [(n1, []), (n2, [])], _ => exact rb_3ff_f n es cap v22 v23 v24 v25 C f gn gk i at_ s0 w0 n1 (rowsC []) n2 (rowsC []) Q X
  | [(n1, a1 :: b1), (n2, a2 :: b2), (n3, a3 :: b3)], _ => exact rb_4ttt_f n es cap v22 v23 v24 v25 C f gn gk i at_ s0 w0 n1 (rowsC (a1 :: b1)) n2 (rowsC (a2 :: b2)) n3 (rowsC (a3 :: b3)) Q X
  | [(n1, a1 :: b1), (n2, a2 :: b2), (n3, [])], _ => exact rb_4ttf_f n es cap v22 v23 v24 v25 C f gn gk i at_ s0 w0 n1 (rowsC (a1 :: b1)) n2 (rowsC (a2 :: b2)) n3 (rowsC []) Q X
  | [(n1, a1 :: b1), (n2, []), (n3, a3 :: b3)], _ => exact rb_4tft_f n es cap v22 v23 v24 v25 C f gn gk i at_ s0 w0 n1 (rowsC (a1 :: b1)) n2 (rowsC []) n3 (rowsC (a3 :: b3)) Q X
  | [(n1, a1 :: b1), (n2, []), (n3, [])], _ => exact rb_4tff_f n es cap v22 v23 v24 v25 C f gn gk i at_ s0 w0 n1 (rowsC (a1 :: b1)) n2 (rowsC []) n3 (rowsC []) Q X
  | [(n1, []), (n2, a2 :: b2), (n3, a3 :: b3)], _ => exact rb_4ftt_f n es cap v22 v23 v24 v25 C f gn gk i at_ s0 w0 n1 (rowsC []) n2 (rowsC (a2 :: b2)) n3 (rowsC (a3 :: b3)) Q X
  | [(n1, []), (n2, a2 :: b2), (n3, [])], _ => exact rb_4ftf_f n es cap v22 v23 v24 v25 C f gn gk i at_ s0 w0 n1 (rowsC []) n2 (rowsC (a2 :: b2)) n3 (rowsC []) Q X
  | [(n1, []), (n2, []), (n3, a3 :: b3)], _ => exact rb_4fft_f n es cap v22 v23 v24 v25 C f gn gk i at_ s0 w0 n1 (rowsC []) n2 (rowsC []) n3 (rowsC (a3 :: b3)) Q X
  | [(n1, []), (n2, []), (n3, [])], _ => exact rb_4fff_f n es cap v22 v23 v24 v25 C f gn gk i at_ s0 w0 n1 (rowsC []) n2 (rowsC []) n3 (rowsC []) Q X
  | _ :: _ :: _ :: _ :: _, hr => simp at hr

theorem rbT (n : Nat) (es : List (List AV)) (cap : Option Nat) (v22 v23 v24 v25 : Value) (C : List (List AV)) (f : Fld) (gn : Nat → List UInt8) (gk : Nat → Int) (s0 : List UInt8) (w0 : List (List AV)) (rest : List Strm) (hr : rest.length ≤ 3) (Q : AV → AV → List Blk → Prop) (X : Ex → St → Prop) :
    execP CV con45 (n+200) { op := h12B f gn gk, inl := inlV } bB ⟨148, tmpB true 0 0 (RB (rest.length + 1) (.ro 2 C none) es cap v22 v23 v24 v25), [.cells 2 0 ([strN s0, .ro 2 w0 none] :: rest.map rowT) true], []⟩ (KB Q X) =
      roundB (n+186) C f gn gk w0 [.cells 2 0 ([strN s0, .ro 2 w0 none] :: rest.map rowT) true] 0 0 (rest.map tripleT) Q := by
  match rest, hr with
  | [], _ => exact rb_1_t n es cap v22 v23 v24 v25 C f gn gk s0 w0 Q X
  | [(n1, a1 :: b1)], _ => exact rb_2t_t n es cap v22 v23 v24 v25 C f gn gk s0 w0 n1 (rowsC (a1 :: b1)) Q X
  | [(n1, [])], _ => exact rb_2f_t n es cap v22 v23 v24 v25 C f gn gk s0 w0 n1 (rowsC []) Q X
  | [(n1, a1 :: b1), (n2, a2 :: b2)], _ => exact rb_3tt_t n es cap v22 v23 v24 v25 C f gn gk s0 w0 n1 (rowsC (a1 :: b1)) n2 (rowsC (a2 :: b2)) Q X
  | [(n1, a1 :: b1), (n2, [])], _ => exact rb_3tf_t n es cap v22 v23 v24 v25 C f gn gk s0 w0 n1 (rowsC (a1 :: b1)) n2 (rowsC []) Q X
  | [(n1, []), (n2, a2 :: b2)], _ => exact rb_3ft_t n es cap v22 v23 v24 v25 C f gn gk s0 w0 n1 (rowsC []) n2 (rowsC (a2 :: b2)) Q X
  | [(n1, []), (n2, [])], _ => exact rb_3ff_t n es cap v22 v23 v24 v25 C f gn gk s0 w0 n1 (rowsC []) n2 (rowsC []) Q X
  | [(n1, a1 :: b1), (n2, a2 :: b2), (n3, a3 :: b3)], _ => exact rb_4ttt_t n es cap v22 v23 v24 v25 C f gn gk s0 w0 n1 (rowsC (a1 :: b1)) n2 (rowsC (a2 :: b2)) n3 (rowsC (a3 :: b3)) Q X
  | [(n1, a1 :: b1), (n2, a2 :: b2), (n3, [])], _ => exact rb_4ttf_t n es cap v22 v23 v24 v25 C f gn gk s0 w0 n1 (rowsC (a1 :: b1)) n2 (rowsC (a2 :: b2)) n3 (rowsC []) Q X
  | [(n1, a1 :: b1), (n2, []), (n3, a3 :: b3)], _ => exact rb_4tft_t n es cap v22 v23 v24 v25 C f gn gk s0 w0 n1 (rowsC (a1 :: b1)) n2 (rowsC []) n3 (rowsC (a3 :: b3)) Q X
  | [(n1, a1 :: b1), (n2, []), (n3, [])], _ => exact rb_4tff_t n es cap v22 v23 v24 v25 C f gn gk s0 w0 n1 (rowsC (a1 :: b1)) n2 (rowsC []) n3 (rowsC []) Q X
  | [(n1, []), (n2, a2 :: b2), (n3, a3 :: b3)], _ => exact rb_4ftt_t n es cap v22 v23 v24 v25 C f gn gk s0 w0 n1 (rowsC []) n2 (rowsC (a2 :: b2)) n3 (rowsC (a3 :: b3)) Q X
  | [(n1, []), (n2, a2 :: b2), (n3, [])], _ => exact rb_4ftf_t n es cap v22 v23 v24 v25 C f gn gk s0 w0 n1 (rowsC []) n2 (rowsC (a2 :: b2)) n3 (rowsC []) Q X
  | [(n1, []), (n2, []), (n3, a3 :: b3)], _ => exact rb_4fft_t n es cap v22 v23 v24 v25 C f gn gk s0 w0 n1 (rowsC []) n2 (rowsC []) n3 (rowsC (a3 :: b3)) Q X
  | [(n1, []), (n2, []), (n3, [])], _ => exact rb_4fff_t n es cap v22 v23 v24 v25 C f gn gk s0 w0 n1 (rowsC []) n2 (rowsC []) n3 (rowsC []) Q X
  | _ :: _ :: _ :: _ :: _, hr => simp at hr

end Go.Ai.Cm
