/-
  ReckonKinds: the run.
-/
import Derived.Test.YtndloeajkfajnaaAiShort2
set_option linter.unusedVariables false
set_option linter.unusedSimpArgs false
namespace Go.Ai
open Go.Proofs Go.RowKit

structure KB where
  okA : Bool
  okB : Bool
  told : Bool := false
  ne : Bool := false
  short : Bool := false
  arith : Bool := false
  isAnd : Bool := false
  isPlus : Bool := false
  less : Bool := false
  same : Bool := false
  more : Bool := false
  k1 : Bool := false

def h9 (op : List UInt8) (P : KB) (d : Nat) : Option Hint := if d = 29 then some .keep else if d = 31 then some .keep else if d = 33 then some .keep else if d = 40 then some (.bit P.okA) else if d = 46 then some (.bit P.okB) else
  if d = 57 then some (.idxIs [.sc (.string ⟨⟨op⟩⟩)]) else if d = 67 then some (.bit P.told) else if d = 72 then some (.bit P.ne) else if d = 74 then some (.bit P.isAnd) else if d = 78 then some (.eqv P.short) else
  if d = 90 then some (.bit P.less) else if d = 95 then some (.bit P.same) else if d = 100 then some (.bit P.more) else if d = 134 then some (.bit P.arith) else if d = 143 then some (.eqv P.same) else
  if d = 151 then some (.bit !P.more) else if d = 161 then some (.bit !P.less) else if d = 171 then some (.bit !P.same) else if d = 188 then some (.bit true) else if d = 192 then some (.bit P.k1) else if d = 196 then some (.bit true) else if d = 199 then some (.bit P.isPlus) else none

def ops9 : List (List UInt8) := [[43], [45], [42], [47], [37], [61, 61], [60], [38, 38]]
def pickOp (which : Int) (op : List UInt8) : Prop := (if which.tmod 8 < 0 then none else ((ops9.map fun x => [AV.sc (.string ⟨⟨x⟩⟩)])[(which.tmod 8).toNat]?).map fun row => AV.rp row 0) = some (.rp [.sc (.string ⟨⟨op⟩⟩)] 0)

def kinds0 (n : Nat) (a b m : AV) (okA okB : Bool) (p : List AV → List AV → List (List AV) → Vl → Vl → Prop) : Prop :=
  made16 (n+195) a fun ca => made16 (n+194) b fun cb => bind15 (n+193) m fun es => reck17 (n+192) ca es fun v b1 => b1 = okA ∧ reck17 (n+191) cb es fun w b2 => b2 = okB ∧ p ca cb es v w
def kinds1 (n : Nat) (a b m : AV) (which : Int) (op : List UInt8) (told ne : Bool) (p : List AV → List AV → List (List AV) → Vl → Vl → Vl → Prop) : Prop :=
  kinds0 n a b m true true fun ca cb es v w => pickOp which op ∧ reck17 (n+188) (twoC op ca cb) es fun x b3 => b3 = told ∧ (v.k != w.k) = ne ∧ p ca cb es v w x
def eqv9 (a b : Nat) (v w : AV) (r : Bool) : Prop := binA Try.prog .eql 23 (.tmp a) (.tmp b) v w = some (.sc (.bool r))
def kinds2 (n : Nat) (which : Int) (arith less same more : Bool) (ca cb : List AV) (es : List (List AV)) (v w : Vl) (p : Prop) : Prop :=
  hold21 (n+186) (twoC [60] ca cb) es fun b => b = less ∧ hold21 (n+185) (twoC [61, 61] ca cb) es fun b => b = same ∧ hold21 (n+184) (twoC [62] ca cb) es fun b => b = more ∧
    decide (which.tmod 8 < 5) = arith ∧ eqv9 141 142 v.av w.av same ∧ hold21 (n+181) (twoC [60, 61] ca cb) es fun b => b = !more ∧ hold21 (n+181) (twoC [62, 61] ca cb) es fun b => b = !less ∧
    hold21 (n+181) (twoC [33, 61] ca cb) es fun b => b = !same ∧ p


theorem tree9a (n : Nat) (a b m : AV) (which : Int) (op : List UInt8) (K : CRes → Prop) : callPC CS conL { op := h9 op { okA := false, okB := false }, inl := fun f => inlS f } (n+200) 9 [a, b, m, .sc (.int .u8 which)] [] (fun r _ => K r) =
  (kinds0 n a b m false false fun _ _ _ _ _ => K (.ret (.sc (.bool true)))) := by kernel_rfl
theorem tree9a2 (n : Nat) (a b m : AV) (which : Int) (op : List UInt8) (K : CRes → Prop) : callPC CS conL { op := h9 op { okA := false, okB := true }, inl := fun f => inlS f } (n+200) 9 [a, b, m, .sc (.int .u8 which)] [] (fun r _ => K r) =
  (kinds0 n a b m false true fun _ _ _ _ _ => K (.ret (.sc (.bool true)))) := by kernel_rfl
theorem tree9b (n : Nat) (a b m : AV) (which : Int) (op : List UInt8) (K : CRes → Prop) : callPC CS conL { op := h9 op { okA := true, okB := false }, inl := fun f => inlS f } (n+200) 9 [a, b, m, .sc (.int .u8 which)] [] (fun r _ => K r) =
  (kinds0 n a b m true false fun _ _ _ _ _ => K (.ret (.sc (.bool true)))) := by kernel_rfl
theorem tree9n (n : Nat) (a b m : AV) (which : Int) (op : List UInt8) (K : CRes → Prop) : callPC CS conL { op := h9 op { okA := true, okB := true, told := false, ne := true, isAnd := false }, inl := fun f => inlS f } (n+200) 9 [a, b, m, .sc (.int .u8 which)] [] (fun r _ => K r) =
  (kinds1 n a b m which op false true fun _ _ _ _ _ _ => eqBytes op [38, 38] = false ∧ K (.ret (.sc (.bool true)))) := by kernel_rfl
theorem tree9nt (n : Nat) (a b m : AV) (which : Int) (op : List UInt8) (K : CRes → Prop) : callPC CS conL { op := h9 op { okA := true, okB := true, told := true, ne := true, isAnd := true, short := true }, inl := fun f => inlS f } (n+200) 9 [a, b, m, .sc (.int .u8 which)] [] (fun r _ => K r) =
  (kinds1 n a b m which op true true fun _ _ _ v _ _ => eqBytes op [38, 38] = true ∧ eqv9 76 77 v.av (avV 2 0 []) true ∧ K (.ret (.sc (.bool true)))) := by kernel_rfl
theorem tree9nf (n : Nat) (a b m : AV) (which : Int) (op : List UInt8) (K : CRes → Prop) : callPC CS conL { op := h9 op { okA := true, okB := true, told := false, ne := true, isAnd := true, short := false }, inl := fun f => inlS f } (n+200) 9 [a, b, m, .sc (.int .u8 which)] [] (fun r _ => K r) =
  (kinds1 n a b m which op false true fun _ _ _ v _ _ => eqBytes op [38, 38] = true ∧ eqv9 76 77 v.av (avV 2 0 []) false ∧ K (.ret (.sc (.bool true)))) := by kernel_rfl
theorem tree9u0t (n : Nat) (a b m : AV) (which : Int) (op : List UInt8) (K : CRes → Prop) : callPC CS conL { op := h9 op { okA := true, okB := true, told := false, arith := true, less := true, same := false, more := false }, inl := fun f => inlS f } (n+200) 9 [a, b, m, .sc (.int .u8 which)] [] (fun r _ => K r) =
  (kinds1 n a b m which op false false fun ca cb es v w _ => kinds2 n which true true false false ca cb es v w (K (.ret (.sc (.bool true))))) := by kernel_rfl
theorem tree9u0f (n : Nat) (a b m : AV) (which : Int) (op : List UInt8) (K : CRes → Prop) : callPC CS conL { op := h9 op { okA := true, okB := true, told := false, arith := false, less := true, same := false, more := false }, inl := fun f => inlS f } (n+200) 9 [a, b, m, .sc (.int .u8 which)] [] (fun r _ => K r) =
  (kinds1 n a b m which op false false fun ca cb es v w _ => kinds2 n which false true false false ca cb es v w (K (.ret (.sc (.bool true))))) := by kernel_rfl
theorem tree9t0f (n : Nat) (a b m : AV) (which : Int) (op : List UInt8) (K : CRes → Prop) : callPC CS conL { op := h9 op { okA := true, okB := true, told := true, arith := false, less := true, same := false, more := false }, inl := fun f => inlS f } (n+200) 9 [a, b, m, .sc (.int .u8 which)] [] (fun r _ => K r) =
  (kinds1 n a b m which op true false fun ca cb es v w _ => kinds2 n which false true false false ca cb es v w (K (.ret (.sc (.bool true))))) := by kernel_rfl
theorem tree9t01 (n : Nat) (a b m : AV) (which : Int) (op : List UInt8) (K : CRes → Prop) : callPC CS conL { op := h9 op { okA := true, okB := true, told := true, arith := true, k1 := true, less := true, same := false, more := false }, inl := fun f => inlS f } (n+200) 9 [a, b, m, .sc (.int .u8 which)] [] (fun r _ => K r) =
  (kinds1 n a b m which op true false fun ca cb es v w x => kinds2 n which true true false false ca cb es v w ((x.k == v.k) = true ∧ (v.k == 1) = true ∧ K (.ret (.sc (.bool true))))) := by kernel_rfl
theorem tree9t03 (n : Nat) (a b m : AV) (which : Int) (op : List UInt8) (K : CRes → Prop) : callPC CS conL { op := h9 op { okA := true, okB := true, told := true, arith := true, k1 := false, isPlus := true, less := true, same := false, more := false }, inl := fun f => inlS f } (n+200) 9 [a, b, m, .sc (.int .u8 which)] [] (fun r _ => K r) =
  (kinds1 n a b m which op true false fun ca cb es v w x => kinds2 n which true true false false ca cb es v w ((x.k == v.k) = true ∧ (v.k == 1) = false ∧ (v.k == 3) = true ∧ eqBytes op [43] = true ∧ K (.ret (.sc (.bool true))))) := by kernel_rfl
theorem tree9u1t (n : Nat) (a b m : AV) (which : Int) (op : List UInt8) (K : CRes → Prop) : callPC CS conL { op := h9 op { okA := true, okB := true, told := false, arith := true, less := false, same := true, more := false }, inl := fun f => inlS f } (n+200) 9 [a, b, m, .sc (.int .u8 which)] [] (fun r _ => K r) =
  (kinds1 n a b m which op false false fun ca cb es v w _ => kinds2 n which true false true false ca cb es v w (K (.ret (.sc (.bool true))))) := by kernel_rfl
theorem tree9u1f (n : Nat) (a b m : AV) (which : Int) (op : List UInt8) (K : CRes → Prop) : callPC CS conL { op := h9 op { okA := true, okB := true, told := false, arith := false, less := false, same := true, more := false }, inl := fun f => inlS f } (n+200) 9 [a, b, m, .sc (.int .u8 which)] [] (fun r _ => K r) =
  (kinds1 n a b m which op false false fun ca cb es v w _ => kinds2 n which false false true false ca cb es v w (K (.ret (.sc (.bool true))))) := by kernel_rfl
theorem tree9t1f (n : Nat) (a b m : AV) (which : Int) (op : List UInt8) (K : CRes → Prop) : callPC CS conL { op := h9 op { okA := true, okB := true, told := true, arith := false, less := false, same := true, more := false }, inl := fun f => inlS f } (n+200) 9 [a, b, m, .sc (.int .u8 which)] [] (fun r _ => K r) =
  (kinds1 n a b m which op true false fun ca cb es v w _ => kinds2 n which false false true false ca cb es v w (K (.ret (.sc (.bool true))))) := by kernel_rfl
theorem tree9t11 (n : Nat) (a b m : AV) (which : Int) (op : List UInt8) (K : CRes → Prop) : callPC CS conL { op := h9 op { okA := true, okB := true, told := true, arith := true, k1 := true, less := false, same := true, more := false }, inl := fun f => inlS f } (n+200) 9 [a, b, m, .sc (.int .u8 which)] [] (fun r _ => K r) =
  (kinds1 n a b m which op true false fun ca cb es v w x => kinds2 n which true false true false ca cb es v w ((x.k == v.k) = true ∧ (v.k == 1) = true ∧ K (.ret (.sc (.bool true))))) := by kernel_rfl
theorem tree9t13 (n : Nat) (a b m : AV) (which : Int) (op : List UInt8) (K : CRes → Prop) : callPC CS conL { op := h9 op { okA := true, okB := true, told := true, arith := true, k1 := false, isPlus := true, less := false, same := true, more := false }, inl := fun f => inlS f } (n+200) 9 [a, b, m, .sc (.int .u8 which)] [] (fun r _ => K r) =
  (kinds1 n a b m which op true false fun ca cb es v w x => kinds2 n which true false true false ca cb es v w ((x.k == v.k) = true ∧ (v.k == 1) = false ∧ (v.k == 3) = true ∧ eqBytes op [43] = true ∧ K (.ret (.sc (.bool true))))) := by kernel_rfl
theorem tree9u2t (n : Nat) (a b m : AV) (which : Int) (op : List UInt8) (K : CRes → Prop) : callPC CS conL { op := h9 op { okA := true, okB := true, told := false, arith := true, less := false, same := false, more := true }, inl := fun f => inlS f } (n+200) 9 [a, b, m, .sc (.int .u8 which)] [] (fun r _ => K r) =
  (kinds1 n a b m which op false false fun ca cb es v w _ => kinds2 n which true false false true ca cb es v w (K (.ret (.sc (.bool true))))) := by kernel_rfl
theorem tree9u2f (n : Nat) (a b m : AV) (which : Int) (op : List UInt8) (K : CRes → Prop) : callPC CS conL { op := h9 op { okA := true, okB := true, told := false, arith := false, less := false, same := false, more := true }, inl := fun f => inlS f } (n+200) 9 [a, b, m, .sc (.int .u8 which)] [] (fun r _ => K r) =
  (kinds1 n a b m which op false false fun ca cb es v w _ => kinds2 n which false false false true ca cb es v w (K (.ret (.sc (.bool true))))) := by kernel_rfl
theorem tree9t2f (n : Nat) (a b m : AV) (which : Int) (op : List UInt8) (K : CRes → Prop) : callPC CS conL { op := h9 op { okA := true, okB := true, told := true, arith := false, less := false, same := false, more := true }, inl := fun f => inlS f } (n+200) 9 [a, b, m, .sc (.int .u8 which)] [] (fun r _ => K r) =
  (kinds1 n a b m which op true false fun ca cb es v w _ => kinds2 n which false false false true ca cb es v w (K (.ret (.sc (.bool true))))) := by kernel_rfl
theorem tree9t21 (n : Nat) (a b m : AV) (which : Int) (op : List UInt8) (K : CRes → Prop) : callPC CS conL { op := h9 op { okA := true, okB := true, told := true, arith := true, k1 := true, less := false, same := false, more := true }, inl := fun f => inlS f } (n+200) 9 [a, b, m, .sc (.int .u8 which)] [] (fun r _ => K r) =
  (kinds1 n a b m which op true false fun ca cb es v w x => kinds2 n which true false false true ca cb es v w ((x.k == v.k) = true ∧ (v.k == 1) = true ∧ K (.ret (.sc (.bool true))))) := by kernel_rfl
theorem tree9t23 (n : Nat) (a b m : AV) (which : Int) (op : List UInt8) (K : CRes → Prop) : callPC CS conL { op := h9 op { okA := true, okB := true, told := true, arith := true, k1 := false, isPlus := true, less := false, same := false, more := true }, inl := fun f => inlS f } (n+200) 9 [a, b, m, .sc (.int .u8 which)] [] (fun r _ => K r) =
  (kinds1 n a b m which op true false fun ca cb es v w x => kinds2 n which true false false true ca cb es v w ((x.k == v.k) = true ∧ (v.k == 1) = false ∧ (v.k == 3) = true ∧ eqBytes op [43] = true ∧ K (.ret (.sc (.bool true))))) := by kernel_rfl

end Go.Ai
