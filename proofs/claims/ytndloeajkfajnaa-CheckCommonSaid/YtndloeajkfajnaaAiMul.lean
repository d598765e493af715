/-
  PRODUCTS: what the program's function tells; the product itself, where it is in the range.
-/
import Derived.Test.YtndloeajkfajnaaAiAdds
set_option linter.unusedVariables false
set_option linter.unusedSimpArgs false
namespace Go.Ai
open Go.RowKit Go.Proofs

theorem tree62 (x y x0 x1 y0 y1 w0 t p w1 w2 w1b h0 hi lo : Int) (K : CRes → List Blk → Prop) : callP C4 { op := fun d => if d = 15 then some (.int x0) else if d = 17 then some (.int x1) else if d = 19 then some (.int y0) else if d = 21 then some (.int y1) else if d = 24 then some (.int w0) else if d = 30 then some (.int t) else if d = 32 then some (.int w1) else if d = 34 then some (.int w2) else if d = 39 then some (.int w1b) else if d = 47 then some (.int hi) else if d = 50 then some (.int lo) else none } 97 62
    [.sc (.int .u64 x), .sc (.int .u64 y)] [] K =
  (IntKind.u64.wrap ↑(BitVec.ofInt 64 x &&& BitVec.ofInt 64 4294967295).toNat = x0 ∧ x.fdiv (2 ^ 32) = x1 ∧
   IntKind.u64.wrap ↑(BitVec.ofInt 64 y &&& BitVec.ofInt 64 4294967295).toNat = y0 ∧ y.fdiv (2 ^ 32) = y1 ∧
   IntKind.u64.wrap (x0 * y0) = w0 ∧ IntKind.u64.wrap (IntKind.u64.wrap (x1 * y0) + w0.fdiv (2 ^ 32)) = t ∧
   IntKind.u64.wrap ↑(BitVec.ofInt 64 t &&& BitVec.ofInt 64 4294967295).toNat = w1 ∧ t.fdiv (2 ^ 32) = w2 ∧
   IntKind.u64.wrap (w1 + IntKind.u64.wrap (x0 * y1)) = w1b ∧
   IntKind.u64.wrap (IntKind.u64.wrap (IntKind.u64.wrap (x1 * y1) + w2) + w1b.fdiv (2 ^ 32)) = hi ∧ IntKind.u64.wrap (x * y) = lo ∧
   K (.ret (.tup [.sc (.int .u64 hi), .sc (.int .u64 lo)])) []) := by kernel_rfl

theorem callP_tree {C : Ctx} {S : Script} {n : Nat} {f : FuncId} {args : List AV} {H : List Blk} {K : CRes → List Blk → Prop} {p : Prop} (h : callP C S n f args H K = p) (hp : p) : ∃ r, call C n f args H = some r ∧ K r.1 r.2 := by
  rw [← h] at hp
  exact callP_sound hp

theorem mask32 {x : Int} (h0 : 0 ≤ x) (h1 : x < 18446744073709551616) : IntKind.u64.wrap ↑(BitVec.ofInt 64 x &&& BitVec.ofInt 64 4294967295).toNat = x % 4294967296 := by
  have e1 : (BitVec.ofInt 64 x &&& BitVec.ofInt 64 4294967295).toNat = x.toNat % 4294967296 := by
    rw [BitVec.toNat_and]
    have e2 : (BitVec.ofInt 64 x).toNat = x.toNat := by
      rw [BitVec.toNat_ofInt]
      omega
    have e3 : (BitVec.ofInt 64 4294967295).toNat = 2 ^ 32 - 1 := rfl
    rw [e2, e3, Nat.and_two_pow_sub_one_eq_mod]
  rw [e1, wrap_u64]
  omega

theorem fdiv32 (x : Int) : x.fdiv (2 ^ 32) = x / 4294967296 := by
  rw [Int.fdiv_eq_ediv_of_nonneg x (by decide)]; rfl

theorem below_mul {a b : Int} (ha : 0 ≤ a) (ha1 : a ≤ 4294967295) (hb : 0 ≤ b) (hb1 : b ≤ 4294967295) : 0 ≤ a * b ∧ a * b ≤ 18446744065119617025 := by
  refine ⟨Int.mul_nonneg ha hb, ?_⟩
  have := Int.mul_le_mul ha1 hb1 hb (by decide)
  exact this

theorem mul64 {x y : Int} (hx : 0 ≤ x) (hx1 : x < 18446744073709551616) (hy : 0 ≤ y) (hy1 : y < 18446744073709551616) :
    doCall C4 (call C4 97) none 62 [.sc (.int .u64 x), .sc (.int .u64 y)] [] = some (.val (.tup [.sc (.int .u64 (x * y / 18446744073709551616)), .sc (.int .u64 (x * y % 18446744073709551616))]) []) := by
  have hx0 : x = x / 4294967296 * 4294967296 + x % 4294967296 := by omega
  have hy0 : y = y / 4294967296 * 4294967296 + y % 4294967296 := by omega
  have p00 := below_mul (a := x % 4294967296) (b := y % 4294967296) (by omega) (by omega) (by omega) (by omega)
  have p10 := below_mul (a := x / 4294967296) (b := y % 4294967296) (by omega) (by omega) (by omega) (by omega)
  have p01 := below_mul (a := x % 4294967296) (b := y / 4294967296) (by omega) (by omega) (by omega) (by omega)
  have p11 := below_mul (a := x / 4294967296) (b := y / 4294967296) (by omega) (by omega) (by omega) (by omega)
  have hxy : x * y = (x / 4294967296 * (y / 4294967296)) * 18446744073709551616 + (x / 4294967296 * (y % 4294967296)) * 4294967296 + (x % 4294967296 * (y / 4294967296)) * 4294967296 + x % 4294967296 * (y % 4294967296) := by
    generalize x / 4294967296 = x1 at *
    generalize x % 4294967296 = x0 at *
    generalize y / 4294967296 = y1 at *
    generalize y % 4294967296 = y0 at *
    subst hx0 hy0
    simp only [Int.add_mul, Int.mul_add]
    have e1 : x1 * 4294967296 * (y1 * 4294967296) = x1 * y1 * 18446744073709551616 := by
      rw [Int.mul_assoc, Int.mul_comm 4294967296 (y1 * 4294967296), Int.mul_assoc y1, ← Int.mul_assoc x1]; rfl
    have e2 : x1 * 4294967296 * y0 = x1 * y0 * 4294967296 := by rw [Int.mul_right_comm]
    have e3 : x0 * (y1 * 4294967296) = x0 * y1 * 4294967296 := by rw [Int.mul_assoc]
    rw [e1, e2, e3]
    omega
  have run : ∃ r, call C4 97 62 [.sc (.int .u64 x), .sc (.int .u64 y)] [] = some r ∧ (r.1 = .ret (.tup [.sc (.int .u64 (x * y / 18446744073709551616)), .sc (.int .u64 (x * y % 18446744073709551616))]) ∧ r.2 = []) := by
    have h := tree62 x y (x % 4294967296) (x / 4294967296) (y % 4294967296) (y / 4294967296) (x % 4294967296 * (y % 4294967296))
      (x / 4294967296 * (y % 4294967296) + x % 4294967296 * (y % 4294967296) / 4294967296) 0
      ((x / 4294967296 * (y % 4294967296) + x % 4294967296 * (y % 4294967296) / 4294967296) % 4294967296)
      ((x / 4294967296 * (y % 4294967296) + x % 4294967296 * (y % 4294967296) / 4294967296) / 4294967296)
      ((x / 4294967296 * (y % 4294967296) + x % 4294967296 * (y % 4294967296) / 4294967296) % 4294967296 + x % 4294967296 * (y / 4294967296)) 0
      (x * y / 18446744073709551616) (x * y % 18446744073709551616)
      (fun r H => r = .ret (.tup [.sc (.int .u64 (x * y / 18446744073709551616)), .sc (.int .u64 (x * y % 18446744073709551616))]) ∧ H = [])
    refine callP_tree h ?_
    clear h
    generalize x / 4294967296 * (y / 4294967296) = q11 at *
    generalize x / 4294967296 * (y % 4294967296) = q10 at *
    generalize x % 4294967296 * (y / 4294967296) = q01 at *
    generalize x % 4294967296 * (y % 4294967296) = q00 at *
    generalize x * y = q at *
    refine ⟨mask32 hx hx1, fdiv32 x, mask32 hy hy1, fdiv32 y, ?_, ?_, mask32 (by omega) (by omega), fdiv32 _, ?_, ?_, ?_, rfl, rfl⟩
    · rw [wrap_u64]; omega
    · rw [wrap_u64, wrap_u64, fdiv32]; omega
    · rw [wrap_u64, wrap_u64]; omega
    · rw [wrap_u64, wrap_u64, wrap_u64, fdiv32]; omega
    · rw [wrap_u64]
  obtain ⟨⟨r, H1⟩, hr, h1, h2⟩ := run
  simp only at h1 h2
  subst h1 h2
  unfold doCall
  rw [show C4.prims 62 = none from rfl]
  simp only [show C4.byRef 62 = false from rfl, Bool.false_eq_true, if_false]
  rw [show frzL [] [AV.sc (.int .u64 x), AV.sc (.int .u64 y)] = some [AV.sc (.int .u64 x), AV.sc (.int .u64 y)] from rfl]
  simp only [hr]
  rfl

theorem tree29 (a b hi lo : Int) (K : CRes → List Blk → Prop) : callP C4 { op := fun d => if d = 14 then some (.res fun _ H => .val (.tup [.sc (.int .u64 hi), .sc (.int .u64 lo)]) H) else none } 100 29 [.sc (.int .i64 a), .sc (.int .i64 b)] [] K =
((doCall C4 (call C4 97) none 62 [.sc (.int .u64 (sizeV a)), .sc (.int .u64 (sizeV b))] [] = some (ORes.val (AV.tup [AV.sc (Value.int IntKind.u64 hi), AV.sc (Value.int IntKind.u64 lo)]) [])) ∧
(bothP (decide (a < 0))
 (bothP (decide (b < 0))
  (bothP (decide (hi > 0))
   (K (CRes.ret (AV.tup [AV.sc (Value.int IntKind.i64 0), AV.sc (Value.bool false)])) [])
   (bothP (decide (lo > 9223372036854775807))
    (K (CRes.ret (AV.tup [AV.sc (Value.int IntKind.i64 0), AV.sc (Value.bool false)])) [])
    (bothP (decide (lo > 9223372036854775808))
     (K (CRes.ret (AV.tup [AV.sc (Value.int IntKind.i64 0), AV.sc (Value.bool false)])) [])
     (K (CRes.ret (AV.tup [AV.sc (Value.int IntKind.i64 (IntKind.i64.wrap lo)), AV.sc (Value.bool true)])) []))))
  (bothP (decide (hi > 0))
   (K (CRes.ret (AV.tup [AV.sc (Value.int IntKind.i64 0), AV.sc (Value.bool false)])) [])
   (bothP (decide (lo > 9223372036854775808))
    (K (CRes.ret (AV.tup [AV.sc (Value.int IntKind.i64 0), AV.sc (Value.bool false)])) [])
    (K (CRes.ret (AV.tup [AV.sc (Value.int IntKind.i64 (IntKind.i64.wrap (IntKind.u64.wrap (0 - lo)))), AV.sc (Value.bool true)])) []))))
 (bothP (decide (b < 0))
  (bothP (decide (hi > 0))
   (K (CRes.ret (AV.tup [AV.sc (Value.int IntKind.i64 0), AV.sc (Value.bool false)])) [])
   (bothP (decide (lo > 9223372036854775808))
    (K (CRes.ret (AV.tup [AV.sc (Value.int IntKind.i64 0), AV.sc (Value.bool false)])) [])
    (K (CRes.ret (AV.tup [AV.sc (Value.int IntKind.i64 (IntKind.i64.wrap (IntKind.u64.wrap (0 - lo)))), AV.sc (Value.bool true)])) [])))
  (bothP (decide (hi > 0))
   (K (CRes.ret (AV.tup [AV.sc (Value.int IntKind.i64 0), AV.sc (Value.bool false)])) [])
   (bothP (decide (lo > 9223372036854775807))
    (K (CRes.ret (AV.tup [AV.sc (Value.int IntKind.i64 0), AV.sc (Value.bool false)])) [])
    (bothP (decide (lo > 9223372036854775808))
     (K (CRes.ret (AV.tup [AV.sc (Value.int IntKind.i64 0), AV.sc (Value.bool false)])) [])
     (K (CRes.ret (AV.tup [AV.sc (Value.int IntKind.i64 (IntKind.i64.wrap lo)), AV.sc (Value.bool true)])) []))))))) := by kernel_rfl

def mulHi (a b : Int) : Int := sizeV a * sizeV b / 18446744073709551616
def mulLo (a b : Int) : Int := sizeV a * sizeV b % 18446744073709551616
def mulNeg (a b : Int) : Bool := decide (a < 0) != decide (b < 0)
def mulOk (a b : Int) : Bool := !decide (mulHi a b > 0) && (mulNeg a b || !decide (mulLo a b > 9223372036854775807)) && !decide (mulLo a b > 9223372036854775808)
def mulV (a b : Int) : Int := bif mulOk a b then (bif mulNeg a b then IntKind.i64.wrap (IntKind.u64.wrap (0 - mulLo a b)) else IntKind.i64.wrap (mulLo a b)) else 0

theorem sizeV_range (a : Int) : 0 ≤ sizeV a ∧ sizeV a < 18446744073709551616 := by
  unfold sizeV
  cases decide (a < 0) <;> simp only [cond_true, cond_false, wrap_u64] <;> omega

theorem prim29 : PrimOK Try.prog 29 (pair64 mulV mulOk) := prim_pair toldC4 rfl rfl (n := 100) fun a b =>
  ⟨{ op := fun d => if d = 14 then some (.res fun _ H => .val (.tup [.sc (.int .u64 (mulHi a b)), .sc (.int .u64 (mulLo a b))]) H) else none }, by
  rw [tree29]
  obtain ⟨h1, h2⟩ := sizeV_range a
  obtain ⟨h3, h4⟩ := sizeV_range b
  refine ⟨mul64 h1 h2 h3 h4, ?_⟩
  unfold mulV mulOk mulNeg
  cases decide (a < 0) <;> cases decide (b < 0) <;> cases decide (mulHi a b > 0) <;> cases decide (mulLo a b > 9223372036854775807) <;> cases decide (mulLo a b > 9223372036854775808) <;> simp [bothP]⟩

theorem sizeV_of {a : Int} (h : In64 a) : sizeV a = if a < 0 then -a else a := by
  unfold In64 at h
  unfold sizeV
  split
  · rename_i h1
    rw [decide_eq_true h1]
    simp only [cond_true, wrap_u64]
    omega
  · rename_i h1
    rw [decide_eq_false h1]
    simp only [cond_false, wrap_u64]
    omega

theorem mul_facts {a b : Int} (ha : In64 a) (hb : In64 b) : (mulOk a b = true ∧ In64 (a * b) ∧ mulV a b = a * b) ∨ (mulOk a b = false ∧ ¬ In64 (a * b) ∧ mulV a b = 0) := by
  have key : ∃ m, 0 ≤ m ∧ sizeV a * sizeV b = m ∧ (mulNeg a b = true ∧ a * b = -m ∨ mulNeg a b = false ∧ a * b = m) := by
    rw [sizeV_of ha, sizeV_of hb]
    unfold mulNeg
    by_cases h1 : a < 0 <;> by_cases h2 : b < 0
    · rw [if_pos h1, if_pos h2, decide_eq_true h1, decide_eq_true h2]
      exact ⟨_, Int.mul_nonneg (by omega) (by omega), rfl, .inr ⟨rfl, by rw [Int.neg_mul_neg]⟩⟩
    · rw [if_pos h1, if_neg h2, decide_eq_true h1, decide_eq_false h2]
      exact ⟨_, Int.mul_nonneg (by omega) (by omega), rfl, .inl ⟨rfl, by rw [Int.neg_mul, Int.neg_neg]⟩⟩
    · rw [if_neg h1, if_pos h2, decide_eq_false h1, decide_eq_true h2]
      exact ⟨_, Int.mul_nonneg (by omega) (by omega), rfl, .inl ⟨rfl, by rw [Int.mul_neg, Int.neg_neg]⟩⟩
    · rw [if_neg h1, if_neg h2, decide_eq_false h1, decide_eq_false h2]
      exact ⟨_, Int.mul_nonneg (by omega) (by omega), rfl, .inr ⟨rfl, rfl⟩⟩
  obtain ⟨m, h0, hm, hp⟩ := key
  unfold mulV mulOk mulHi mulLo In64
  rw [hm]
  rcases hp with ⟨h1, h2⟩ | ⟨h1, h2⟩
  · rw [h1, h2]
    by_cases h3 : m ≤ 9223372036854775808
    · left
      have e1 : ¬ (m / 18446744073709551616 > 0) := by omega
      have e2 : ¬ (m % 18446744073709551616 > 9223372036854775808) := by omega
      rw [decide_eq_false e1, decide_eq_false e2]
      refine ⟨rfl, by omega, ?_⟩
      simp only [Bool.not_false, Bool.true_or, Bool.and_true, Bool.true_and, cond_true, wrap_i64, wrap_u64]
      omega
    · right
      by_cases e1 : m / 18446744073709551616 > 0
      · rw [decide_eq_true e1]
        exact ⟨rfl, by omega, rfl⟩
      · have e2 : (m % 18446744073709551616 > 9223372036854775808) := by omega
        rw [decide_eq_false e1, decide_eq_true e2]
        exact ⟨rfl, by omega, rfl⟩
  · rw [h1, h2]
    by_cases h3 : m ≤ 9223372036854775807
    · left
      have e1 : ¬ (m / 18446744073709551616 > 0) := by omega
      have e2 : ¬ (m % 18446744073709551616 > 9223372036854775808) := by omega
      have e3 : ¬ (m % 18446744073709551616 > 9223372036854775807) := by omega
      rw [decide_eq_false e1, decide_eq_false e2, decide_eq_false e3]
      refine ⟨rfl, by omega, ?_⟩
      simp only [Bool.not_false, Bool.false_or, Bool.and_true, Bool.true_and, cond_true, cond_false, wrap_i64]
      omega
    · right
      by_cases e1 : m / 18446744073709551616 > 0
      · rw [decide_eq_true e1]
        exact ⟨rfl, by omega, rfl⟩
      · have e3 : (m % 18446744073709551616 > 9223372036854775807) := by omega
        rw [decide_eq_false e1, decide_eq_true e3]
        exact ⟨rfl, by omega, rfl⟩

def told5 : FuncId → Option (List AV → Option AV) := fun f => if f = 29 then some (pair64 mulV mulOk) else told4 f

theorem told5_ok (f : FuncId) (F : List AV → Option AV) (h : told5 f = some F) : PrimOK Try.prog f F := by
  unfold told5 at h
  split at h
  · rename_i e; cases h; rw [e]; exact prim29
  exact told4_ok f F h

noncomputable def C5 : Ctx := { C2 with prims := told5 }

theorem toldC5 : Told C5 := ⟨try_mix, try_name, told5_ok, told2.recs⟩

theorem C5_P : C5.P = Try.prog := rfl

end Go.Ai
