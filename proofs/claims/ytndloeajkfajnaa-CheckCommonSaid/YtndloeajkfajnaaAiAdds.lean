/-
  ReckonAdds: A sum is told just if half of it is in the range; what was added is taken away again; a number and its other one make 0.
-/
import Derived.Test.YtndloeajkfajnaaAiReck2
set_option linter.unusedVariables false
set_option linter.unusedSimpArgs false
namespace Go.Ai
open Go.RowKit Go.Proofs

def In64 (a : Int) : Prop := -9223372036854775808 ≤ a ∧ a < 9223372036854775808

theorem addOk_of {a b : Int} (ha : In64 a) (hb : In64 b) (h : In64 (a + b)) : addOk a b = true ∧ addV a b = a + b := by
  unfold In64 at *
  have hw : IntKind.i64.wrap (a + b) = a + b := by rw [wrap_i64]; omega
  have h1 : addOk a b = true := by
    unfold addOk
    rw [hw]
    by_cases h1 : b > 0
    · have : a + b > a := by omega
      simp [h1, this]
    · by_cases h2 : b = 0
      · simp [h2]
      · have : ¬ (a + b > a) := by omega
        simp [h1, this]
  exact ⟨h1, by unfold addV; rw [h1, hw]; rfl⟩

theorem addOk_not {a b : Int} (ha : In64 a) (hb : In64 b) (h : ¬ In64 (a + b)) : addOk a b = false ∧ addV a b = 0 := by
  unfold In64 at *
  have h1 : addOk a b = false := by
    unfold addOk
    rw [wrap_i64]
    by_cases h1 : b > 0
    · have : ¬ ((a + b + 9223372036854775808) % 18446744073709551616 - 9223372036854775808 > a) := by omega
      have h2 : b ≠ 0 := by omega
      simp only [h1, this, decide_true, decide_false]
      simp [h2]
    · have : ((a + b + 9223372036854775808) % 18446744073709551616 - 9223372036854775808 > a) := by omega
      have h2 : b ≠ 0 := by omega
      simp only [h1, this, decide_true, decide_false]
      simp [h2]
  exact ⟨h1, by unfold addV; rw [h1]; rfl⟩

theorem subOk_of {a b : Int} (ha : In64 a) (hb : In64 b) (h : In64 (a - b)) : subOk a b = true ∧ subV a b = a - b := by
  unfold In64 at *
  have hw : IntKind.i64.wrap (a - b) = a - b := by rw [wrap_i64]; omega
  have h1 : subOk a b = true := by
    unfold subOk
    rw [hw]
    by_cases h1 : b > 0
    · have : a - b < a := by omega
      simp [h1, this]
    · by_cases h2 : b = 0
      · simp [h2]
      · have : ¬ (a - b < a) := by omega
        simp [h1, this]
  exact ⟨h1, by unfold subV; rw [h1, hw]; rfl⟩

theorem subOk_not {a b : Int} (ha : In64 a) (hb : In64 b) (h : ¬ In64 (a - b)) : subOk a b = false ∧ subV a b = 0 := by
  unfold In64 at *
  have h1 : subOk a b = false := by
    unfold subOk
    rw [wrap_i64]
    by_cases h1 : b > 0
    · have : ¬ ((a - b + 9223372036854775808) % 18446744073709551616 - 9223372036854775808 < a) := by omega
      have h2 : b ≠ 0 := by omega
      simp only [h1, this, decide_true, decide_false]
      simp [h2]
    · have : ((a - b + 9223372036854775808) % 18446744073709551616 - 9223372036854775808 < a) := by omega
      have h2 : b ≠ 0 := by omega
      simp only [h1, this, decide_true, decide_false]
      simp [h2]
  exact ⟨h1, by unfold subV; rw [h1]; rfl⟩

/-- Both are odd. -/
theorem odd_both (a b : Int) : IntKind.i64.wrap ↑(BitVec.ofInt 64 (IntKind.i64.wrap ↑(BitVec.ofInt 64 a &&& BitVec.ofInt 64 b).toNat) &&& BitVec.ofInt 64 1).toNat = (a % 2) * (b % 2) := by
  have e1 : ∀ n : Int, (BitVec.ofInt 64 n).toNat % 2 = (n % 2).toNat := by
    intro n
    rw [BitVec.toNat_ofInt]
    omega
  have e2 : ∀ x : BitVec 64, (x &&& BitVec.ofInt 64 1).toNat = x.toNat % 2 := by
    intro x
    rw [BitVec.toNat_and]
    exact Nat.and_one_is_mod x.toNat
  have e3 : ∀ x y : Nat, (x &&& y) % 2 = (x % 2) * (y % 2) := by
    intro x y
    have h1 : (x &&& y) % 2 = (x % 2) &&& (y % 2) := by
      have := Nat.and_mod_two_pow (a := x) (b := y) (n := 1)
      simpa using this
    rw [h1]
    rcases Nat.mod_two_eq_zero_or_one x with hx | hx <;> rcases Nat.mod_two_eq_zero_or_one y with hy | hy <;> rw [hx, hy] <;> rfl
  rw [e2, e1, wrap_i64, wrap_i64]
  have h3 := e3 (BitVec.ofInt 64 a).toNat (BitVec.ofInt 64 b).toNat
  rw [e1, e1, ← BitVec.toNat_and] at h3
  have ha : a % 2 = 0 ∨ a % 2 = 1 := by omega
  have hb : b % 2 = 0 ∨ b % 2 = 1 := by omega
  generalize (BitVec.ofInt 64 a &&& BitVec.ofInt 64 b).toNat = N at h3 ⊢
  rcases ha with ha | ha <;> rcases hb with hb | hb <;> rw [ha, hb] at h3 ⊢ <;> simp at h3 <;> omega

theorem tree4 (a b half : Int) (K : CRes → List Blk → Prop) : callP C4 {op := fun d => if d = 29 then some (.int half) else none} 100 4 [.sc (.int .i64 a), .sc (.int .i64 b)] [] K =
(IntKind.i64.wrap
    (IntKind.i64.wrap (a.fdiv (2 ^ 1) + b.fdiv (2 ^ 1)) +
      IntKind.i64.wrap
        ↑(BitVec.ofInt 64 (IntKind.i64.wrap ↑(BitVec.ofInt 64 a &&& BitVec.ofInt 64 b).toNat) &&&
              BitVec.ofInt 64 1).toNat) =
  half ∧
(bothP (addOk a b)
 (bothP (decide (half ≥ -4611686018427387904))
  (bothP (decide (half < 4611686018427387904))
   (bothP (subOk (addV a b) b)
    (bothP (subOk (addV a b) a)
     (bothP (subV (addV a b) b != a)
      (K (CRes.ret (AV.sc (Value.bool false))) [])
      (bothP (subV (addV a b) a != b)
       (K (CRes.ret (AV.sc (Value.bool false))) [])
       (bothP (subOk 0 a)
        (bothP (addOk a (subV 0 a))
         (bothP (addV a (subV 0 a) == 0)
          (bothP (a != -9223372036854775808)
           (K (CRes.ret (AV.sc (Value.bool true))) [])
           (K (CRes.ret (AV.sc (Value.bool false))) []))
          (K (CRes.ret (AV.sc (Value.bool false))) []))
         (K (CRes.ret (AV.sc (Value.bool false))) []))
        (bothP (subV 0 a == 0)
         (bothP (a == -9223372036854775808)
          (K (CRes.ret (AV.sc (Value.bool true))) [])
          (K (CRes.ret (AV.sc (Value.bool false))) []))
         (K (CRes.ret (AV.sc (Value.bool false))) [])))))
     (K (CRes.ret (AV.sc (Value.bool false))) []))
    (bothP (subOk (addV a b) a)
     (K (CRes.ret (AV.sc (Value.bool false))) [])
     (K (CRes.ret (AV.sc (Value.bool false))) [])))
   (K (CRes.ret (AV.sc (Value.bool false))) []))
  (K (CRes.ret (AV.sc (Value.bool false))) []))
 (bothP (decide (half ≥ -4611686018427387904))
  (bothP (decide (half < 4611686018427387904))
   (K (CRes.ret (AV.sc (Value.bool false))) [])
   (bothP (addV a b != 0)
    (K (CRes.ret (AV.sc (Value.bool false))) [])
    (bothP (subOk 0 a)
     (bothP (addOk a (subV 0 a))
      (bothP (addV a (subV 0 a) == 0)
       (bothP (a != -9223372036854775808)
        (K (CRes.ret (AV.sc (Value.bool true))) [])
        (K (CRes.ret (AV.sc (Value.bool false))) []))
       (K (CRes.ret (AV.sc (Value.bool false))) []))
      (K (CRes.ret (AV.sc (Value.bool false))) []))
     (bothP (subV 0 a == 0)
      (bothP (a == -9223372036854775808)
       (K (CRes.ret (AV.sc (Value.bool true))) [])
       (K (CRes.ret (AV.sc (Value.bool false))) []))
      (K (CRes.ret (AV.sc (Value.bool false))) [])))))
  (bothP (addV a b != 0)
   (K (CRes.ret (AV.sc (Value.bool false))) [])
   (bothP (subOk 0 a)
    (bothP (addOk a (subV 0 a))
     (bothP (addV a (subV 0 a) == 0)
      (bothP (a != -9223372036854775808)
       (K (CRes.ret (AV.sc (Value.bool true))) [])
       (K (CRes.ret (AV.sc (Value.bool false))) []))
      (K (CRes.ret (AV.sc (Value.bool false))) []))
     (K (CRes.ret (AV.sc (Value.bool false))) []))
    (bothP (subV 0 a == 0)
     (bothP (a == -9223372036854775808)
      (K (CRes.ret (AV.sc (Value.bool true))) [])
      (K (CRes.ret (AV.sc (Value.bool false))) []))
     (K (CRes.ret (AV.sc (Value.bool false))) []))))))) := by kernel_rfl

theorem halved (a b : Int) (ha : In64 a) (hb : In64 b) : ∃ half, (IntKind.i64.wrap
    (IntKind.i64.wrap (a.fdiv (2 ^ 1) + b.fdiv (2 ^ 1)) +
      IntKind.i64.wrap
        ↑(BitVec.ofInt 64 (IntKind.i64.wrap ↑(BitVec.ofInt 64 a &&& BitVec.ofInt 64 b).toNat) &&&
              BitVec.ofInt 64 1).toNat) =
  half) ∧ ((-4611686018427387904 ≤ half ∧ half < 4611686018427387904) ↔ In64 (a + b)) := by
  refine ⟨_, rfl, ?_⟩
  rw [odd_both, wrap_i64, wrap_i64]
  unfold In64 at *
  have e1 : ∀ n : Int, n.fdiv (2 ^ 1) = n / 2 := fun n => by
    rw [Int.fdiv_eq_ediv_of_nonneg n (by decide)]; rfl
  rw [e1, e1]
  have ha2 : a % 2 = 0 ∨ a % 2 = 1 := by omega
  have hb2 : b % 2 = 0 ∨ b % 2 = 1 := by omega
  rcases ha2 with h1 | h1 <;> rcases hb2 with h2 | h2 <;> rw [h1, h2] <;> constructor <;> intro h <;> omega

theorem adds (a b : Int) (ha : In64 a) (hb : In64 b) : ∃ S, callP C4 S 100 4 [.sc (.int .i64 a), .sc (.int .i64 b)] [] fun r _ => r = .ret (.sc (.bool true)) := by
  obtain ⟨half, hh, hi⟩ := halved a b ha hb
  refine ⟨{ op := fun d => if d = 29 then some (.int half) else none }, ?_⟩
  rw [tree4 a b half]
  refine ⟨hh, ?_⟩
  have hn : In64 (0 : Int) := by unfold In64; omega
  have tail : bothP (subOk 0 a)
        (bothP (addOk a (subV 0 a))
         (bothP (addV a (subV 0 a) == 0)
          (bothP (a != -9223372036854775808)
           ((CRes.ret (AV.sc (Value.bool true))) = CRes.ret (AV.sc (Value.bool true)))
           ((CRes.ret (AV.sc (Value.bool false))) = CRes.ret (AV.sc (Value.bool true))))
          ((CRes.ret (AV.sc (Value.bool false))) = CRes.ret (AV.sc (Value.bool true))))
         ((CRes.ret (AV.sc (Value.bool false))) = CRes.ret (AV.sc (Value.bool true))))
        (bothP (subV 0 a == 0)
         (bothP (a == -9223372036854775808)
          ((CRes.ret (AV.sc (Value.bool true))) = CRes.ret (AV.sc (Value.bool true)))
          ((CRes.ret (AV.sc (Value.bool false))) = CRes.ret (AV.sc (Value.bool true))))
         ((CRes.ret (AV.sc (Value.bool false))) = CRes.ret (AV.sc (Value.bool true)))) := by
    by_cases h : In64 (0 - a)
    · obtain ⟨h1, h2⟩ := subOk_of hn ha h
      have h3 : In64 (a + (0 - a)) := by unfold In64; omega
      obtain ⟨h4, h5⟩ := addOk_of ha h h3
      have h6 : (a != -9223372036854775808) = true := by unfold In64 at h; simp; omega
      have h7 : (a + (0 - a) == 0) = true := by simp; omega
      rw [h1, h2, h4, h5, h6, h7]
      simp [bothP]
    · obtain ⟨h1, h2⟩ := subOk_not hn ha h
      have h6 : (a == -9223372036854775808) = true := by unfold In64 at h ha; simp; omega
      rw [h1, h2, h6]
      simp [bothP]
  by_cases h : In64 (a + b)
  · obtain ⟨h1, h2⟩ := addOk_of ha hb h
    have e1 : a + b - b = a := by omega
    have e2 : a + b - a = b := by omega
    obtain ⟨h3, h4⟩ := subOk_of h hb (by rw [e1]; exact ha)
    obtain ⟨h5, h6⟩ := subOk_of h ha (by rw [e2]; exact hb)
    rw [h1, h2, h3, h4, h5, h6, e1, e2, decide_eq_true (p := half ≥ -4611686018427387904) (hi.2 h).1, decide_eq_true (p := half < 4611686018427387904) (hi.2 h).2]
    have h7 : (a != a) = false := by simp
    have h8 : (b != b) = false := by simp
    rw [h7, h8]
    exact tail
  · obtain ⟨h1, h2⟩ := addOk_not ha hb h
    have h7 : ((0 : Int) != 0) = false := rfl
    rw [h1, h2, h7]
    by_cases h3 : half ≥ -4611686018427387904
    · have h4 : ¬ half < 4611686018427387904 := fun h4 => h (hi.1 ⟨h3, h4⟩)
      rw [decide_eq_true h3, decide_eq_false h4]
      exact tail
    · rw [decide_eq_false h3]
      exact tail

end Go.Ai
