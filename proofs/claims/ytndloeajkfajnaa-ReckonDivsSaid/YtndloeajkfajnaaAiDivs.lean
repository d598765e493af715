/-
  ReckonDivs: A number is its quotient times the divisor, and what is left, which is nearer to 0 than the divisor, and has the number's sign, or is 0.
-/
import Derived.Test.YtndloeajkfajnaaAiMuls
set_option linter.unusedVariables false
set_option linter.unusedSimpArgs false
namespace Go.Ai
open Go.RowKit Go.Proofs

def sDiv (q r b : Int) (l : List (Nat × Hint)) : Script := scr ([(27, .int q), (33, .int r), (22, .int b)] ++ l)

def divZ (a b q r : Int) (k : Prop) : Prop := divV a b = q ∧ divOk a b = false ∧ remV a b = r ∧ remOk a b = false ∧ (b == 0) = true ∧ (q == 0) = true ∧ (r == 0) = true ∧ k
def divM (a b q r : Int) (k : Prop) : Prop := divV a b = q ∧ divOk a b = false ∧ remV a b = r ∧ remOk a b = true ∧ (b == 0) = false ∧ (a == -9223372036854775808) = true ∧ (b == -1) = true ∧ (r == 0) = true ∧ k

theorem treeDivZ0 (a b q r : Int) (K : CRes → List Blk → Prop) : callP C5 (sDiv q r b [(28, .bit false), (34, .bit false), (36, .bit true), (48, .bit true), (52, .bit true)]) 100 6 [.sc (.int .i64 a), .sc (.int .i64 b), .sc (.bool false)] [] K =
  divZ a b q r (K (.ret (.sc (.bool true))) []) := by kernel_rfl
theorem treeDivZ1 (a c b q r : Int) (K : CRes → List Blk → Prop) : callP C5 (sDiv q r b [(28, .bit false), (34, .bit false), (36, .bit true), (48, .bit true), (52, .bit true)]) 100 6 [.sc (.int .i64 a), .sc (.int .i64 c), .sc (.bool true)] [] K =
  (c.tmod 9 = b ∧ divZ a b q r (K (.ret (.sc (.bool true))) [])) := by kernel_rfl
theorem treeDivM0 (a b q r : Int) (K : CRes → List Blk → Prop) : callP C5 (sDiv q r b [(28, .bit false), (34, .bit true), (36, .bit false), (55, .bit true), (58, .bit true), (70, .bit true)]) 100 6 [.sc (.int .i64 a), .sc (.int .i64 b), .sc (.bool false)] [] K =
  divM a b q r (K (.ret (.sc (.bool true))) []) := by kernel_rfl
theorem treeDivM1 (a c b q r : Int) (K : CRes → List Blk → Prop) : callP C5 (sDiv q r b [(28, .bit false), (34, .bit true), (36, .bit false), (55, .bit true), (58, .bit true), (70, .bit true)]) 100 6 [.sc (.int .i64 a), .sc (.int .i64 c), .sc (.bool true)] [] K =
  (c.tmod 9 = b ∧ divM a b q r (K (.ret (.sc (.bool true))) [])) := by kernel_rfl

def divN3 (a r s : Int) (rz rn : Bool) (k : Prop) : Prop := (s == a) = true ∧ (r == 0) = rz ∧ bif rz then k else (decide (r < 0) = rn ∧ decide (a < 0) = rn ∧ k)
def divN2 (a b r s : Int) (mb rz rn : Bool) (k : Prop) : Prop := (b == -9223372036854775808) = mb ∧ bif mb then divN3 a r s rz rn k else
  (decide (r > IntKind.i64.wrap (0 - if IntKind.i64.wrap (0 - b) > b then IntKind.i64.wrap (0 - b) else b)) = true ∧ decide (r < if IntKind.i64.wrap (0 - b) > b then IntKind.i64.wrap (0 - b) else b) = true ∧ divN3 a r s rz rn k)
def divN1 (a b q r m s : Int) (mb rz rn : Bool) (k : Prop) : Prop := mulV q b = m ∧ mulOk q b = true ∧ addV m r = s ∧ addOk m r = true ∧ divN2 a b r s mb rz rn k
def divN (a b q r m s : Int) (ma mb rz rn : Bool) (k : Prop) : Prop := divV a b = q ∧ divOk a b = true ∧ remV a b = r ∧ remOk a b = true ∧ (b == 0) = false ∧ (a == -9223372036854775808) = ma ∧
  bif ma then ((b == -1) = false ∧ divN1 a b q r m s mb rz rn k) else divN1 a b q r m s mb rz rn k

def sDivN (q r b m s : Int) (ma mb rz rn : Bool) : Script := sDiv q r b [(28, .bit true), (34, .bit true), (36, .bit false), (55, .bit ma), (58, .bit false), (76, .int m), (77, .bit true), (82, .int s), (83, .bit true), (85, .bit mb), (93, .bit true), (100, .bit true), (119, .bit true), (126, .bit rz), (129, .bit rn), (131, .bit rn)]

theorem treeDivN0 (a b q r m s : Int) (ma mb rz rn : Bool) (K : CRes → List Blk → Prop) : callP C5 (sDivN q r b m s ma mb rz rn) 100 6 [.sc (.int .i64 a), .sc (.int .i64 b), .sc (.bool false)] [] K =
  divN a b q r m s ma mb rz rn (K (.ret (.sc (.bool true))) []) := by
  cases ma <;> cases mb <;> cases rz <;> cases rn <;> kernel_rfl
theorem treeDivN1 (a c b q r m s : Int) (ma mb rz rn : Bool) (K : CRes → List Blk → Prop) : callP C5 (sDivN q r b m s ma mb rz rn) 100 6 [.sc (.int .i64 a), .sc (.int .i64 c), .sc (.bool true)] [] K =
  (c.tmod 9 = b ∧ divN a b q r m s ma mb rz rn (K (.ret (.sc (.bool true))) [])) := by
  cases ma <;> cases mb <;> cases rz <;> cases rn <;> kernel_rfl

/-- One of the ways is gone. -/
def divSome (a b : Int) (run : Prop) : Prop := (b = 0 → run) ∧ (a = -9223372036854775808 ∧ b = -1 → run) ∧ (b ≠ 0 → ¬ (a = -9223372036854775808 ∧ b = -1) → run)

theorem div_paths (a b : Int) (ha : In64 a) (hb : In64 b) (k run : Prop) (hk : k) (hz : divZ a b (divV a b) (remV a b) k → run) (hm : divM a b (divV a b) (remV a b) k → run)
    (hn : ∀ m s ma mb rz rn, divN a b (divV a b) (remV a b) m s ma mb rz rn k → run) : run := by
  by_cases h0 : b = 0
  · subst h0
    exact hz ⟨rfl, rfl, rfl, rfl, rfl, rfl, rfl, hk⟩
  have e0 : (b == 0) = false := by simp [h0]
  have er : remOk a b = true := by unfold remOk; rw [e0]; rfl
  have erv : remV a b = a.tmod b := by unfold remV; rw [er]; rfl
  by_cases h1 : a = -9223372036854775808 ∧ b = -1
  · obtain ⟨rfl, rfl⟩ := h1
    exact hm ⟨rfl, rfl, rfl, rfl, rfl, rfl, rfl, rfl, hk⟩
  have ed : divOk a b = true := by
    unfold divOk
    rw [e0]
    by_cases q1 : b = -1
    · have q2 : ¬ a = -9223372036854775808 := fun q => h1 ⟨q, q1⟩
      have q3 : (a == -9223372036854775808) = false := by simp only [beq_eq_false_iff_ne]; exact q2
      rw [q3]
      simp
    · have q3 : (b == -1) = false := by simp only [beq_eq_false_iff_ne]; exact q1
      rw [q3]
      rfl
  -- the quotient, what is left
  have f1 : (a.tdiv b).natAbs = a.natAbs / b.natAbs := Int.natAbs_tdiv a b
  have f2 : (a.tmod b).natAbs = a.natAbs % b.natAbs := Int.natAbs_tmod a b
  have f3 : b * a.tdiv b + a.tmod b = a := Int.mul_tdiv_add_tmod a b
  have f4 : a.natAbs % b.natAbs < b.natAbs := Nat.mod_lt _ (by omega)
  have f5 : a.natAbs % b.natAbs ≤ a.natAbs := Nat.mod_le _ _
  have f6 : 0 ≤ a → 0 ≤ a.tmod b := fun h => Int.tmod_nonneg b h
  have f7 : a ≤ 0 → a.tmod b ≤ 0 := fun h => by
    have := Int.tmod_nonneg b (a := -a) (by omega)
    rw [Int.neg_tmod] at this
    omega
  have f8 : In64 (a.tdiv b) := by
    unfold In64 at *
    by_cases hb1 : b = 1
    · rw [hb1, Int.tdiv_one]; exact ha
    by_cases hb2 : b = -1
    · have : a.tdiv (-1) = -a := by rw [Int.tdiv_neg, Int.tdiv_one]
      rw [hb2, this]
      have : a ≠ -9223372036854775808 := fun q => h1 ⟨q, hb2⟩
      omega
    · have h2 : 2 ≤ b.natAbs := by omega
      have h3 : a.natAbs / b.natAbs ≤ a.natAbs / 2 := Nat.div_le_div_left h2 (by decide)
      omega
  have eq : divV a b = a.tdiv b := by
    unfold divV
    rw [ed]
    unfold In64 at f8
    simp only [cond_true, wrap_i64]
    omega
  have f9 : a.tdiv b * b = a - a.tmod b := by rw [Int.mul_comm]; omega
  have f10 : In64 (a.tdiv b * b) := by rw [f9]; unfold In64 at *; omega
  have f11 : In64 (a.tmod b) := by unfold In64 at *; omega
  obtain ⟨m1, m3⟩ : mulOk (a.tdiv b) b = true ∧ mulV (a.tdiv b) b = a - a.tmod b := by
    rcases mul_facts f8 hb with ⟨m1, _, m3⟩ | ⟨_, m2, _⟩
    · exact ⟨m1, by rw [m3, f9]⟩
    · exact absurd f10 m2
  obtain ⟨s1, s2⟩ := addOk_of (a := a - a.tmod b) (b := a.tmod b) (by rw [← f9]; exact f10) f11 (by rw [show a - a.tmod b + a.tmod b = a by omega]; exact ha)
  rw [show a - a.tmod b + a.tmod b = a by omega] at s2
  refine hn (a - a.tmod b) a (a == -9223372036854775808) (b == -9223372036854775808) (a.tmod b == 0) (decide (a.tmod b < 0)) ?_
  have n3 : divN3 a (a.tmod b) a (a.tmod b == 0) (decide (a.tmod b < 0)) k := by
    refine ⟨by simp, rfl, ?_⟩
    by_cases hz : a.tmod b = 0
    · rw [show (a.tmod b == 0) = true by simp [hz]]
      exact hk
    · rw [show (a.tmod b == 0) = false by simp [hz]]
      refine ⟨rfl, ?_, hk⟩
      by_cases h : a < 0
      · rw [decide_eq_true h, decide_eq_true (by have := f7 (by omega); omega)]
      · rw [decide_eq_false h, decide_eq_false (by have := f6 (by omega); omega)]
  have n2 : divN2 a b (a.tmod b) a (b == -9223372036854775808) (a.tmod b == 0) (decide (a.tmod b < 0)) k := by
    refine ⟨rfl, ?_⟩
    by_cases hz : b = -9223372036854775808
    · rw [show (b == -9223372036854775808) = true by simp [hz]]
      exact n3
    · rw [show (b == -9223372036854775808) = false by simp only [beq_eq_false_iff_ne]; exact hz]
      unfold In64 at hb
      have w1 : IntKind.i64.wrap (0 - b) = -b := by rw [wrap_i64]; omega
      refine ⟨?_, ?_, n3⟩
      · rw [w1]
        apply decide_eq_true
        rw [wrap_i64]
        split <;> omega
      · rw [w1]
        apply decide_eq_true
        split <;> omega
  have n1 : divN1 a b (a.tdiv b) (a.tmod b) (a - a.tmod b) a (b == -9223372036854775808) (a.tmod b == 0) (decide (a.tmod b < 0)) k := ⟨m3, m1, s2, s1, n2⟩
  rw [eq, erv]
  refine ⟨eq, ed, erv, er, e0, rfl, ?_⟩
  by_cases hz : a = -9223372036854775808
  · rw [show (a == -9223372036854775808) = true by simp [hz]]
    refine ⟨?_, n1⟩
    have : b ≠ -1 := fun q => h1 ⟨hz, q⟩
    simp [this]
  · rw [show (a == -9223372036854775808) = false by simp only [beq_eq_false_iff_ne]; exact hz]
    exact n1

theorem divs (a b : Int) (near : Bool) (ha : In64 a) (hb : In64 b) : ∃ S, callP C5 S 100 6 [.sc (.int .i64 a), .sc (.int .i64 b), .sc (.bool near)] [] fun r _ => r = .ret (.sc (.bool true)) := by
  cases near
  · refine div_paths a b ha hb _ _ (rfl : (CRes.ret (.sc (.bool true)) = CRes.ret (.sc (.bool true)))) (fun h => ?_) (fun h => ?_) (fun m s ma mb rz rn h => ?_)
    · exact ex_tree (treeDivZ0 a b _ _ _) h
    · exact ex_tree (treeDivM0 a b _ _ _) h
    · exact ex_tree (treeDivN0 a b _ _ m s ma mb rz rn _) h
  · have hb' : In64 (b.tmod 9) := by
      have f2 : (b.tmod 9).natAbs = b.natAbs % 9 := Int.natAbs_tmod b 9
      unfold In64
      omega
    refine div_paths a (b.tmod 9) ha hb' _ _ (rfl : (CRes.ret (.sc (.bool true)) = CRes.ret (.sc (.bool true)))) (fun h => ?_) (fun h => ?_) (fun m s ma mb rz rn h => ?_)
    · exact ex_tree (treeDivZ1 a b _ _ _ _) ⟨rfl, h⟩
    · exact ex_tree (treeDivM1 a b _ _ _ _) ⟨rfl, h⟩
    · exact ex_tree (treeDivN1 a b _ _ _ m s ma mb rz rn _) ⟨rfl, h⟩

end Go.Ai
