/-
  ReckonMuls: A product is told just if it is in the range; what was multiplied is divided again; the order of two turns nothing.
-/
import Derived.Test.YtndloeajkfajnaaAiMul
set_option linter.unusedVariables false
set_option linter.unusedSimpArgs false
namespace Go.Ai
open Go.RowKit Go.Proofs

theorem ex_tree {C : Ctx} {S : Script} {n : Nat} {f : FuncId} {args : List AV} {H : List Blk} {K : CRes → List Blk → Prop} {p : Prop} (h : callP C S n f args H K = p) (hp : p) : ∃ S, callP C S n f args H K := by
  rw [← h] at hp
  exact ⟨S, hp⟩

def scr (l : List (Nat × Hint)) : Script := { op := fun d => (l.find? fun p => Nat.beq p.1 d).map (·.2) }

def sMulA (a p n d : Int) (g pa pb : Bool) : Script := scr [(29, .int p), (30, .bit true), (35, .int p), (36, .bit true), (40, .int a), (41, .bit true), (45, .int n), (46, .bit g), (50, .int n), (51, .bit g), (54, .bit false), (67, .bit false), (72, .bit false), (80, .bit false), (83, .bit false), (128, .int d), (129, .bit true), (134, .int 0), (135, .bit true), (139, .bit true), (143, .bit (pa == pb)), (145, .bit pa), (147, .bit pb), (156, .bit true)]
def sMulB (a p n d : Int) (g pa pb : Bool) : Script := scr [(29, .int p), (30, .bit true), (35, .int p), (36, .bit true), (40, .int a), (41, .bit true), (45, .int n), (46, .bit g), (50, .int n), (51, .bit g), (54, .bit false), (67, .bit false), (72, .bit false), (80, .bit false), (83, .bit false), (128, .int d), (129, .bit false), (134, .int 0), (135, .bit true), (139, .bit true), (143, .bit (pa == pb)), (145, .bit pa), (147, .bit pb), (163, .bit true)]
def sMulZ (a p n : Int) (g z : Bool) : Script := scr [(29, .int p), (30, .bit true), (35, .int p), (36, .bit true), (40, .int a), (41, .bit true), (45, .int n), (46, .bit g), (50, .int n), (51, .bit g), (54, .bit false), (67, .bit false), (72, .bit false), (80, .bit z), (83, .bit true), (91, .bit true)]
def sMulN (a n v x y : Int) (g ma na mb nb : Bool) : Script := scr [(29, .int 0), (30, .bit false), (35, .int 0), (36, .bit false), (40, .int a), (41, .bit true), (45, .int n), (46, .bit g), (50, .int n), (51, .bit g), (54, .bit false), (67, .bit false), (72, .bit false), (80, .bit false), (83, .bit false), (97, .bit ma), (101, .bit na), (106, .bit mb), (110, .bit nb), (119, .int y), (120, .int x), (121, .res fun _ H => .val (.sc (.int .i64 v)) H), (122, .bit true)]

theorem treeMulA (a b p n d : Int) (g pa pb : Bool) (K : CRes → List Blk → Prop) : callP C5 (sMulA a p n d g pa pb) 100 5 [.sc (.int .i64 a), .sc (.int .i64 b)] [] K =
  (mulV a b = p ∧ mulOk a b = true ∧ mulV b a = p ∧ mulOk b a = true ∧ mulV a 1 = a ∧ mulOk a 1 = true ∧ mulV a (-1) = n ∧ mulOk a (-1) = g ∧ subV 0 a = n ∧ subOk 0 a = g ∧ (p != p) = false ∧ (a != a) = false ∧ (n != n) = false ∧
   (a == 0) = false ∧ (b == 0) = false ∧ divV p b = d ∧ divOk p b = true ∧ remV p b = 0 ∧ remOk p b = true ∧ (p != 0) = true ∧ decide (p > 0) = (pa == pb) ∧ decide (a > 0) = pa ∧ decide (b > 0) = pb ∧ (d == a) = true ∧
   K (.ret (.sc (.bool true))) []) := by
  cases g <;> cases pa <;> cases pb <;> kernel_rfl

theorem treeMulB (a b p n d : Int) (g pa pb : Bool) (K : CRes → List Blk → Prop) : callP C5 (sMulB a p n d g pa pb) 100 5 [.sc (.int .i64 a), .sc (.int .i64 b)] [] K =
  (mulV a b = p ∧ mulOk a b = true ∧ mulV b a = p ∧ mulOk b a = true ∧ mulV a 1 = a ∧ mulOk a 1 = true ∧ mulV a (-1) = n ∧ mulOk a (-1) = g ∧ subV 0 a = n ∧ subOk 0 a = g ∧ (p != p) = false ∧ (a != a) = false ∧ (n != n) = false ∧
   (a == 0) = false ∧ (b == 0) = false ∧ divV p b = d ∧ divOk p b = false ∧ remV p b = 0 ∧ remOk p b = true ∧ (p != 0) = true ∧ decide (p > 0) = (pa == pb) ∧ decide (a > 0) = pa ∧ decide (b > 0) = pb ∧ (b == -1) = true ∧
   K (.ret (.sc (.bool true))) []) := by
  cases g <;> cases pa <;> cases pb <;> kernel_rfl

theorem treeMulZ0 (a b p n : Int) (g : Bool) (K : CRes → List Blk → Prop) : callP C5 (sMulZ a p n g true) 100 5 [.sc (.int .i64 a), .sc (.int .i64 b)] [] K =
  (mulV a b = p ∧ mulOk a b = true ∧ mulV b a = p ∧ mulOk b a = true ∧ mulV a 1 = a ∧ mulOk a 1 = true ∧ mulV a (-1) = n ∧ mulOk a (-1) = g ∧ subV 0 a = n ∧ subOk 0 a = g ∧ (p != p) = false ∧ (a != a) = false ∧ (n != n) = false ∧
   (a == 0) = true ∧ (p == 0) = true ∧ K (.ret (.sc (.bool true))) []) := by
  cases g <;> kernel_rfl

theorem treeMulZ1 (a b p n : Int) (g : Bool) (K : CRes → List Blk → Prop) : callP C5 (sMulZ a p n g false) 100 5 [.sc (.int .i64 a), .sc (.int .i64 b)] [] K =
  (mulV a b = p ∧ mulOk a b = true ∧ mulV b a = p ∧ mulOk b a = true ∧ mulV a 1 = a ∧ mulOk a 1 = true ∧ mulV a (-1) = n ∧ mulOk a (-1) = g ∧ subV 0 a = n ∧ subOk 0 a = g ∧ (p != p) = false ∧ (a != a) = false ∧ (n != n) = false ∧
   (a == 0) = false ∧ (b == 0) = true ∧ (p == 0) = true ∧ K (.ret (.sc (.bool true))) []) := by
  cases g <;> kernel_rfl

/-- What stands where a number's size is wanted. -/
def upOne (m : Bool) (a : Int) : Int := bif m then IntKind.i64.wrap (a + 1) else a
def offSign (m : Bool) (a : Int) : Int := bif m then IntKind.i64.wrap (0 - a) else a

theorem treeMulN (a b n v x y : Int) (g ma na mb nb : Bool) (K : CRes → List Blk → Prop) : callP C5 (sMulN a n v x y g ma na mb nb) 100 5 [.sc (.int .i64 a), .sc (.int .i64 b)] [] K =
  (mulV a b = 0 ∧ mulOk a b = false ∧ mulV b a = 0 ∧ mulOk b a = false ∧ mulV a 1 = a ∧ mulOk a 1 = true ∧ mulV a (-1) = n ∧ mulOk a (-1) = g ∧ subV 0 a = n ∧ subOk 0 a = g ∧ ((0 : Int) != 0) = false ∧ (a != a) = false ∧ (n != n) = false ∧
   (a == 0) = false ∧ (b == 0) = false ∧ (a == -9223372036854775808) = ma ∧ decide (upOne ma a < 0) = na ∧ (b == -9223372036854775808) = mb ∧ decide (upOne mb b < 0) = nb ∧ offSign nb (upOne mb b) = y ∧ offSign na (upOne ma a) = x ∧
   (((pureRun Try.prog (Op.intDiv .quo .i64 9223372036854775807 x)).map absV).map (fun v => ORes.val v []) = some (.val (.sc (.int .i64 v)) [])) ∧ decide (y ≥ v) = true ∧ K (.ret (.sc (.bool true))) []) := by
  cases g <;> cases ma <;> cases na <;> cases mb <;> cases nb <;> kernel_rfl

theorem neg_one (a : Int) : a * -1 = -a := by omega

/-- Of the size of the greatest number's place: a quotient is not greater than what the product lets. -/
theorem big_quo {a b x y : Int} (ha : In64 a) (hb : In64 b) (ha0 : a ≠ 0) (hb0 : b ≠ 0) (h : ¬ In64 (a * b)) (hx : x = if a = -9223372036854775808 then 9223372036854775807 else if a < 0 then -a else a)
    (hy : y = if b = -9223372036854775808 then 9223372036854775807 else if b < 0 then -b else b) : y ≥ 9223372036854775807 / x := by
  have hx1 : 1 ≤ x := by unfold In64 at ha; split at hx <;> (try split at hx) <;> omega
  have hy1 : 1 ≤ y := by unfold In64 at hb; split at hy <;> (try split at hy) <;> omega
  by_cases hbm : b = -9223372036854775808
  · rw [if_pos hbm] at hy
    subst hy
    exact Int.ediv_le_self _ (by decide)
  by_cases ham : a = -9223372036854775808
  · rw [if_pos ham] at hx
    subst hx
    exact hy1
  rw [if_neg hbm] at hy
  rw [if_neg ham] at hx
  by_cases hlt : y < 9223372036854775807 / x
  · exfalso
    apply h
    have h1 : (y + 1) * x ≤ 9223372036854775807 := by
      have := Int.mul_le_of_le_ediv (a := y + 1) (b := 9223372036854775807) (c := x) (by omega) (by omega)
      exact this
    have h2 : y * x ≤ 9223372036854775807 := by
      have : (y + 1) * x = y * x + x := by rw [Int.add_mul, Int.one_mul]
      omega
    have h3 : 0 ≤ y * x := Int.mul_nonneg (by omega) (by omega)
    have h4 : a * b = y * x ∨ a * b = -(y * x) := by
      rw [hx, hy]
      by_cases e1 : a < 0 <;> by_cases e2 : b < 0
      · rw [if_pos e1, if_pos e2, Int.neg_mul_neg, Int.mul_comm]; exact .inl rfl
      · rw [if_pos e1, if_neg e2, Int.mul_neg, Int.neg_neg, Int.mul_comm]; exact .inr rfl
      · rw [if_neg e1, if_pos e2, Int.neg_mul, Int.neg_neg, Int.mul_comm]; exact .inr rfl
      · rw [if_neg e1, if_neg e2, Int.mul_comm]; exact .inl rfl
    unfold In64
    rcases h4 with h4 | h4 <;> rw [h4] <;> omega
  · omega

theorem muls (a b : Int) (ha : In64 a) (hb : In64 b) : ∃ S, callP C5 S 100 5 [.sc (.int .i64 a), .sc (.int .i64 b)] [] fun r _ => r = .ret (.sc (.bool true)) := by
  have hone : mulOk a 1 = true ∧ mulV a 1 = a := by
    rcases mul_facts ha (b := 1) (by unfold In64; omega) with ⟨h1, _, h3⟩ | ⟨_, h2, _⟩
    · exact ⟨h1, by rw [h3, Int.mul_one]⟩
    · rw [Int.mul_one] at h2; exact absurd ha h2
  have hneg : ∃ n g, mulV a (-1) = n ∧ mulOk a (-1) = g ∧ subV 0 a = n ∧ subOk 0 a = g := by
    refine ⟨_, _, rfl, rfl, ?_⟩
    have hz : In64 (0 : Int) := by unfold In64; omega
    have hz1 : In64 (-1 : Int) := by unfold In64; omega
    rcases mul_facts ha hz1 with ⟨h1, h2, h3⟩ | ⟨h1, h2, h3⟩
    · rw [neg_one] at h2 h3
      obtain ⟨h4, h5⟩ := subOk_of hz ha (by rw [show 0 - a = -a by omega]; exact h2)
      rw [h1, h3, h4, h5]
      exact ⟨by omega, rfl⟩
    · rw [neg_one] at h2
      obtain ⟨h4, h5⟩ := subOk_not hz ha (by rw [show 0 - a = -a by omega]; exact h2)
      rw [h1, h3, h4, h5]
      exact ⟨rfl, rfl⟩
  obtain ⟨n, g, n1, n2, n3, n4⟩ := hneg
  have hne : ∀ z : Int, (z != z) = false := fun z => by simp
  rcases mul_facts ha hb with ⟨h1, h2, h3⟩ | ⟨h1, h2, h3⟩
  · have hba : mulOk b a = true ∧ mulV b a = a * b := by
      rcases mul_facts hb ha with ⟨h4, _, h6⟩ | ⟨_, h5, _⟩
      · exact ⟨h4, by rw [h6, Int.mul_comm]⟩
      · rw [Int.mul_comm] at h5; exact absurd h2 h5
    by_cases ha0 : a = 0
    · refine ⟨sMulZ a (a * b) n g true, ?_⟩
      rw [treeMulZ0]
      exact ⟨h3, h1, hba.2, hba.1, hone.2, hone.1, n1, n2, n3, n4, hne _, hne _, hne _, by simp [ha0], by simp [ha0], rfl⟩
    by_cases hb0 : b = 0
    · refine ⟨sMulZ a (a * b) n g false, ?_⟩
      rw [treeMulZ1]
      exact ⟨h3, h1, hba.2, hba.1, hone.2, hone.1, n1, n2, n3, n4, hne _, hne _, hne _, by simp [ha0], by simp [hb0], by simp [hb0], rfl⟩
    have e1 : (a == 0) = false := by simp [ha0]
    have e2 : (b == 0) = false := by simp [hb0]
    have e3 : (a * b != 0) = true := by simp [ha0, hb0]
    have e4 : decide (a * b > 0) = (decide (a > 0) == decide (b > 0)) := by
      by_cases s1 : a > 0 <;> by_cases s2 : b > 0
      · have := Int.mul_pos s1 s2
        simp [s1, s2, this]
      · have := Int.mul_neg_of_pos_of_neg s1 (show b < 0 by omega)
        have h' : ¬ (a * b > 0) := by omega
        simp [s1, s2, h']
      · have := Int.mul_neg_of_neg_of_pos (show a < 0 by omega) s2
        have h' : ¬ (a * b > 0) := by omega
        simp [s1, s2, h']
      · have := Int.mul_pos_of_neg_of_neg (show a < 0 by omega) (show b < 0 by omega)
        have h' : (a * b > 0) := by omega
        simp [s1, s2, h']
    have e5 : remOk (a * b) b = true := by unfold remOk; rw [e2]; rfl
    have e6 : remV (a * b) b = 0 := by unfold remV; rw [e5]; exact Int.mul_tmod_left a b
    have e7 : (a * b).tdiv b = a := Int.mul_tdiv_cancel a hb0
    by_cases hd : b = -1 ∧ a * b = -9223372036854775808
    · refine ⟨sMulB a (a * b) n 0 g (decide (a > 0)) (decide (b > 0)), ?_⟩
      rw [treeMulB]
      have f1 : divOk (a * b) b = false := by
        unfold divOk
        rw [hd.2, hd.1]
        rfl
      exact ⟨h3, h1, hba.2, hba.1, hone.2, hone.1, n1, n2, n3, n4, hne _, hne _, hne _, e1, e2, by unfold divV; rw [f1]; rfl, f1, e6, e5, e3, e4, rfl, rfl, by simp [hd.1], rfl⟩
    · refine ⟨sMulA a (a * b) n a g (decide (a > 0)) (decide (b > 0)), ?_⟩
      rw [treeMulA]
      have f1 : divOk (a * b) b = true := by
        unfold divOk
        rw [e2]
        by_cases q1 : b = -1
        · have q2 : ¬ a * b = -9223372036854775808 := fun q => hd ⟨q1, q⟩
          have q3 : (a * b == -9223372036854775808) = false := by simp only [beq_eq_false_iff_ne]; exact q2
          rw [q3]
          simp
        · have q3 : (b == -1) = false := by simp only [beq_eq_false_iff_ne]; exact q1
          rw [q3]
          rfl
      have f2 : divV (a * b) b = a := by
        unfold divV
        rw [f1, e7]
        unfold In64 at ha
        simp only [cond_true, wrap_i64]
        omega
      exact ⟨h3, h1, hba.2, hba.1, hone.2, hone.1, n1, n2, n3, n4, hne _, hne _, hne _, e1, e2, f2, f1, e6, e5, e3, e4, rfl, rfl, by simp, rfl⟩
  · have hba : mulOk b a = false ∧ mulV b a = 0 := by
      rcases mul_facts hb ha with ⟨_, h5, _⟩ | ⟨h4, _, h6⟩
      · rw [Int.mul_comm] at h5; exact absurd h5 h2
      · exact ⟨h4, h6⟩
    have ha0 : a ≠ 0 := by rintro rfl; apply h2; rw [Int.zero_mul]; unfold In64; omega
    have hb0 : b ≠ 0 := by rintro rfl; apply h2; rw [Int.mul_zero]; unfold In64; omega
    have e1 : (a == 0) = false := by simp [ha0]
    have e2 : (b == 0) = false := by simp [hb0]
    have sz : ∀ z : Int, In64 z → offSign (decide (upOne (z == -9223372036854775808) z < 0)) (upOne (z == -9223372036854775808) z) = if z = -9223372036854775808 then 9223372036854775807 else if z < 0 then -z else z := by
      intro z hz
      unfold In64 at hz
      by_cases q : z = -9223372036854775808
      · subst q; rfl
      · rw [if_neg q]
        have q3 : (z == -9223372036854775808) = false := by simp only [beq_eq_false_iff_ne]; exact q
        rw [q3]
        unfold upOne offSign
        simp only [cond_false]
        by_cases q4 : z < 0
        · rw [decide_eq_true q4, if_pos q4]
          simp only [cond_true, wrap_i64]
          omega
        · rw [decide_eq_false q4, if_neg q4]
          rfl
    have hq := big_quo ha hb ha0 hb0 h2 (sz a ha) (sz b hb)
    have hx0 : (offSign (decide (upOne (a == -9223372036854775808) a < 0)) (upOne (a == -9223372036854775808) a) == 0) = false := by
      rw [sz a ha]
      unfold In64 at ha
      simp only [beq_eq_false_iff_ne]
      split <;> (try split) <;> omega
    have run := treeMulN a b n (IntKind.i64.wrap ((9223372036854775807 : Int).tdiv (offSign (decide (upOne (a == -9223372036854775808) a < 0)) (upOne (a == -9223372036854775808) a))))
      (offSign (decide (upOne (a == -9223372036854775808) a < 0)) (upOne (a == -9223372036854775808) a)) (offSign (decide (upOne (b == -9223372036854775808) b < 0)) (upOne (b == -9223372036854775808) b)) g
      (a == -9223372036854775808) (decide (upOne (a == -9223372036854775808) a < 0)) (b == -9223372036854775808) (decide (upOne (b == -9223372036854775808) b < 0)) (fun r _ => r = .ret (.sc (.bool true)))
    refine ex_tree run ?_
    refine ⟨h3, h1, hba.2, hba.1, hone.2, hone.1, n1, n2, n3, n4, rfl, hne _, hne _, e1, e2, rfl, rfl, rfl, rfl, rfl, rfl, quo_run hx0, ?_, rfl⟩
    have hx1 : 0 ≤ offSign (decide (upOne (a == -9223372036854775808) a < 0)) (upOne (a == -9223372036854775808) a) := by
      rw [sz a ha]
      unfold In64 at ha
      split <;> (try split) <;> omega
    generalize offSign (decide (upOne (a == -9223372036854775808) a < 0)) (upOne (a == -9223372036854775808) a) = x at *
    rw [Int.tdiv_eq_ediv_of_nonneg (by decide)]
    have h5 : 9223372036854775807 / x ≤ 9223372036854775807 := Int.ediv_le_self _ (by decide)
    have h6 : 0 ≤ 9223372036854775807 / x := Int.ediv_nonneg (by decide) hx1
    rw [wrap_i64]
    apply decide_eq_true
    omega

end Go.Ai
