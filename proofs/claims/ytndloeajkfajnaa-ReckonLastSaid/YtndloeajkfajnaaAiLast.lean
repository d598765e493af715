/-
  ReckonLast: A field is that of the last event that is bound; a count is how many are; of a variable that is not there there is neither: the run.
-/
import Derived.Test.YtndloeajkfajnaaAiEq
import Derived.Test.YtndloeajkfajnaaAiBelow
set_option linter.unusedVariables false
set_option linter.unusedSimpArgs false
namespace Go.Ai
open Go.Proofs Go.RowKit

def inl8 : FuncId → Bool := fun f => (told8 f).isNone && !(f == 140 || f == 145)
def sLast (i j w : Int) : Script := { op := fun d => if d = 30 then some (.int w) else if d = 114 then some (.eqv true) else none, inl := inl8, sub := fun f d => if f = 15 then (if d = 16 then some (.int i) else if d = 49 then some (.int j) else if d = 37 then some .idxI else if d = 69 then some .idxS else none) else if f = 103 then (if d = 11 then some (.eqv true) else none) else none }

def pickN (a : List AV) (i : Int) : Prop := ∃ z, (if i < 0 then none else ((a.map fun x => [x])[i.toNat]?).map fun row => AV.rp row 0) = some (AV.rp [AV.sc (.int .i64 z)] 0)
def pickT (a : List AV) (i : Int) : Prop := ∃ z, (if i < 0 then none else ((a.map fun x => [x])[i.toNat]?).map fun row => AV.rp row 0) = some (AV.rp [AV.sc (.string z)] 0)

def evA (bs : List Int) (m : AV) : Nat → Int → (Int → Prop) → Prop
  | 0, x, k => k x
  | i + 1, x, k => okN bs m x ∧ pickN [.sc (.int .i64 (IntKind.i64.wrap ((byteAt bs x).tdiv 7))), .sc (.int .i64 (-9223372036854775808)), .sc (.int .i64 9223372036854775807), .sc (.int .i64 (IntKind.i64.wrap (0 - byteAt bs x)))] ((byteAt bs x).tmod 4) ∧
    ∀ _ : Int, evA bs m i (nextAt bs x) k

def evB (bs : List Int) (m : AV) : Nat → Int → Prop → Prop
  | 0, x, k => k
  | i + 1, x, k => okN bs m x ∧ pickT [.sc (.string ⟨#[]⟩), .sc (.string ⟨#[97]⟩), .sc (.string ⟨#[98]⟩), .sc (.string ⟨#[97, 98]⟩)] ((byteAt bs x).tmod 4) ∧ ∀ _ : ByteArray, evB bs m i (nextAt bs x) k

def eqSame (n : Int) (o1 o2 : Operand) : Prop := binA Try.prog .eql 23 o1 o2 (.agg [.sc (.int .i64 1), .sc (.int .i64 n), .sc (.string ⟨#[]⟩)]) (.agg [.sc (.int .i64 1), .sc (.int .i64 n), .sc (.string ⟨#[]⟩)]) = some (.sc (.bool true))

def lastP (bs : List Int) (m : AV) (i j w0 : Nat) (n w : Int) (k : Prop) : Prop :=
  okN bs m 0 ∧ (byteAt bs 0).tmod 3 = i ∧ evA bs m (i + 1) (nextAt bs 0) fun x => okN bs m x ∧ (byteAt bs x).tmod 4 = j ∧ evB bs m j (nextAt bs x) (w.tmod 2 = w0 ∧ eqSame n (.tmp 7) (.tmp 10) ∧ eqSame n (.tmp 111) (.tmp 113) ∧ k)

theorem treeLast (bs : List Int) (cap : Option Nat) (n w : Int) (i j w0 : Nat) (hi : i = 0 ∨ i = 1 ∨ i = 2) (hj : j = 0 ∨ j = 1 ∨ j = 2 ∨ j = 3) (hw : w0 = 0 ∨ w0 = 1) (Q : CRes → Prop) :
    callPC C8 (con8 bs) (sLast i j w0) 100 8 [.ro 1 (mRows bs) cap, .sc (.int .i64 n), .sc (.int .u8 w)] [] (fun r _ => Q r) = lastP bs (.ro 1 (mRows bs) cap) i j w0 n w (Q (.ret (.sc (.bool true)))) := by
  rcases hi with rfl | rfl | rfl <;> rcases hj with rfl | rfl | rfl | rfl <;> rcases hw with rfl | rfl <;> kernel_rfl

theorem treeLastN (n w : Int) (w0 : Nat) (hw : w0 = 0 ∨ w0 = 1) (Q : CRes → Prop) :
    callPC C8 (con8 []) (sLast ((0 : Nat) : Int) ((0 : Nat) : Int) w0) 100 8 [.sc (.slice none 0 0), .sc (.int .i64 n), .sc (.int .u8 w)] [] (fun r _ => Q r) = lastP [] (.sc (.slice none 0 0)) 0 0 w0 n w (Q (.ret (.sc (.bool true)))) := by
  rcases hw with rfl | rfl <;> kernel_rfl

theorem eq_same (n : Int) (o1 o2 : Operand) : eqSame n o1 o2 := by
  have h := bin_equal 1 n 1 n ⟨#[]⟩ ⟨#[]⟩ o1 o2
  have e1 : ((1 : Int) == 1) = true := rfl
  have e2 : (n == n) = true := by simp
  have e3 : ((⟨#[]⟩ : ByteArray) == ⟨#[]⟩) = true := by kernel_rfl
  rw [e1, e2, e3] at h
  exact h

theorem callPC_tree {C : Ctx} {D : Con C} {S : Script} {n : Nat} {f : FuncId} {args : List AV} {H : List Blk} {K : CRes → List Blk → Prop} {p : Prop} (h : callPC C D S n f args H K = p) (hp : p) : ∃ r, call C n f args H = some r ∧ K r.1 r.2 := by
  rw [← h] at hp
  exact callPC_sound hp

theorem pickN_of {a b c d : Int} {i : Int} (h0 : 0 ≤ i) (h1 : i < 4) : pickN [.sc (.int .i64 a), .sc (.int .i64 b), .sc (.int .i64 c), .sc (.int .i64 d)] i := by
  have : i = 0 ∨ i = 1 ∨ i = 2 ∨ i = 3 := by omega
  rcases this with rfl | rfl | rfl | rfl
  · exact ⟨a, rfl⟩
  · exact ⟨b, rfl⟩
  · exact ⟨c, rfl⟩
  · exact ⟨d, rfl⟩

theorem pickT_of {a b c d : ByteArray} {i : Int} (h0 : 0 ≤ i) (h1 : i < 4) : pickT [.sc (.string a), .sc (.string b), .sc (.string c), .sc (.string d)] i := by
  have : i = 0 ∨ i = 1 ∨ i = 2 ∨ i = 3 := by omega
  rcases this with rfl | rfl | rfl | rfl
  · exact ⟨a, rfl⟩
  · exact ⟨b, rfl⟩
  · exact ⟨c, rfl⟩
  · exact ⟨d, rfl⟩

theorem byte4 {bs : List Int} {m : AV} (hm : IsM bs m) (x : Int) : 0 ≤ (byteAt bs x).tmod 4 ∧ (byteAt bs x).tmod 4 < 4 := by
  have h := byteAt_range hm.byte x
  rw [Int.tmod_eq_emod_of_nonneg h.1]
  omega

theorem evB_of {bs : List Int} {m : AV} (hm : IsM bs m) {k : Prop} (hk : k) : ∀ (i : Nat) (x : Int), 0 ≤ x → x ≤ bs.length → evB bs m i x k
  | 0, x, h0, h1 => hk
  | i + 1, x, h0, h1 => by
    have h4 := byte4 hm x
    have hn := nextAt_range h0 h1
    exact ⟨⟨hm, h0, h1⟩, pickT_of h4.1 h4.2, fun _ => evB_of hm hk i _ hn.1 hn.2⟩

/-- Where the second number of events is read. -/
def atB (bs : List Int) : Nat → Int → Int
  | 0, x => x
  | i + 1, x => atB bs i (nextAt bs x)

theorem evA_at {bs : List Int} {m : AV} (hm : IsM bs m) {k : Int → Prop} : ∀ (i : Nat) (x : Int), 0 ≤ x → x ≤ bs.length → (0 ≤ atB bs i x → atB bs i x ≤ bs.length → k (atB bs i x)) → evA bs m i x k
  | 0, x, h0, h1, hk => hk h0 h1
  | i + 1, x, h0, h1, hk => by
    have h4 := byte4 hm x
    have hn := nextAt_range h0 h1
    exact ⟨⟨hm, h0, h1⟩, pickN_of h4.1 h4.2, fun _ => evA_at hm i _ hn.1 hn.2 hk⟩

theorem lastP_of {bs : List Int} {m : AV} (hm : IsM bs m) (n w : Int) (hw : 0 ≤ w) {k : Prop} (hk : k) :
    ∃ i j w0 : Nat, (i = 0 ∨ i = 1 ∨ i = 2) ∧ (j = 0 ∨ j = 1 ∨ j = 2 ∨ j = 3) ∧ (w0 = 0 ∨ w0 = 1) ∧ (bs = [] → i = 0 ∧ j = 0) ∧ lastP bs m i j w0 n w k := by
  have h0 := byteAt_range hm.byte 0
  have hi : (byteAt bs 0).tmod 3 = (byteAt bs 0) % 3 := Int.tmod_eq_emod_of_nonneg h0.1
  obtain ⟨i, hi'⟩ : ∃ i : Nat, (byteAt bs 0).tmod 3 = i := ⟨((byteAt bs 0) % 3).toNat, by omega⟩
  have hx := nextAt_range (bs := bs) (x := 0) (by omega) (by omega)
  have h1 := byteAt_range hm.byte (atB bs (i + 1) (nextAt bs 0))
  have hj : (byteAt bs (atB bs (i + 1) (nextAt bs 0))).tmod 4 = (byteAt bs (atB bs (i + 1) (nextAt bs 0))) % 4 := Int.tmod_eq_emod_of_nonneg h1.1
  obtain ⟨j, hj'⟩ : ∃ j : Nat, (byteAt bs (atB bs (i + 1) (nextAt bs 0))).tmod 4 = j := ⟨((byteAt bs (atB bs (i + 1) (nextAt bs 0))) % 4).toNat, by omega⟩
  have hw2 : w.tmod 2 = w % 2 := Int.tmod_eq_emod_of_nonneg hw
  obtain ⟨w0, hw'⟩ : ∃ w0 : Nat, w.tmod 2 = w0 := ⟨(w % 2).toNat, by omega⟩
  refine ⟨i, j, w0, by omega, by omega, by omega, fun hb => ?_, ⟨hm, by omega, by omega⟩, hi', ?_⟩
  · subst hb
    have e : ∀ x, 0 ≤ x → byteAt [] x = 0 := fun x hx => by unfold byteAt; rw [if_neg (by simpa using hx)]
    have e1 := e 0 (by omega)
    rw [e1] at hi'
    have e2 : ∀ (i : Nat) (x : Int), 0 ≤ x → 0 ≤ atB [] i x := by
      intro i
      induction i with
      | zero => intro x hx; exact hx
      | succ i ih => intro x hx; exact ih _ (by unfold nextAt; split <;> omega)
    rw [e _ (e2 _ _ hx.1)] at hj'
    simp at hi' hj'
    omega
  · refine evA_at hm _ _ hx.1 hx.2 fun h2 h3 => ?_
    have h4 := nextAt_range h2 h3
    exact ⟨⟨hm, h2, h3⟩, hj', evB_of hm ⟨hw', eq_same _ _ _, eq_same _ _ _, hk⟩ _ _ h4.1 h4.2⟩

theorem last_run {bs : List Int} {m : AV} (hm : IsM bs m) (n w : Int) (hw : 0 ≤ w) : ∃ H1, call C8 100 8 [m, .sc (.int .i64 n), .sc (.int .u8 w)] [] = some (.ret (.sc (.bool true)), H1) := by
  obtain ⟨i, j, w0, hi, hj, hw0, hb, hl⟩ := lastP_of hm n w hw (k := (CRes.ret (.sc (.bool true)) = CRes.ret (.sc (.bool true)))) rfl
  rcases hm.form with ⟨cap, rfl⟩ | ⟨rfl, rfl⟩
  · obtain ⟨⟨r, H1⟩, hr, hk⟩ := callPC_tree (treeLast bs cap n w i j w0 hi hj hw0 fun r => r = .ret (.sc (.bool true))) hl
    simp only at hk
    subst hk
    exact ⟨H1, hr⟩
  · obtain ⟨rfl, rfl⟩ := hb rfl
    obtain ⟨⟨r, H1⟩, hr, hk⟩ := callPC_tree (treeLastN n w w0 hw0 fun r => r = .ret (.sc (.bool true))) hl
    simp only at hk
    subst hk
    exact ⟨H1, hr⟩

end Go.Ai
