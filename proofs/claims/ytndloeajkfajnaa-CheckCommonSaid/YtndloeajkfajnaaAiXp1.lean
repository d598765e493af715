/-
  EXPRESSIONS THAT ARE NOT KNOWN: values that may be, their order, operations of two.
-/
import Derived.Test.YtndloeajkfajnaaAiXp0
set_option linter.unusedVariables false
set_option linter.unusedSimpArgs false
namespace Go.Ai
open Go.Proofs Go.RowKit

/-- What 'must' gives up with. -/
def giveUp : AV := .ifc 139 (.agg [])

/-- How an answer ends. -/
def outX2 (r : Option Vl) : CRes := match r with
  | some v => .ret v.av
  | none => .pan giveUp

theorem plain103 : plainF 103 := ⟨rfl, rfl, rfl, rfl, rfl⟩
theorem plain130 : plainF 130 := ⟨rfl, rfl, rfl, rfl, rfl⟩

def eqV (k x : Int) (s : List UInt8) : Prop := binA Try.prog .eql 23 (.tmp 7) (.tmp 10) (.agg [.sc (.int .i64 k), .sc (.int .i64 x), .sc (.string ⟨⟨s⟩⟩)]) (.agg [.sc (.int .i64 1), .sc (.int .i64 x), .sc (.string ⟨⟨[]⟩⟩)]) = some (.sc (.bool true))

def s103 : Script := { op := fun d => if d = 11 then some (.eqv true) else if d = 26 then some (.eqv true) else if d = 31 then some (.bit true) else none }

theorem tree103a (x : Int) (K : CRes → Prop) : callP CS s103 40 103 [.agg [.sc (.int .i64 1), .sc (.int .i64 x), .sc (.string ⟨⟨[]⟩⟩)]] [] (fun r _ => K r) =
    (binA Try.prog .eql 23 (.tmp 7) (.tmp 10) (.agg [.sc (.int .i64 1), .sc (.int .i64 x), .sc (.string ⟨⟨[]⟩⟩)]) (.agg [.sc (.int .i64 1), .sc (.int .i64 x), .sc (.string ⟨⟨[]⟩⟩)]) = some (.sc (.bool true)) ∧ K (.ret (.sc (.bool true)))) := by kernel_rfl
theorem tree103b (K : CRes → Prop) : callP CS s103 40 103 [.agg [.sc (.int .i64 2), .sc (.int .i64 0), .sc (.string ⟨⟨[]⟩⟩)]] [] (fun r _ => K r) = K (.ret (.sc (.bool true))) := by kernel_rfl
theorem tree103c (K : CRes → Prop) : callP CS s103 40 103 [.agg [.sc (.int .i64 2), .sc (.int .i64 1), .sc (.string ⟨⟨[]⟩⟩)]] [] (fun r _ => K r) = K (.ret (.sc (.bool true))) := by kernel_rfl
theorem tree103d (s : List UInt8) (K : CRes → Prop) : callP CS s103 40 103 [.agg [.sc (.int .i64 3), .sc (.int .i64 0), .sc (.string ⟨⟨s⟩⟩)]] [] (fun r _ => K r) =
    (binA Try.prog .eql 23 (.tmp 22) (.tmp 25) (.agg [.sc (.int .i64 3), .sc (.int .i64 0), .sc (.string ⟨⟨s⟩⟩)]) (.agg [.sc (.int .i64 3), .sc (.int .i64 0), .sc (.string ⟨⟨s⟩⟩)]) = some (.sc (.bool true)) ∧ decide (((⟨⟨s⟩⟩ : ByteArray).size : Int) ≤ 64) = true ∧ K (.ret (.sc (.bool true)))) := by kernel_rfl

theorem byteArr_same (s : List UInt8) : ((⟨⟨s⟩⟩ : ByteArray) == ⟨⟨s⟩⟩) = true := by
  show ((⟨s⟩ : Array UInt8) == ⟨s⟩) = true
  exact beq_self_eq_true _

theorem eqv_same (k x : Int) (s : List UInt8) (o1 o2 : Operand) : binA Try.prog .eql 23 o1 o2 (.agg [.sc (.int .i64 k), .sc (.int .i64 x), .sc (.string ⟨⟨s⟩⟩)]) (.agg [.sc (.int .i64 k), .sc (.int .i64 x), .sc (.string ⟨⟨s⟩⟩)]) = some (.sc (.bool true)) := by
  have h := bin_equal k x k x ⟨⟨s⟩⟩ ⟨⟨s⟩⟩ o1 o2
  have e1 : (k == k) = true := by simp
  have e2 : (x == x) = true := by simp
  rw [byteArr_same, e1, e2] at h
  exact h

theorem ToEnd.of {S : Script} {n : Nat} {f : FuncId} {args : List AV} {r : CRes} {p : Prop} (h : callP CS S n f args [] (fun r' _ => r' = r) = p) (hp : p) : ToEnd n f args r := by
  rw [← h] at hp
  obtain ⟨⟨r', H1⟩, hr, hk⟩ := callP_sound hp
  simp only at hk
  subst hk
  exact ⟨H1, hr⟩

theorem ToEnd.ofC {D : Con CS} {S : Script} {n : Nat} {f : FuncId} {args : List AV} {r : CRes} {p : Prop} (h : callPC CS D S n f args [] (fun r' _ => r' = r) = p) (hp : p) : ToEnd n f args r := by
  rw [← h] at hp
  obtain ⟨⟨r', H1⟩, hr, hk⟩ := callPC_sound hp
  simp only at hk
  subst hk
  exact ⟨H1, hr⟩

theorem right_ends {v : Vl} (h : v.wf) : ToEnd 40 103 [v.av] (.ret (.sc (.bool true))) := by
  obtain ⟨k, x, s⟩ := v
  rcases h with ⟨rfl, rfl⟩ | ⟨rfl, rfl | rfl, rfl⟩ | ⟨rfl, rfl, hs⟩
  · exact ToEnd.of (tree103a x _) ⟨eqv_same _ _ _ _ _, rfl⟩
  · exact ToEnd.of (tree103b _) rfl
  · exact ToEnd.of (tree103c _) rfl
  · exact ToEnd.of (tree103d s _) ⟨eqv_same _ _ _ _ _, decide_eq_true (by have : (⟨⟨s⟩⟩ : ByteArray).size = s.length := rfl; simp only at hs; omega), rfl⟩

def T103 (n : Nat) (args : List AV) (H : List Blk) (K : ORes → Prop) : Prop := match args with
  | [.agg [.sc (.int .i64 k), .sc (.int .i64 x), .sc (.string ⟨⟨s⟩⟩)]] => match Nat.ble 40 n with
    | true => (⟨k, x, s⟩ : Vl).wf ∧ K (.val (.sc (.bool true)) H)
    | false => False
  | _ => False

theorem T103_ok (n : Nat) (args : List AV) (H : List Blk) (K : ORes → Prop) (h : T103 n args H K) : ∃ q, callA CS (callW CS (exec CS n)) none 103 args H = some q ∧ K q := by
  unfold T103 at h
  split at h
  · split at h
    · rename_i hn
      exact ⟨_, callA_ends plain103 rfl rfl ((right_ends h.1).mono (Nat.le_of_ble_eq_true hn)), h.2⟩
    · exact h.elim
  · exact h.elim

/-- A contract for one function. -/
def oneCon (f : FuncId) (T : Nat → List AV → List Blk → (ORes → Prop) → Prop) (h : ∀ n args H K, T n args H K → ∃ q, callA CS (callW CS (exec CS n)) none f args H = some q ∧ K q) : Con CS where
  T := fun n g => match Nat.beq g f with
    | true => some (T n)
    | false => none
  ok := fun n g T' h' args H K hk => by
    simp only at h'
    split at h'
    · rename_i e
      cases h'
      rw [Nat.eq_of_beq_eq_true e]
      exact h n args H K hk
    · cases h'

/-- One more. -/
def addCon (f : FuncId) (T : Nat → List AV → List Blk → (ORes → Prop) → Prop) (h : ∀ n args H K, T n args H K → ∃ q, callA CS (callW CS (exec CS n)) none f args H = some q ∧ K q) (D : Con CS) : Con CS where
  T := fun n g => match Nat.beq g f with
    | true => some (T n)
    | false => D.T n g
  ok := fun n g T' h' args H K hk => by
    simp only at h'
    split at h'
    · rename_i e
      cases h'
      rw [Nat.eq_of_beq_eq_true e]
      exact h n args H K hk
    · exact D.ok n g T' h' args H K hk

def con103 : Con CS := oneCon 103 T103 T103_ok

/-! ### the order of two -/

def orI (x y : Int) : Int := bif x != 0 then x else bif y != 0 then y else 0

theorem tree130 (k x k' x' : Int) (s s' : List UInt8) (K : CRes → Prop) :
    callPC CS con103 { inl := inlS } 100 130 [.agg [.sc (.int .i64 k), .sc (.int .i64 x), .sc (.string ⟨⟨s⟩⟩)], .agg [.sc (.int .i64 k'), .sc (.int .i64 x'), .sc (.string ⟨⟨s'⟩⟩)]] [] (fun r _ => K r) =
    ((⟨k, x, s⟩ : Vl).wf ∧ (⟨k', x', s'⟩ : Vl).wf ∧ bothP (k != k') (K (.ret (.tup [.sc (.int .i64 0), .sc (.bool false)])))
      (bothP (cmpI x x' != 0) (K (.ret (.tup [.sc (.int .i64 (cmpI x x')), .sc (.bool true)]))) (bothP (cmpS s s' != 0) (K (.ret (.tup [.sc (.int .i64 (cmpS s s')), .sc (.bool true)]))) (K (.ret (.tup [.sc (.int .i64 0), .sc (.bool true)])))))) := by kernel_rfl

def ordV (a b : Vl) : Int := bif a.k != b.k then 0 else orI (cmpI a.n b.n) (cmpS a.s b.s)

theorem order_ends {a b : Vl} (ha : a.wf) (hb : b.wf) : ToEnd 100 130 [a.av, b.av] (.ret (.tup [.sc (.int .i64 (ordV a b)), .sc (.bool (a.k == b.k))])) := by
  obtain ⟨k, x, s⟩ := a
  obtain ⟨k', x', s'⟩ := b
  refine ToEnd.ofC (tree130 k x k' x' s s' _) ⟨ha, hb, ?_⟩
  unfold ordV orI
  simp only
  cases h1 : (k != k')
  · have h2 : (k == k') = true := by simpa using h1
    rw [h2]
    cases (cmpI x x' != 0) <;> cases (cmpS s s' != 0) <;> simp [bothP]
  · have h2 : (k == k') = false := by simpa using h1
    rw [h2]
    simp [bothP]

def T130 (n : Nat) (args : List AV) (H : List Blk) (K : ORes → Prop) : Prop := match args with
  | [.agg [.sc (.int .i64 k), .sc (.int .i64 x), .sc (.string ⟨⟨s⟩⟩)], .agg [.sc (.int .i64 k'), .sc (.int .i64 x'), .sc (.string ⟨⟨s'⟩⟩)]] => match Nat.ble 100 n with
    | true => ((⟨k, x, s⟩ : Vl).wf ∧ (⟨k', x', s'⟩ : Vl).wf) ∧ K (.val (.tup [.sc (.int .i64 (ordV ⟨k, x, s⟩ ⟨k', x', s'⟩)), .sc (.bool (k == k'))]) H)
    | false => False
  | _ => False

theorem T130_ok (n : Nat) (args : List AV) (H : List Blk) (K : ORes → Prop) (h : T130 n args H K) : ∃ q, callA CS (callW CS (exec CS n)) none 130 args H = some q ∧ K q := by
  unfold T130 at h
  split at h
  · split at h
    · rename_i hn
      exact ⟨_, callA_ends plain130 rfl rfl ((order_ends h.1.1 h.1.2).mono (Nat.le_of_ble_eq_true hn)), h.2⟩
    · exact h.elim
  · exact h.elim

def con130 : Con CS := oneCon 130 T130 T130_ok

end Go.Ai
