/-
  EXPRESSIONS THAT ARE NOT KNOWN: what an operation of two values is.
-/
import Derived.Test.YtndloeajkfajnaaAiXp1
set_option linter.unusedVariables false
set_option linter.unusedSimpArgs false
namespace Go.Ai
open Go.Proofs Go.RowKit

def truthV (b : Bool) : Vl := ⟨2, bif b then 1 else 0, []⟩
def numV (v : Int) (ok : Bool) : Option Vl := bif ok then some ⟨1, v, []⟩ else none
def avV (k x : Int) (s : List UInt8) : AV := .agg [.sc (.int .i64 k), .sc (.int .i64 x), .sc (.string ⟨⟨s⟩⟩)]

def s85 (l : List UInt8) : Script := { inl := inlS, op := fun d => if d = 39 then some (.res fun _ H => .val (.sc (.string ⟨⟨l⟩⟩)) H) else none }

/-- Behind the test that both are of one kind. -/
def sameR (k x : Int) (s : List UInt8) (k' x' : Int) (s' : List UInt8) (p q : Prop) : Prop := ((⟨k, x, s⟩ : Vl).wf ∧ (⟨k', x', s'⟩ : Vl).wf) ∧ bothP (k == k') p q
def tstR (b : Bool) (K : CRes → Prop) : Prop := bothP b (K (.ret (avV 2 1 []))) (K (.ret (avV 2 0 [])))
def numR (k : Int) (v : Int) (ok : Bool) (K : CRes → Prop) : Prop := bothP (k == 3) (K (.pan giveUp)) (bothP (k == 1) (bothP ok (K (.ret (avV 1 v []))) (K (.pan giveUp))) (K (.pan giveUp)))
def heap85 (k x : Int) (s : List UInt8) (k' x' : Int) (s' : List UInt8) : List Blk := [.cells 3 0 [[.sc (.int .i64 k), .sc (.int .i64 x), .sc (.string ⟨⟨s⟩⟩)]] false, .cells 3 0 [[.sc (.int .i64 k'), .sc (.int .i64 x'), .sc (.string ⟨⟨s'⟩⟩)]] false, .cells 3 0 [[.sc (.int .i64 0), .sc (.int .i64 0), .sc (.string ⟨⟨[]⟩⟩)]] false]
def joinR (s s' : List UInt8) (H : List Blk) : Prop := (binA Try.prog .add 9 (.tmp 36) (.tmp 38) (.sc (.string ⟨⟨s⟩⟩)) (.sc (.string ⟨⟨s'⟩⟩))).map (fun v => ORes.val v H) = some (.val (.sc (.string ⟨⟨s ++ s'⟩⟩)) H)
def addR (k x : Int) (s : List UInt8) (k' x' : Int) (s' : List UInt8) (K : CRes → Prop) : Prop :=
  bothP (k == 3) (bothP (decide (IntKind.i64.wrap (((⟨⟨s⟩⟩ : ByteArray).size : Int) + ((⟨⟨s'⟩⟩ : ByteArray).size : Int)) ≤ 64)) (joinR s s' (heap85 k x s k' x' s') ∧ K (.ret (avV 3 0 (s ++ s')))) (K (.pan giveUp)))
    (bothP (k == 1) (bothP (addOk x x') (K (.ret (avV 1 (addV x x') []))) (K (.pan giveUp))) (K (.pan giveUp)))

section
variable (k x : Int) (s : List UInt8) (k' x' : Int) (s' : List UInt8) (K : CRes → Prop)

theorem tree85eq : callPC CS con130 (s85 []) 160 85 [.sc (.string ⟨⟨[61, 61]⟩⟩), avV k x s, avV k' x' s'] [] (fun r _ => K r) = sameR k x s k' x' s' (tstR (ordV ⟨k, x, s⟩ ⟨k', x', s'⟩ == 0) K) (K (.pan giveUp)) := by kernel_rfl
theorem tree85ne : callPC CS con130 (s85 []) 160 85 [.sc (.string ⟨⟨[33, 61]⟩⟩), avV k x s, avV k' x' s'] [] (fun r _ => K r) = sameR k x s k' x' s' (tstR (ordV ⟨k, x, s⟩ ⟨k', x', s'⟩ != 0) K) (K (.pan giveUp)) := by kernel_rfl
theorem tree85lt : callPC CS con130 (s85 []) 160 85 [.sc (.string ⟨⟨[60]⟩⟩), avV k x s, avV k' x' s'] [] (fun r _ => K r) = sameR k x s k' x' s' (tstR (decide (ordV ⟨k, x, s⟩ ⟨k', x', s'⟩ < 0)) K) (K (.pan giveUp)) := by kernel_rfl
theorem tree85le : callPC CS con130 (s85 []) 160 85 [.sc (.string ⟨⟨[60, 61]⟩⟩), avV k x s, avV k' x' s'] [] (fun r _ => K r) = sameR k x s k' x' s' (tstR (decide (ordV ⟨k, x, s⟩ ⟨k', x', s'⟩ ≤ 0)) K) (K (.pan giveUp)) := by kernel_rfl
theorem tree85gt : callPC CS con130 (s85 []) 160 85 [.sc (.string ⟨⟨[62]⟩⟩), avV k x s, avV k' x' s'] [] (fun r _ => K r) = sameR k x s k' x' s' (tstR (decide (ordV ⟨k, x, s⟩ ⟨k', x', s'⟩ > 0)) K) (K (.pan giveUp)) := by kernel_rfl
theorem tree85ge : callPC CS con130 (s85 []) 160 85 [.sc (.string ⟨⟨[62, 61]⟩⟩), avV k x s, avV k' x' s'] [] (fun r _ => K r) = sameR k x s k' x' s' (tstR (decide (ordV ⟨k, x, s⟩ ⟨k', x', s'⟩ ≥ 0)) K) (K (.pan giveUp)) := by kernel_rfl
theorem tree85add : callPC CS con130 (s85 (s ++ s')) 160 85 [.sc (.string ⟨⟨[43]⟩⟩), avV k x s, avV k' x' s'] [] (fun r _ => K r) = sameR k x s k' x' s' (addR k x s k' x' s' K) (K (.pan giveUp)) := by kernel_rfl
theorem tree85sub : callPC CS con130 (s85 []) 160 85 [.sc (.string ⟨⟨[45]⟩⟩), avV k x s, avV k' x' s'] [] (fun r _ => K r) = sameR k x s k' x' s' (numR k (subV x x') (subOk x x') K) (K (.pan giveUp)) := by kernel_rfl
theorem tree85mul : callPC CS con130 (s85 []) 160 85 [.sc (.string ⟨⟨[42]⟩⟩), avV k x s, avV k' x' s'] [] (fun r _ => K r) = sameR k x s k' x' s' (numR k (mulV x x') (mulOk x x') K) (K (.pan giveUp)) := by kernel_rfl
theorem tree85div : callPC CS con130 (s85 []) 160 85 [.sc (.string ⟨⟨[47]⟩⟩), avV k x s, avV k' x' s'] [] (fun r _ => K r) = sameR k x s k' x' s' (numR k (divV x x') (divOk x x') K) (K (.pan giveUp)) := by kernel_rfl
theorem tree85rem : callPC CS con130 (s85 []) 160 85 [.sc (.string ⟨⟨[37]⟩⟩), avV k x s, avV k' x' s'] [] (fun r _ => K r) = sameR k x s k' x' s' (numR k (remV x x') (remOk x x') K) (K (.pan giveUp)) := by kernel_rfl
end

inductive BOp where
  | eq | ne | lt | le | gt | ge | add | sub | mul | div | rem

def BOp.text : BOp → List UInt8
  | .eq => [61, 61] | .ne => [33, 61] | .lt => [60] | .le => [60, 61] | .gt => [62] | .ge => [62, 61]
  | .add => [43] | .sub => [45] | .mul => [42] | .div => [47] | .rem => [37]

def arithV (k v : Int) (ok : Bool) : Option Vl := bif k == 3 then none else bif k == 1 then numV v ok else none

/-- What an operation of two values is. -/
def sameV (o : BOp) (a b : Vl) : Option Vl := match o with
  | .eq => some (truthV (ordV a b == 0))
  | .ne => some (truthV (ordV a b != 0))
  | .lt => some (truthV (decide (ordV a b < 0)))
  | .le => some (truthV (decide (ordV a b ≤ 0)))
  | .gt => some (truthV (decide (ordV a b > 0)))
  | .ge => some (truthV (decide (ordV a b ≥ 0)))
  | .add => bif a.k == 3 then (bif decide (a.s.length + b.s.length ≤ 64) then some ⟨3, 0, a.s ++ b.s⟩ else none) else arithV a.k (addV a.n b.n) (addOk a.n b.n)
  | .sub => arithV a.k (subV a.n b.n) (subOk a.n b.n)
  | .mul => arithV a.k (mulV a.n b.n) (mulOk a.n b.n)
  | .div => arithV a.k (divV a.n b.n) (divOk a.n b.n)
  | .rem => arithV a.k (remV a.n b.n) (remOk a.n b.n)
def bothV (o : BOp) (a b : Vl) : Option Vl := bif a.k == b.k then sameV o a b else none

theorem join_run (x y : Operand) (lx ly : List UInt8) (H : List Blk) (hx : lx.length ≤ 64) (hy : ly.length ≤ 64) : (binA Try.prog .add 9 x y (.sc (.string ⟨⟨lx⟩⟩)) (.sc (.string ⟨⟨ly⟩⟩))).map (fun v => ORes.val v H) = some (.val (.sc (.string ⟨⟨lx ++ ly⟩⟩)) H) := by
  have e : binA Try.prog .add 9 x y (.sc (.string ⟨⟨lx⟩⟩)) (.sc (.string ⟨⟨ly⟩⟩)) = (pureRun Try.prog (do eqGuard .add 9 x y (.string ⟨⟨lx⟩⟩) (.string ⟨⟨ly⟩⟩); binOp .add 9 (.string ⟨⟨lx⟩⟩) (.string ⟨⟨ly⟩⟩))).map absV := by kernel_rfl
  have e3 : (⟨⟨lx⟩⟩ : ByteArray) ++ (⟨⟨ly⟩⟩ : ByteArray) = ⟨⟨lx ++ ly⟩⟩ := by
    apply ByteArray.ext
    rw [ByteArray.data_append]
    simp
  have e1 : (⟨⟨lx⟩⟩ : ByteArray).size = lx.length := rfl
  have e2 : (⟨⟨ly⟩⟩ : ByteArray).size = ly.length := rfl
  have hm : IntKind.i64.max = 9223372036854775807 := rfl
  have e4 : binOp .add 9 (.string ⟨⟨lx⟩⟩) (.string ⟨⟨ly⟩⟩) = Op.stringOp .add ⟨⟨lx⟩⟩ ⟨⟨ly⟩⟩ := by kernel_rfl
  rw [e, pureRun_bind', show pureRun Try.prog (eqGuard .add 9 x y (.string ⟨⟨lx⟩⟩) (.string ⟨⟨ly⟩⟩)) = some () by kernel_rfl]
  simp only [Option.bind_some]
  rw [e4]
  unfold Op.stringOp
  simp only
  rw [if_neg (by rw [e1, e2, hm]; omega), e3]
  rfl

theorem Vl.wf.len {v : Vl} (h : v.wf) : v.s.length ≤ 64 := by
  rcases h with ⟨_, h⟩ | ⟨_, _, h⟩ | ⟨_, _, h⟩
  · rw [h]; simp
  · rw [h]; simp
  · exact h

theorem tst_of {b : Bool} {K : CRes → Prop} (h : K (.ret (truthV b).av)) : tstR b K := by
  cases b <;> exact h

theorem num_of {k v : Int} {ok : Bool} {K : CRes → Prop} (h : K (outX2 (arithV k v ok))) : numR k v ok K := by
  unfold numR
  unfold arithV numV at h
  cases h1 : (k == 3)
  · rw [h1] at h
    cases h2 : (k == 1)
    · rw [h2] at h; exact h
    · rw [h2] at h
      cases ok <;> exact h
  · rw [h1] at h; exact h

theorem same_of {a b : Vl} (ha : a.wf) (hb : b.wf) {o : BOp} {p q : Prop} {K : CRes → Prop} (hp : K (outX2 (sameV o a b)) → p) (hq : K (.pan giveUp) → q) (h : K (outX2 (bothV o a b))) : sameR a.k a.n a.s b.k b.n b.s p q := by
  refine ⟨⟨ha, hb⟩, ?_⟩
  unfold bothV at h
  cases hk : (a.k == b.k)
  · rw [hk] at h; exact hq h
  · rw [hk] at h; exact hp h

theorem both_ends (o : BOp) {a b : Vl} (ha : a.wf) (hb : b.wf) : ToEnd 160 85 [.sc (.string ⟨⟨o.text⟩⟩), a.av, b.av] (outX2 (bothV o a b)) := by
  have key : ∀ {p q : Prop}, (outX2 (sameV o a b) = outX2 (bothV o a b) → p) → (CRes.pan giveUp = outX2 (bothV o a b) → q) → sameR a.k a.n a.s b.k b.n b.s p q := fun hp hq =>
    same_of (K := fun r => r = outX2 (bothV o a b)) ha hb hp hq rfl
  cases o with
  | eq => exact ToEnd.ofC (tree85eq a.k a.n a.s b.k b.n b.s _) (key (fun h => tst_of h) fun h => h)
  | ne => exact ToEnd.ofC (tree85ne a.k a.n a.s b.k b.n b.s _) (key (fun h => tst_of h) fun h => h)
  | lt => exact ToEnd.ofC (tree85lt a.k a.n a.s b.k b.n b.s _) (key (fun h => tst_of h) fun h => h)
  | le => exact ToEnd.ofC (tree85le a.k a.n a.s b.k b.n b.s _) (key (fun h => tst_of h) fun h => h)
  | gt => exact ToEnd.ofC (tree85gt a.k a.n a.s b.k b.n b.s _) (key (fun h => tst_of h) fun h => h)
  | ge => exact ToEnd.ofC (tree85ge a.k a.n a.s b.k b.n b.s _) (key (fun h => tst_of h) fun h => h)
  | sub => exact ToEnd.ofC (tree85sub a.k a.n a.s b.k b.n b.s _) (key (fun h => num_of h) fun h => h)
  | mul => exact ToEnd.ofC (tree85mul a.k a.n a.s b.k b.n b.s _) (key (fun h => num_of h) fun h => h)
  | div => exact ToEnd.ofC (tree85div a.k a.n a.s b.k b.n b.s _) (key (fun h => num_of h) fun h => h)
  | rem => exact ToEnd.ofC (tree85rem a.k a.n a.s b.k b.n b.s _) (key (fun h => num_of h) fun h => h)
  | add =>
    refine ToEnd.ofC (tree85add a.k a.n a.s b.k b.n b.s _) (key (fun h => ?_) fun h => h)
    unfold addR
    simp only [sameV] at h
    cases h1 : (a.k == 3)
    · rw [h1] at h
      have := num_of (K := fun r => r = outX2 (bothV .add a b)) h
      unfold numR at this
      rw [h1] at this
      exact this
    · rw [h1] at h
      have l1 := ha.len
      have l2 := hb.len
      have e1 : (⟨⟨a.s⟩⟩ : ByteArray).size = a.s.length := rfl
      have e2 : (⟨⟨b.s⟩⟩ : ByteArray).size = b.s.length := rfl
      have hd : decide (IntKind.i64.wrap (((⟨⟨a.s⟩⟩ : ByteArray).size : Int) + ((⟨⟨b.s⟩⟩ : ByteArray).size : Int)) ≤ 64) = decide (a.s.length + b.s.length ≤ 64) := by
        rw [e1, e2, wrap_i64]
        apply decide_eq_decide.2
        omega
      rw [hd]
      cases h2 : decide (a.s.length + b.s.length ≤ 64)
      · rw [h2] at h; exact h
      · rw [h2] at h
        exact ⟨join_run _ _ _ _ _ l1 l2, h⟩

theorem truthV_wf (b : Bool) : (truthV b).wf := by
  refine .inr (.inl ⟨rfl, ?_, rfl⟩)
  cases b
  · exact .inl rfl
  · exact .inr rfl

theorem arithV_wf {k v : Int} {ok : Bool} {r : Vl} (h : arithV k v ok = some r) : r.wf ∧ r.k = 1 ∧ k = 1 := by
  unfold arithV numV at h
  cases h1 : (k == 3)
  · rw [h1] at h
    cases h2 : (k == 1)
    · rw [h2] at h; cases h
    · rw [h2] at h
      cases ok
      · cases h
      · cases h; exact ⟨.inl ⟨rfl, rfl⟩, rfl, by simpa using h2⟩
  · rw [h1] at h; cases h

theorem bothV_wf {o : BOp} {a b r : Vl} (h : bothV o a b = some r) : r.wf := by
  unfold bothV at h
  cases hk : (a.k == b.k)
  · rw [hk] at h; cases h
  · rw [hk] at h
    simp only [cond_true] at h
    cases o with
    | eq => cases h; exact truthV_wf _
    | ne => cases h; exact truthV_wf _
    | lt => cases h; exact truthV_wf _
    | le => cases h; exact truthV_wf _
    | gt => cases h; exact truthV_wf _
    | ge => cases h; exact truthV_wf _
    | sub => exact (arithV_wf h).1
    | mul => exact (arithV_wf h).1
    | div => exact (arithV_wf h).1
    | rem => exact (arithV_wf h).1
    | add =>
      simp only [sameV] at h
      cases h1 : (a.k == 3)
      · rw [h1] at h; exact (arithV_wf h).1
      · rw [h1] at h
        cases h2 : decide (a.s.length + b.s.length ≤ 64)
        · rw [h2] at h; cases h
        · rw [h2] at h
          cases h
          exact .inr (.inr ⟨rfl, rfl, by simpa using of_decide_eq_true h2⟩)

end Go.Ai
