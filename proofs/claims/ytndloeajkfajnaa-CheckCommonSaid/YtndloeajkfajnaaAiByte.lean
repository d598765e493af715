/-
  A BYTE IN A TEXT that may not be known: what strings.Contains tells of one byte.
-/
import Derived.Test.YtndloeajkfajnaaAiEq
set_option linter.unusedVariables false
set_option linter.unusedSimpArgs false
namespace Go.Ai
open Go.Proofs

/-- Where a byte stands first. -/
def idxOf (l : List UInt8) (c : UInt8) : Int := match (List.range l.length).find? fun i => (⟨⟨l⟩⟩ : ByteArray)[i]! == c with
  | some i => i
  | none => -1

theorem ext145 (l : List UInt8) (c : UInt8) : pureRun Try.prog (callFunc 145 #[.string ⟨⟨l⟩⟩, .int .u8 c.toNat]) = some (.value (.int .i64 (idxOf l c))) := by
  have e : pureRun Try.prog (callFunc 145 #[.string ⟨⟨l⟩⟩, .int .u8 c.toNat]) = pureRun Try.prog (Sem.bind (Extern.BytealgIndexByte.indexByte #[.string ⟨⟨l⟩⟩, .int .u8 c.toNat]) fun r => Sem.pure (Next.value r)) := by kernel_rfl
  rw [e, pureRun_bind]
  have h : pureRun Try.prog (Extern.BytealgIndexByte.indexByte #[.string ⟨⟨l⟩⟩, .int .u8 c.toNat]) = some (.int .i64 (idxOf l c)) := by
    have e2 : Extern.BytealgIndexByte.indexByte #[.string ⟨⟨l⟩⟩, .int .u8 c.toNat] = (match (List.range l.length).find? fun i => (⟨⟨l⟩⟩ : ByteArray)[i]! == (((c.toNat : Nat) : Int)).toNat.toUInt8 with | some i => Sem.pure (goInt i) | none => Sem.pure (goInt (-1))) := by kernel_rfl
    have hc : (((c.toNat : Nat) : Int)).toNat.toUInt8 = c := by simp
    rw [e2, hc]
    unfold idxOf
    split <;> rfl
  rw [h]
  rfl

def T145 (c : UInt8) (args : List AV) (H : List Blk) (K : ORes → Prop) : Prop := match args with
  | [.sc (.string ⟨⟨l⟩⟩), .sc (.int .u8 x)] => x = (c.toNat : Int) ∧ K (.val (.sc (.int .i64 (idxOf l c))) H)
  | _ => False

theorem T145_ok (c : UInt8) (call : CallT) (args : List AV) (H : List Blk) (K : ORes → Prop) (h : T145 c args H K) : ∃ q, callA C2 call none 145 args H = some q ∧ K q := by
  unfold T145 at h
  split at h
  · rename_i l x
    obtain ⟨rfl, hk⟩ := h
    refine ⟨_, ?_, hk⟩
    unfold callA
    rw [if_pos (show C2.ext 145 = true from rfl)]
    have e : externA C2 145 [.sc (.string ⟨⟨l⟩⟩), .sc (.int .u8 (c.toNat : Int))] = (match pureRun Try.prog (callFunc 145 #[.string ⟨⟨l⟩⟩, .int .u8 c.toNat]) with | some (.value r) => some (absV r) | _ => none) := by kernel_rfl
    rw [e, ext145]
    rfl
  · exact h.elim

def conB (c : UInt8) : Con C2 where
  T := fun _ f => match Nat.beq f 145 with
    | true => some (T145 c)
    | false => none
  ok := fun n f T h args H K hk => by
    simp only at h
    split at h
    · rename_i e
      cases h
      rw [Nat.eq_of_beq_eq_true e]
      exact T145_ok c _ args H K hk
    · cases h

theorem tree104 (l : List UInt8) (c : UInt8) (K : CRes → List Blk → Prop) : callPC C2 (conB c) { inl := fun f => !(f == 140 || f == 145) } 100 104 [.sc (.string ⟨⟨l⟩⟩), .sc (.string ⟨⟨[c]⟩⟩)] [] K =
    bothP (eqBytes [c] l) (K (.ret (.sc (.bool true))) []) ((c.toNat : Int) = (c.toNat : Int) ∧ bothP (decide (idxOf l c ≥ 0)) (K (.ret (.sc (.bool true))) []) (K (.ret (.sc (.bool false))) [])) := by kernel_rfl

theorem byTree {C : Ctx} {D : Con C} {S : Script} {n : Nat} {f : FuncId} {args : List AV} {H : List Blk} {K : CRes → List Blk → Prop} {p : Prop} (h : callPC C D S n f args H K = p) (hp : p) : ∃ r, call C n f args H = some r ∧ K r.1 r.2 := by
  rw [← h] at hp
  exact callPC_sound hp

/-- Is a byte in a text? -/
def hasByte (l : List UInt8) (c : UInt8) : Bool := eqBytes [c] l || decide (idxOf l c ≥ 0)

def contains1 : List AV → Option AV
  | [.sc (.string ⟨⟨l⟩⟩), .sc (.string ⟨⟨[c]⟩⟩)] => some (.sc (.bool (hasByte l c)))
  | _ => none

theorem prim104b : PrimOK Try.prog 104 contains1 := prim_scalar told2 rfl rfl fun args v h => by
  unfold contains1 at h
  split at h
  · rename_i l c
    cases h
    refine ⟨rfl, rfl, ?_⟩
    have t := tree104 l c fun r _ => r = .ret (.sc (.bool (hasByte l c)))
    have hp : bothP (eqBytes [c] l) ((CRes.ret (.sc (.bool true))) = .ret (.sc (.bool (hasByte l c)))) ((c.toNat : Int) = (c.toNat : Int) ∧ bothP (decide (idxOf l c ≥ 0)) ((CRes.ret (.sc (.bool true))) = .ret (.sc (.bool (hasByte l c)))) ((CRes.ret (.sc (.bool false))) = .ret (.sc (.bool (hasByte l c))))) := by
      unfold hasByte
      cases eqBytes [c] l <;> cases decide (idxOf l c ≥ 0) <;> simp [bothP]
    obtain ⟨⟨r, H1⟩, hr, hk⟩ := byTree t hp
    simp only at hk
    subst hk
    exact ⟨100, H1, hr⟩
  · cases h

end Go.Ai
