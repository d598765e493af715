/-
  WHAT WAS RUN ONCE IS TOLD: tables of closed calls.
-/
import Derived.Test.YtndloeajkfajnaaAiPrim
set_option linter.unusedVariables false
set_option linter.unusedSimpArgs false
namespace Go.Ai

def eqInt : Int → Int → Bool
  | .ofNat a, .ofNat b => Nat.beq a b
  | .negSucc a, .negSucc b => Nat.beq a b
  | _, _ => false

theorem eqInt_spec {a b : Int} (h : eqInt a b = true) : a = b := by
  unfold eqInt at h
  split at h
  · rw [Nat.eq_of_beq_eq_true h]
  · rw [Nat.eq_of_beq_eq_true h]
  · cases h

def eqB : List UInt8 → List UInt8 → Bool
  | [], [] => true
  | a :: x, b :: y => match Nat.beq a.toNat b.toNat with
    | true => eqB x y
    | false => false
  | _, _ => false

theorem eqB_spec : ∀ {a b : List UInt8}, eqB a b = true → a = b
  | [], [], _ => rfl
  | a :: x, b :: y, h => by
    unfold eqB at h
    split at h
    · rename_i e
      have h1 := Nat.eq_of_beq_eq_true e
      rw [UInt8.toNat_inj.1 h1, eqB_spec h]
    · cases h
  | [], _ :: _, h => by cases h
  | _ :: _, [], h => by cases h

def eqIK : IntKind → IntKind → Bool
  | .i64, .i64 | .u8, .u8 | .u64, .u64 | .i32, .i32 => true
  | _, _ => false

theorem eqIK_spec {a b : IntKind} (h : eqIK a b = true) : a = b := by
  unfold eqIK at h
  split at h <;> first | rfl | cases h

def eqVal : Value → Value → Bool
  | .int k a, .int l b => eqIK k l && eqInt a b
  | .bool a, .bool b => a == b
  | .string ⟨⟨a⟩⟩, .string ⟨⟨b⟩⟩ => eqB a b
  | .slice none 0 0, .slice none 0 0 => true
  | _, _ => false

theorem eqVal_spec {a b : Value} (h : eqVal a b = true) : a = b := by
  unfold eqVal at h
  split at h
  · simp only [Bool.and_eq_true] at h
    rw [eqIK_spec h.1, eqInt_spec h.2]
  · rw [eq_of_beq h]
  · rw [eqB_spec h]
  · rfl
  · cases h

def eqNat? : Option Nat → Option Nat → Bool
  | none, none => true
  | some a, some b => Nat.beq a b
  | _, _ => false

theorem eqNat?_spec {a b : Option Nat} (h : eqNat? a b = true) : a = b := by
  unfold eqNat? at h
  split at h
  · rfl
  · rw [Nat.eq_of_beq_eq_true h]
  · cases h

mutual
def eqA : AV → AV → Bool
  | .sc a, .sc b => eqVal a b
  | .agg a, .agg b => eqAL a b
  | .tup a, .tup b => eqAL a b
  | .ro s a c, .ro t b d => Nat.beq s t && eqNat? c d && eqALL a b
  | _, _ => false
def eqAL : List AV → List AV → Bool
  | [], [] => true
  | a :: x, b :: y => match eqA a b with
    | true => eqAL x y
    | false => false
  | _, _ => false
def eqALL : List (List AV) → List (List AV) → Bool
  | [], [] => true
  | a :: x, b :: y => match eqAL a b with
    | true => eqALL x y
    | false => false
  | _, _ => false
end

mutual
theorem eqA_spec : ∀ {a b : AV}, eqA a b = true → a = b
  | .sc a, b, h => by
    cases b <;> simp only [eqA, Bool.false_eq_true] at h
    rw [eqVal_spec h]
  | .agg a, b, h => by
    cases b <;> simp only [eqA, Bool.false_eq_true] at h
    rw [eqAL_spec h]
  | .tup a, b, h => by
    cases b <;> simp only [eqA, Bool.false_eq_true] at h
    rw [eqAL_spec h]
  | .ro s a c, b, h => by
    cases b <;> simp only [eqA, Bool.false_eq_true, Bool.and_eq_true] at h
    rw [Nat.eq_of_beq_eq_true h.1.1, eqNat?_spec h.1.2, eqALL_spec h.2]
  | .undef, b, h => by simp [eqA] at h
  | .ptr .., b, h => by simp [eqA] at h
  | .rp .., b, h => by simp [eqA] at h
  | .sl .., b, h => by simp [eqA] at h
  | .mp _, b, h => by simp [eqA] at h
  | .fn .., b, h => by simp [eqA] at h
  | .ifc .., b, h => by simp [eqA] at h
theorem eqAL_spec : ∀ {a b : List AV}, eqAL a b = true → a = b
  | [], [], _ => rfl
  | a :: x, b :: y, h => by
    simp only [eqAL] at h
    split at h
    · rename_i e
      rw [eqA_spec e, eqAL_spec h]
    · cases h
  | [], _ :: _, h => by simp [eqAL] at h
  | _ :: _, [], h => by simp [eqAL] at h
theorem eqALL_spec : ∀ {a b : List (List AV)}, eqALL a b = true → a = b
  | [], [], _ => rfl
  | a :: x, b :: y, h => by
    simp only [eqALL] at h
    split at h
    · rename_i e
      rw [eqAL_spec e, eqALL_spec h]
    · cases h
  | [], _ :: _, h => by simp [eqALL] at h
  | _ :: _, [], h => by simp [eqALL] at h
end

abbrev Tab := List (List AV × AV)

def look : Tab → List AV → Option AV
  | [], _ => none
  | (k, v) :: t, a => match eqAL k a with
    | true => some v
    | false => look t a

/-- Does a call tell what stands in a row? -/
def rowOK (r : Option (CRes × List Blk)) (k : List AV) (v : AV) : Bool :=
  match r, frzL [] k with
  | some (.ret u, _), some k' => match eqA u v, eqAL k k' with
    | true, true => isScalar v
    | _, _ => false
  | _, _ => false

def tabOK (call : List AV → Option (CRes × List Blk)) : Tab → Bool
  | [] => true
  | (k, v) :: t => match rowOK (call k) k v with
    | true => tabOK call t
    | false => false

theorem look_ok {call : List AV → Option (CRes × List Blk)} : ∀ {t : Tab} {a : List AV} {v : AV}, tabOK call t = true → look t a = some v → rowOK (call a) a v = true
  | [], _, _, _, h => by cases h
  | (k, u) :: t, a, v, ht, h => by
    unfold tabOK at ht
    unfold look at h
    split at ht
    · rename_i e
      split at h
      · rename_i e2
        cases h
        rw [← eqAL_spec e2]
        exact e
      · exact look_ok ht h
    · cases ht

theorem prim_tab {C : Ctx} (T : Told C) {f : FuncId} {n : Nat} {t : Tab} (hp : C.prims f = none) (hb : C.byRef f = false) (h : tabOK (fun k => call C n f k []) t = true) : PrimOK C.P f (look t) :=
  prim_scalar T hp hb fun args v hv => by
    have h1 := look_ok h hv
    unfold rowOK at h1
    split at h1
    · rename_i u H1 k' hr hk
      split at h1
      · rename_i e1 e2
        refine ⟨by rw [hk, ← eqAL_spec e2], h1, n, H1, ?_⟩
        rw [hr, eqA_spec e1]
      · cases h1
    · cases h1

end Go.Ai
