/-
  THE EXAMPLES OF CHAPTER 11: a closed run; the names that stand in it are looked at once.
-/
import Derived.Test.YtndloeajkfajnaaAiReck2
set_option linter.unusedVariables false
set_option linter.unusedSimpArgs false
namespace Go.Ai
open Go.Proofs

def oneByte : AV → Option Nat
  | .sc (.string ⟨⟨[c]⟩⟩) => some c.toNat
  | _ => none

def byteText (c : Nat) : AV := .sc (.string ⟨⟨[UInt8.ofNat c]⟩⟩)

/-- Letters that stand as names in the laws. -/
def someLetters : List Nat := [65, 66, 67, 97, 98, 99, 100, 101, 102, 103, 104, 107, 113, 115, 116, 120, 121, 122]

def hasN (c : Nat) : List Nat → Bool
  | [] => false
  | d :: l => match Nat.beq c d with
    | true => true
    | false => hasN c l

def nameOne : List AV → Option AV
  | [.sc (.string ⟨⟨[c]⟩⟩)] => match hasN c.toNat someLetters with
    | true => some (.sc (.bool true))
    | false => none
  | [.sc (.string ⟨⟨[]⟩⟩)] => some (.sc (.bool false))
  | _ => none

theorem hasN_mem {c : Nat} : ∀ {l : List Nat}, hasN c l = true → c ∈ l
  | [], h => by cases h
  | d :: l, h => by
    unfold hasN at h
    split at h
    · rename_i e
      rw [Nat.eq_of_beq_eq_true e]
      exact List.mem_cons_self
    · exact List.mem_cons_of_mem _ (hasN_mem h)

def allHold (p : Nat → Bool) : List Nat → Bool
  | [] => true
  | c :: l => match p c with
    | true => allHold p l
    | false => false

theorem allHold_mem {p : Nat → Bool} {c : Nat} : ∀ {l : List Nat}, allHold p l = true → c ∈ l → p c = true
  | [], _, h => by cases h
  | d :: l, h, hm => by
    unfold allHold at h
    split at h
    · rename_i e
      rcases List.mem_cons.1 hm with rfl | hm
      · exact e
      · exact allHold_mem h hm
    · cases h

theorem allNames_ok : allHold (fun c => isTrue (call C2 1000 105 [byteText c] [])) someLetters = true := by kernel_rfl

def isFalse : Option (CRes × List Blk) → Bool
  | some (.ret (.sc (.bool false)), _) => true
  | _ => false

theorem isFalse_spec {r : Option (CRes × List Blk)} (h : isFalse r = true) : ∃ H, r = some (.ret (.sc (.bool false)), H) := by
  unfold isFalse at h
  split at h
  · exact ⟨_, rfl⟩
  · cases h

theorem noName : isFalse (call C2 1000 105 [.sc (.string ⟨⟨[]⟩⟩)] []) = true := by kernel_rfl

theorem prim105 : PrimOK Try.prog 105 nameOne := prim_scalar told2 rfl rfl fun args v h => by
  unfold nameOne at h
  split at h
  · rename_i c
    split at h
    · rename_i hc
      cases h
      have h1 := allHold_mem allNames_ok (hasN_mem hc)
      have e : byteText c.toNat = .sc (.string ⟨⟨[c]⟩⟩) := by
        unfold byteText
        rw [UInt8.ofNat_toNat]
      rw [e] at h1
      obtain ⟨H, h1⟩ := isTrue_spec h1
      exact ⟨rfl, rfl, 1000, H, h1⟩
    · cases h
  · cases h
    obtain ⟨H, h1⟩ := isFalse_spec noName
    exact ⟨rfl, rfl, 1000, H, h1⟩
  · cases h

/-- An empty text bears nothing. -/
def noneIn : List AV → Option AV
  | [.sc (.string ⟨⟨[]⟩⟩), .sc (.string ⟨⟨[c]⟩⟩)] => match Nat.beq c.toNat 39 with
    | true => some (.sc (.bool false))
    | false => none
  | _ => none

theorem none104 : isFalse (call C2 1000 104 [.sc (.string ⟨⟨[]⟩⟩), byteText 39] []) = true := by kernel_rfl

theorem prim104 : PrimOK Try.prog 104 noneIn := prim_scalar told2 rfl rfl fun args v h => by
  unfold noneIn at h
  split at h
  · rename_i c
    split at h
    · rename_i hc
      cases h
      have h1 := none104
      have e : byteText 39 = .sc (.string ⟨⟨[c]⟩⟩) := by
        unfold byteText
        rw [← Nat.eq_of_beq_eq_true hc, UInt8.ofNat_toNat]
      rw [e] at h1
      obtain ⟨H, h1⟩ := isFalse_spec h1
      exact ⟨rfl, rfl, 1000, H, h1⟩
    · cases h
  · cases h

def told11 : FuncId → Option (List AV → Option AV) := fun f => if f = 105 then some nameOne else if f = 104 then some noneIn else none

theorem told11_ok (f : FuncId) (F : List AV → Option AV) (h : told11 f = some F) : PrimOK Try.prog f F := by
  unfold told11 at h
  split at h
  · rename_i e; cases h; rw [e]; exact prim105
  split at h
  · rename_i e; cases h; rw [e]; exact prim104
  cases h

noncomputable def C11 : Ctx := { C2 with prims := told11 }

theorem toldC11 : Told C11 := ⟨try_mix, try_name, told11_ok, told2.recs⟩

end Go.Ai
