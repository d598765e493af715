/-
  CheckCommon: what the law is told of its first loop and of check.Common (under way).
-/
import Derived.Test.YtndloeajkfajnaaAiCm5
set_option linter.unusedVariables false
set_option linter.unusedSimpArgs false
namespace Go.Ai.Cm
open Go.Proofs Go.RowKit

/-! ### values that lead to no block from L on -/

mutual
def stayV (L : Nat) : AV → Bool
  | .ptr b _ _ _ | .sl b _ _ _ _ | .mp b => Nat.blt b L
  | .agg cs | .tup cs | .fn _ cs => stayL L cs
  | .ifc _ v => stayV L v
  | _ => true
def stayL (L : Nat) : List AV → Bool
  | [] => true
  | c :: cs => match stayV L c with
    | true => stayL L cs
    | false => false
end
def stayT (L : Nat) : Tm → Bool
  | [] => true
  | (_, v) :: r => match stayV L v with
    | true => stayT L r
    | false => false
def stayR (L : Nat) : List (List AV) → Bool
  | [] => true
  | r :: rs => match stayL L r with
    | true => stayR L rs
    | false => false
def stayB (L : Nat) : Blk → Bool
  | .cells _ _ es _ => stayR L es
  | _ => false

theorem blt_lt {a b : Nat} (h : Nat.blt a b = true) : a < b := by rw [Nat.blt_eq] at h; exact h

theorem renB_stay {L b g : Nat} {ids : List (Nat × Nat)} (h : Nat.blt b L = true) : renB L L ids b g = some (b, g) := by
  unfold renB
  rw [if_pos (blt_lt h)]

mutual
theorem stayV_ok {L : Nat} : ∀ {v : AV}, stayV L v = true → refs L v = [] ∧ ∀ ids, ren L L ids v = v
  | .ptr b g i o, h => by
    simp only [stayV] at h
    exact ⟨by simp only [refs]; rw [if_pos (blt_lt h)], fun ids => by simp only [ren]; rw [renB_stay h]⟩
  | .sl b g s l c, h => by
    simp only [stayV] at h
    exact ⟨by simp only [refs]; rw [if_pos (blt_lt h)], fun ids => by simp only [ren]; rw [renB_stay h]⟩
  | .mp b, h => by
    simp only [stayV] at h
    exact ⟨by simp only [refs]; rw [if_pos (blt_lt h)], fun ids => by simp only [ren]; rw [renB_stay h]⟩
  | .agg cs, h => by
    simp only [stayV] at h
    have := stayL_ok h
    exact ⟨by simp only [refs]; exact this.1, fun ids => by simp only [ren]; rw [this.2]⟩
  | .tup cs, h => by
    simp only [stayV] at h
    have := stayL_ok h
    exact ⟨by simp only [refs]; exact this.1, fun ids => by simp only [ren]; rw [this.2]⟩
  | .fn f cs, h => by
    simp only [stayV] at h
    have := stayL_ok h
    exact ⟨by simp only [refs]; exact this.1, fun ids => by simp only [ren]; rw [this.2]⟩
  | .ifc t v, h => by
    simp only [stayV] at h
    have := stayV_ok h
    exact ⟨by simp only [refs]; exact this.1, fun ids => by simp only [ren]; rw [this.2]⟩
  | .undef, _ => ⟨rfl, fun _ => rfl⟩
  | .sc _, _ => ⟨rfl, fun _ => rfl⟩
  | .rp .., _ => ⟨rfl, fun _ => rfl⟩
  | .ro .., _ => ⟨rfl, fun _ => rfl⟩
theorem stayL_ok {L : Nat} : ∀ {cs : List AV}, stayL L cs = true → refsL L cs = [] ∧ ∀ ids, renL L L ids cs = cs
  | [], _ => ⟨rfl, fun _ => rfl⟩
  | c :: cs, h => by
    unfold stayL at h
    split at h
    · rename_i hc
      have h1 := stayV_ok hc
      have h2 := stayL_ok h
      exact ⟨by simp only [refsL, h1.1, h2.1, List.append_nil], fun ids => by simp only [renL]; rw [h1.2, h2.2]⟩
    · cases h
end

theorem stayT_ok {L : Nat} : ∀ {R : Tm}, stayT L R = true → refsT L R = [] ∧ ∀ ids, renT L L ids R = R
  | [], _ => ⟨rfl, fun _ => rfl⟩
  | (k, v) :: R, h => by
    unfold stayT at h
    split at h
    · rename_i hc
      have h1 := stayV_ok hc
      have h2 := stayT_ok h
      exact ⟨by simp only [refsT, h1.1, h2.1, List.append_nil], fun ids => by simp only [renT]; rw [h1.2, h2.2]⟩
    · cases h

theorem stayR_ok {L : Nat} : ∀ {es : List (List AV)}, stayR L es = true → es.flatMap (refsL L) = [] ∧ ∀ ids, es.map (renL L L ids) = es
  | [], _ => ⟨rfl, fun _ => rfl⟩
  | r :: es, h => by
    unfold stayR at h
    split at h
    · rename_i hc
      have h1 := stayL_ok hc
      have h2 := stayR_ok h
      exact ⟨by simp only [List.flatMap_cons, h1.1, h2.1, List.append_nil], fun ids => by simp only [List.map_cons]; rw [h1.2, h2.2]⟩
    · cases h

theorem stayB_ok {L : Nat} {B : Blk} (h : stayB L B = true) : refsBlk L B = [] ∧ ∀ ids, renBlk L L ids B = B := by
  unfold stayB at h
  split at h
  · have h1 := stayR_ok h
    exact ⟨by simp only [refsBlk]; exact h1.1, fun ids => by simp only [renBlk]; rw [h1.2]⟩
  · cases h

/-! ### the first loop -/

def rowsLen : Blk → Nat
  | .cells _ _ es _ => es.length
  | _ => 0

/-- Fields of the streams, as they are told: of each one whether it has some. -/
def fsv (sh : List Bool) (hd : Nat → Fld) (tl : Nat → List Fld) (r : Nat) : List Fld := match sh.getD r false with
  | true => hd r :: tl r
  | false => []

def isSeven : List Nat → Bool
  | [7] => true
  | _ => false

/-- What is asked of what stands behind, and how it goes on. -/
def TLk (es : List (List AV)) (cap : Option Nat) (mb : Nat → Int) (sh : List Bool) (hd : Nat → Fld) (tl : Nat → List Fld) (p : Bool) (B : Blk) (nm : List UInt8) (R : Tm) (r : Nat) (K : Ex → St → Prop) : Prop :=
  (getT R 0 = .ro 1 es cap ∧ getT R 5 = .sc (.int .i64 ((2 * r : Nat) : Int))) ∧ (isSeven (carried (tmpA p 0 R) (writes bA) []) = true ∧ stayT (placeP p + 1) R = true) ∧
    (idxE es ((2 * r : Nat) : Int) [.sc (.int .u8 (mb (2 * r)))] ∧ idxE es ((2 * r + 1 : Nat) : Int) [.sc (.int .u8 (mb (2 * r + 1)))] ∧ fsv sh hd tl r = fieldsM (mb (2 * r)) (mb (2 * r + 1))) ∧
    K (.exit 2) ⟨148, (31, .sc (.bool false)) :: (30, intN 6) :: tmpA p 6 R, heapA p B nm 0 (fsv sh hd tl r), []⟩

def TL (es : List (List AV)) (cap : Option Nat) (mb : Nat → Int) (sh : List Bool) (hd : Nat → Fld) (tl : Nat → List Fld) (st : St) (K : Ex → St → Prop) : Prop := match st with
  | ⟨n, (a, .sc (.int .i64 z)) :: (b, .ptr q g i o) :: R, heap, []⟩ => match heap with
    | [.cells sz gg [[.sc (.string ⟨⟨nm⟩⟩), .sc (.slice none 0 0)]] false] => (n = 148 ∧ a = 7 ∧ z = 0 ∧ b = 6 ∧ q = 0 ∧ g = 0 ∧ i = 0 ∧ o = 0 ∧ sz = 2 ∧ gg = 0) ∧ TLk es cap mb sh hd tl false .dead nm R 0 K
    | [B, .cells sz gg [[.sc (.string ⟨⟨nm⟩⟩), .sc (.slice none 0 0)]] false] => (n = 148 ∧ a = 7 ∧ z = 0 ∧ b = 6 ∧ q = 1 ∧ g = 0 ∧ i = 0 ∧ o = 0 ∧ sz = 2 ∧ gg = 0) ∧ stayB 2 B = true ∧ TLk es cap mb sh hd tl true B nm R (rowsLen B) K
    | _ => False
  | _ => False

theorem seven_of {l : List Nat} (h : isSeven l = true) : l = [7] := by
  unfold isSeven at h
  split at h
  · rfl
  · cases h

theorem okL (n : Nat) (es : List (List AV)) (cap : Option Nat) (mb : Nat → Int) (sh : List Bool) (hd : Nat → Fld) (tl : Nat → List Fld) (hes : es.length ≤ 9223372036854775807) : LoopOK CV (n + 100) bA (TL es cap mb sh hd tl) := by
  intro st K h
  have key : ∀ {p : Bool} {B : Blk} {nm : List UInt8} {R : Tm} {r : Nat}, (p = true → stayB 2 B = true) → TLk es cap mb sh hd tl p B nm R r K → ∃ q, exec CV (n + 100 + 1) (.loop bA) (stA p B nm 0 0 [] R) = some q ∧ K q.1 q.2 := by
    rintro p B nm R r hB ⟨⟨h1, h2⟩, ⟨h3, h4⟩, ⟨h5, h6, h7⟩, hK⟩
    have hi : 2 * r < es.length := by
      unfold idxE at h5
      rw [if_neg (by omega), show (((2 * r : Nat) : Int)).toNat = 2 * r by omega] at h5
      rcases Nat.lt_or_ge (2 * r) es.length with g | g
      · exact g
      · rw [List.getElem?_eq_none g] at h5; cases h5
    have hw : IntKind.i64.wrap (((2 * r : Nat) : Int) + 1) = ((2 * r + 1 : Nat) : Int) := by rw [wrap_i64]; omega
    rw [h7] at hK
    exact loopA n p B nm R es cap ((2 * r : Nat) : Int) (mb (2 * r)) (mb (2 * r + 1)) _ K ⟨rfl, ⟨h1, h2, seven_of h3, (stayT_ok h4).1, (stayT_ok h4).2, fun hp => (stayB_ok (hB hp)).1, fun hp => (stayB_ok (hB hp)).2⟩, h5, by rw [hw]; exact h6, hK⟩
  unfold TL at h
  split at h
  case h_2 => exact h.elim
  rename_i n' a z b q g i o R heap
  split at h
  · rename_i sz gg nm
    obtain ⟨⟨rfl, rfl, rfl, rfl, rfl, rfl, rfl, rfl, rfl, rfl⟩, hk⟩ := h
    exact key (p := false) (B := .dead) (fun hp => by cases hp) hk
  · rename_i B sz gg nm
    obtain ⟨⟨rfl, rfl, rfl, rfl, rfl, rfl, rfl, rfl, rfl, rfl⟩, hB, hk⟩ := h
    exact key (p := true) (fun _ => hB) hk
  · exact h.elim

/-! ### check.Common -/

/-- Told of Common: nil, or a list. -/
def T44 (nil : Bool) (n : Nat) (args : List AV) (H : List Blk) (K : ORes → Prop) : Prop := match frzL H args with
  | some us => match nil with
    | true => ToEndY n 44 us (.sc (.slice none 0 0)) ∧ K (.val (.sc (.slice none 0 0)) H)
    | false => ∃ C : List Fld, ToEndY n 44 us (.ro 2 (rowsC C) none) ∧ K (.val (.ro 2 (rowsC C) none) (mark H (slIdsL args)))
  | none => False

end Go.Ai.Cm
