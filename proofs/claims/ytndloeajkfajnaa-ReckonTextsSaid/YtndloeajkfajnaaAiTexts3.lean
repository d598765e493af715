/-
  ReckonTexts, its second loop (under way): its rounds.
-/
import Derived.Test.YtndloeajkfajnaaAiTexts2
set_option linter.unusedVariables false
set_option linter.unusedSimpArgs false
namespace Go.Ai
open Go.Proofs Go.RowKit

noncomputable def byy : Code := loopOf Try.f10 1

def placeY (two : Bool) : Nat := match two with | true => 1 | false => 0
def heapY (two : Bool) (X : Blk) (rows : List (List AV)) : List Blk := match two with | true => [X, .cells 1 0 rows false] | false => [.cells 1 0 rows false]
def tailY (pre : Bool) (Y : AV) (R : Tm) : Tm := match pre with | true => (10, .sc (.int .i64 0)) :: (9, Y) :: R | false => (9, Y) :: R
def slY (two : Bool) (q : Nat) : AV := .sl (placeY two) 0 0 q (some q)
def atY (pre two : Bool) (i : Int) (q : Nat) (X : Blk) (rows : List (List AV)) (R : Tm) : St := ⟨96, (10, .sc (.int .i64 i)) :: tailY pre (slY two q) R, heapY two X rows, []⟩
def outY (pre two : Bool) (i : Int) (q : Nat) (X : Blk) (rows : List (List AV)) (R : Tm) : St :=
  ⟨96, (47, .sc (.bool false)) :: (46, .sc (.int .i64 q)) :: (45, slY two q) :: (44, .sc (.int .i64 i)) :: (10, .sc (.int .i64 i)) :: tailY pre (slY two q) R, heapY two X rows, []⟩
def midY (pre two : Bool) (i j : Int) (q : Nat) (X : Blk) (rows : List (List AV)) (R : Tm) : St :=
  ⟨96, (10, .sc (.int .i64 j)) :: (49, .sc (.int .i64 j)) :: (48, .sc (.int .i64 i)) :: (52, .ptr (placeY two) 0 (0 + i.toNat) 0) :: (51, .sc (.int .i64 i)) :: (50, slY two q) :: (47, .sc (.bool true)) :: (46, .sc (.int .i64 q)) :: (45, slY two q) ::
    (44, .sc (.int .i64 i)) :: (10, .sc (.int .i64 i)) :: tailY pre (slY two q) R, heapY two X rows, []⟩

theorem exitY (n : Nat) (pre two : Bool) (i : Int) (q : Nat) (X : Blk) (rows : List (List AV)) (R : Tm) (P : Ex → St → Prop) : execP CT (noCon CT) (n+20) (scr [(47, .bit false)]) byy (atY pre two i q X rows R) P =
    (decide (i < q) = false ∧ P (.exit 2) (outY pre two i q X rows R)) := by
  cases pre <;> cases two <;> kernel_rfl

def addrY (two : Bool) (i : Int) (q : Nat) (X : Blk) (rows : List (List AV)) : Prop :=
  ((if i < 0 then none else if 1 = 1 ∧ 0 = 0 ∧ i.toNat < q ∧ 0 + q ≤ rows.length then some (AV.ptr (placeY two) 0 (0 + i.toNat) 0) else none).map fun v => ORes.val v (heapY two X rows)) = some (.val (.ptr (placeY two) 0 (0 + i.toNat) 0) (heapY two X rows))

def storeY (two : Bool) (i : Int) (X : Blk) (rows rows' : List (List AV)) : Prop :=
  ((match rows[0 + i.toNat]? with
    | some row => if 0 = 0 ∧ 1 = 1 ∧ 0 + 1 ≤ row.length then some (heapY two X (rows.set (0 + i.toNat) (putRow row 0 [.sc (.int .u8 121)]))) else none
    | none => none : Option (List Blk)).map ORes.skip) = some (.skip (heapY two X rows'))

theorem stepY (n : Nat) (pre two : Bool) (i j : Int) (q : Nat) (X : Blk) (rows rows' : List (List AV)) (R : Tm) (P : Ex → St → Prop) :
    execP CT (noCon CT) (n+20) (scr [(47, .bit true), (52, .res fun _ H => .val (.ptr (placeY two) 0 (0 + i.toNat) 0) H), (10052, .res fun _ _ => .skip (heapY two X rows')), (49, .int j)]) byy (atY pre two i q X rows R) P =
    (decide (i < q) = true ∧ addrY two i q X rows ∧ storeY two i X rows rows' ∧ IntKind.i64.wrap (i + 1) = j ∧ P .normal (midY pre two i j q X rows' R)) := by
  cases pre <;> cases two <;> kernel_rfl

end Go.Ai
