/-
  ReckonTexts, its first loop (under way): its rounds.
-/
import Derived.Test.YtndloeajkfajnaaAiTexts
set_option linter.unusedVariables false
set_option linter.unusedSimpArgs false
namespace Go.Ai
open Go.Proofs Go.RowKit

/-- The slots behind a round's own ones: at the first round, at any other. -/
def tailX (pre : Bool) (es : List (List AV)) (R : Tm) : Tm := match pre with
  | false => (6, .ro 1 es none) :: R
  | true => (8, .sc (.int .i64 0)) :: (7, .sc (.slice none 0 0)) :: (6, .ro 1 es none) :: R

def atX (pre : Bool) (i : Int) (X : AV) (es : List (List AV)) (R : Tm) (H : List Blk) : St := ⟨96, (8, .sc (.int .i64 i)) :: (7, X) :: tailX pre es R, H, []⟩

/-- Where it ends. -/
def outX (pre : Bool) (i : Int) (X : AV) (es : List (List AV)) (R : Tm) (H : List Blk) (a b c d : AV) : St :=
  ⟨96, (25, .sc (.bool false)) :: (24, a) :: (23, b) :: (22, c) :: (21, d) :: (20, .sc (.int .i64 es.length)) :: (19, .ro 1 es none) :: (18, .sc (.int .i64 i)) :: (8, .sc (.int .i64 i)) :: (7, X) :: tailX pre es R, H, []⟩

theorem exitX (n : Nat) (pre : Bool) (i : Int) (X : AV) (es : List (List AV)) (R : Tm) (H : List Blk) (P : Ex → St → Prop) : execP CT (noCon CT) (n+20) (scr [(21, .bit false)]) bx (atX pre i X es R H) P =
    (decide (i < es.length) = false ∧ P (.exit 0) (outX pre i X es R H unit unit (.sc (.bool false)) (.sc (.bool false)))) := by
  cases pre <;> kernel_rfl

theorem exitX2 (n : Nat) (pre : Bool) (i : Int) (X : AV) (es : List (List AV)) (R : Tm) (H : List Blk) (P : Ex → St → Prop) : execP CT (noCon CT) (n+20) (scr [(21, .bit true), (24, .bit false)]) bx (atX pre i X es R H) P =
    (decide (i < es.length) = true ∧ decide (i < 64) = false ∧ P (.exit 0) (outX pre i X es R H (.sc (.bool false)) (.sc (.int .i64 i)) (.sc (.bool true)) (.sc (.bool true)))) := by
  cases pre <;> kernel_rfl

/-- What a round reads. -/
def readX (es : List (List AV)) (i c : Int) (H : List Blk) : Prop := ((if i < 0 then none else (es[i.toNat]?).map fun row => AV.rp row 0).map fun v => ORes.val v H) = some (.val (.rp [.sc (.int .u8 c)] 0) H)

def midX (pre : Bool) (i j c : Int) (X : AV) (es : List (List AV)) (R : Tm) (H : List Blk) : St :=
  ⟨96, (8, .sc (.int .i64 j)) :: (27, .sc (.int .i64 j)) :: (26, .sc (.int .i64 i)) :: (32, .sc (.bool false)) :: (31, .sc (.int .u8 c)) :: (30, .rp [.sc (.int .u8 c)] 0) :: (29, .sc (.int .i64 i)) :: (28, .ro 1 es none) ::
    (25, .sc (.bool true)) :: (24, .sc (.bool true)) :: (23, .sc (.int .i64 i)) :: (22, .sc (.bool true)) :: (21, .sc (.bool true)) :: (20, .sc (.int .i64 es.length)) :: (19, .ro 1 es none) :: (18, .sc (.int .i64 i)) :: (8, .sc (.int .i64 i)) :: (7, X) :: tailX pre es R, H, []⟩

theorem skipX (n : Nat) (pre : Bool) (i j c : Int) (X : AV) (es : List (List AV)) (R : Tm) (H : List Blk) (P : Ex → St → Prop) :
    execP CT (noCon CT) (n+20) (scr [(21, .bit true), (24, .bit true), (30, .res fun _ H => .val (.rp [.sc (.int .u8 c)] 0) H), (32, .bit false), (27, .int j)]) bx (atX pre i X es R H) P =
    (decide (i < es.length) = true ∧ decide (i < 64) = true ∧ readX es i c H ∧ (c != 39) = false ∧ IntKind.i64.wrap (i + 1) = j ∧ P .normal (midX pre i j c X es R H)) := by
  cases pre <;> kernel_rfl

def putX (pre : Bool) (i j c : Int) (X Y : AV) (es : List (List AV)) (R : Tm) (H : List Blk) : St :=
  ⟨96, (8, .sc (.int .i64 j)) :: (27, .sc (.int .i64 j)) :: (26, .sc (.int .i64 i)) :: (7, Y) :: (39, Y) :: (38, .ro 1 [[.sc (.int .u8 c)]] (some 1)) :: (37, .sc (.int .u8 c)) :: (36, .rp [.sc (.int .u8 c)] 0) :: (35, .sc (.int .i64 i)) :: (34, .ro 1 es none) :: (33, X) ::
    (32, .sc (.bool true)) :: (31, .sc (.int .u8 c)) :: (30, .rp [.sc (.int .u8 c)] 0) :: (29, .sc (.int .i64 i)) :: (28, .ro 1 es none) ::
    (25, .sc (.bool true)) :: (24, .sc (.bool true)) :: (23, .sc (.int .i64 i)) :: (22, .sc (.bool true)) :: (21, .sc (.bool true)) :: (20, .sc (.int .i64 es.length)) :: (19, .ro 1 es none) :: (18, .sc (.int .i64 i)) :: (8, .sc (.int .i64 i)) :: (7, X) :: tailX pre es R, H, []⟩

theorem growN (n : Nat) (pre : Bool) (i j c : Int) (es : List (List AV)) (R : Tm) (P : Ex → St → Prop) :
    execP CT (noCon CT) (n+20) (scr [(21, .bit true), (24, .bit true), (30, .res fun _ H => .val (.rp [.sc (.int .u8 c)] 0) H), (36, .res fun _ H => .val (.rp [.sc (.int .u8 c)] 0) H), (32, .bit true), (27, .int j)]) bx (atX pre i (.sc (.slice none 0 0)) es R []) P =
    (decide (i < es.length) = true ∧ decide (i < 64) = true ∧ readX es i c [] ∧ (c != 39) = true ∧ readX es i c [] ∧ IntKind.i64.wrap (i + 1) = j ∧ P .normal (putX pre i j c (.sc (.slice none 0 0)) (.sl 0 0 0 1 none) es R [.cells 1 0 [[.sc (.int .u8 c)]] false])) := by
  cases pre <;> kernel_rfl

def growO (c : Int) (xs : List (List AV)) (k : Nat) : Prop :=
  (((if 1 = 1 ∧ 0 = 0 ∧ 0 + k ≤ xs.length then (if 1 = 0 then some (.sl 0 0 0 k none, [.cells 1 0 xs false]) else if 0 + k = xs.length ∧ (k + 1) * 1 ≤ roomA then
        some (.sl 0 (0 + 1) 0 (k + 1) none, [Blk.cells 1 (0 + 1) (xs.drop 0 ++ [[.sc (.int .u8 c)]]) false]) else none) else none) : Option (AV × List Blk)).map (fun p => ORes.val p.1 p.2) =
        some (.val (.sl 0 1 0 (k + 1) none) [.cells 1 1 (xs ++ [[.sc (.int .u8 c)]]) false]))

theorem growS (n : Nat) (pre : Bool) (i j c : Int) (xs es : List (List AV)) (k : Nat) (R : Tm) (P : Ex → St → Prop) :
    execP CT (noCon CT) (n+20) (scr [(21, .bit true), (24, .bit true), (30, .res fun _ H => .val (.rp [.sc (.int .u8 c)] 0) H), (36, .res fun _ H => .val (.rp [.sc (.int .u8 c)] 0) H), (32, .bit true), (39, .res fun _ _ => .val (.sl 0 1 0 (k + 1) none) [.cells 1 1 (xs ++ [[.sc (.int .u8 c)]]) false]), (27, .int j)]) bx
      (atX pre i (.sl 0 0 0 k none) es R [.cells 1 0 xs false]) P =
    (decide (i < es.length) = true ∧ decide (i < 64) = true ∧ readX es i c [.cells 1 0 xs false] ∧ (c != 39) = true ∧ readX es i c [.cells 1 0 xs false] ∧ growO c xs k ∧ IntKind.i64.wrap (i + 1) = j ∧
      P .normal (putX pre i j c (.sl 0 0 0 k none) (.sl 0 1 0 (k + 1) none) es R [.cells 1 1 (xs ++ [[.sc (.int .u8 c)]]) false])) := by
  cases pre <;> kernel_rfl

theorem grow_ok (c : Int) (xs : List (List AV)) (h : xs.length ≤ 64) : growO c xs xs.length := by
  unfold growO
  have h1 : (100 : Nat) ≤ roomA := by decide
  rw [if_pos ⟨rfl, rfl, by omega⟩, if_neg (by decide), if_pos ⟨by omega, by omega⟩]
  rfl

end Go.Ai
