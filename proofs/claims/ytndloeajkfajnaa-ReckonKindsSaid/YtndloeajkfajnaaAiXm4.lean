/-
  EXPRESSIONS BY BYTES: made.
-/
import Derived.Test.YtndloeajkfajnaaAiXm3
set_option linter.unusedVariables false
set_option linter.unusedSimpArgs false
namespace Go.Ai
open Go.Proofs Go.RowKit

def h16 (d : Nat) : Option Hint := if d = 14 then some (.anyI byteP) else none

def madeR (bs : List Int) (n : Nat) (m : AV) (K : CRes → Prop) : Prop := feedR bs m 0 fun z =>
  bothP (z.tmod 4 == 0) (giveR bs (n+90) 52 [ownA, .sc (.int .i64 3)] m (nextAt bs 0) fun cs _ => K (.ret (.agg cs)))
    (bothP (z.tmod 4 == 1) (giveR bs (n+88) 53 [ownA, .sc (.int .i64 2)] m (nextAt bs 0) fun cs _ => K (.ret (.agg cs))) (giveR bs (n+94) 54 [ownA, .sc (.int .i64 3)] m (nextAt bs 0) fun cs _ => K (.ret (.agg cs))))

theorem tree16 (bs : List Int) (n : Nat) (es : List (List AV)) (cap : Option Nat) (K : CRes → Prop) : callPC CS (conM bs) { op := h16 } (n+100) 16 [.ro 1 es cap] [] (fun r _ => K r) = madeR bs n (.ro 1 es cap) K := by kernel_rfl
theorem tree16n (bs : List Int) (n : Nat) (K : CRes → Prop) : callPC CS (conM bs) { op := h16 } (n+100) 16 [.sc (.slice none 0 0)] [] (fun r _ => K r) = madeR bs n (.sc (.slice none 0 0)) K := by kernel_rfl

/-- What is made of bytes is an expression. -/
theorem made_ends {bs : List Int} {m : AV} (hm : IsM bs m) : ∃ e : XT, e.wf ∧ ToEnd 1100 16 [m] (.ret (.agg e.cells)) := by
  have hx : okN bs m 0 := ⟨hm, by omega, by omega⟩
  have hx' := next_ok hx
  let Q : CRes → Prop := fun r => ∃ e : XT, e.wf ∧ r = .ret (.agg e.cells)
  have got : ∀ cs (x' : Int), isX cs → okN bs m x' → Q (.ret (.agg cs)) := fun cs _ ⟨e, h, hc⟩ _ => ⟨e, h, by rw [hc]⟩
  have hr : madeR bs 1000 m Q := feedR_of hm hx fun z hz => bothP_of (fun _ => giveR_of (num_gives hm 3 _ _ (by omega) (by omega) hx') got) fun _ =>
    bothP_of (fun _ => giveR_of (txt_gives hm 2 _ _ (by omega) (by omega) hx') got) fun _ => giveR_of (tru_gives hm 3 _ _ (by omega) (by omega) hx') got
  have fin : ∃ r, call CS (1000 + 100) 16 [m] [] = some r ∧ Q r.1 := by
    rcases formM hm with ⟨es, cap, rfl⟩ | rfl
    · exact byTree (tree16 bs 1000 es cap Q) hr
    · exact byTree (tree16n bs 1000 Q) hr
  obtain ⟨⟨r, H1⟩, hc, e, he, hrr⟩ := fin
  simp only at hrr
  subst hrr
  exact ⟨e, he, ⟨H1, hc⟩⟩

end Go.Ai
