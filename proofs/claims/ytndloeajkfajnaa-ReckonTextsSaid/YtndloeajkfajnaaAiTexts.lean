/-
  ReckonTexts, its first loop (under way): what is left of a text without its quotes.
-/
import Derived.Test.YtndloeajkfajnaaAiByte
import Derived.Test.YtndloeajkfajnaaAiLoop
set_option linter.unusedVariables false
set_option linter.unusedSimpArgs false
namespace Go.Ai
open Go.Proofs Go.RowKit

/-- The law's context: the examples of 8, and strings.Contains of one byte. -/
def toldT : FuncId → Option (List AV → Option AV) := fun f => if f = 14 then some one8 else if f = 104 then some contains1 else none

theorem toldT_ok (f : FuncId) (F : List AV → Option AV) (h : toldT f = some F) : PrimOK Try.prog f F := by
  unfold toldT at h
  split at h
  · rename_i e; cases h; rw [e]; exact prim14
  split at h
  · rename_i e; cases h; rw [e]; exact prim104b
  cases h

noncomputable def CT : Ctx := { C2 with prims := toldT }

theorem toldCT : Told CT := ⟨try_mix, try_name, toldT_ok, told2.recs⟩

theorem CT_P : CT.P = Try.prog := rfl

/-! ### rows of numbers lead nowhere -/

def Plain (es : List (List AV)) : Prop := ∀ r ∈ es, ∀ c ∈ r, ∃ v, c = AV.sc v

theorem refsL_plain {base : Nat} : ∀ {r : List AV}, (∀ c ∈ r, ∃ v, c = AV.sc v) → refsL base r = []
  | [], _ => rfl
  | c :: r, h => by
    obtain ⟨v, rfl⟩ := h c List.mem_cons_self
    simp only [refsL, refs, List.nil_append]
    exact refsL_plain fun d hd => h d (List.mem_cons_of_mem _ hd)

theorem renL_plain {base tgt : Nat} {ids : List (Nat × Nat)} : ∀ {r : List AV}, (∀ c ∈ r, ∃ v, c = AV.sc v) → renL base tgt ids r = r
  | [], _ => rfl
  | c :: r, h => by
    obtain ⟨v, rfl⟩ := h c List.mem_cons_self
    simp only [renL, ren]
    rw [renL_plain fun d hd => h d (List.mem_cons_of_mem _ hd)]

theorem refs_plain {base : Nat} {es : List (List AV)} (h : Plain es) : es.flatMap (refsL base) = [] := by
  rw [List.flatMap_eq_nil_iff]
  exact fun r hr => refsL_plain (h r hr)

theorem ren_plain {base tgt : Nat} {ids : List (Nat × Nat)} {es : List (List AV)} (h : Plain es) : es.map (renL base tgt ids) = es := by
  conv => rhs; rw [← List.map_id es]
  exact List.map_congr_left fun r hr => renL_plain (h r hr)

/-- One block of plain rows, one slice over it: its edition begins anew. -/
theorem compact_plain {n g : Nat} {tmps : Tm} {es : List (List AV)} (h : Plain es) (hr : refsT 0 tmps = [0]) :
    compact 0 ⟨n, tmps, [.cells 1 g es false], []⟩ = ⟨n, renT 0 0 [(0, g)] tmps, [.cells 1 0 es false], []⟩ := by
  have e : reach 0 [Blk.cells 1 g es false] 100000 (refsT 0 tmps ++ []) [] = [0] := by
    rw [hr]
    show (if ([] : List Nat).contains 0 = true then _ else reach 0 [Blk.cells 1 g es false] 99999 (es.flatMap (refsL 0) ++ []) [0]) = [0]
    rw [refs_plain h]
    rfl
  unfold compact
  rw [if_neg (by simp), if_neg (by simp)]
  simp only [List.take_zero, List.flatMap_nil]
  rw [e]
  show (⟨n, renT 0 0 [(0, g)] tmps, [] ++ [setGen (renBlk 0 0 [(0, g)] (.cells 1 g es false))], []⟩ : St) = _
  unfold renBlk
  simp only [ren_plain h]
  rfl

/-! ### the loop -/

noncomputable def bx : Code := loopOf Try.f10 0
def rowsU (l : List UInt8) : List (List AV) := l.map fun b => [AV.sc (.int .u8 b.toNat)]
theorem rowsU_plain (l : List UInt8) : Plain (rowsU l) := by
  intro r hr c hc
  unfold rowsU at hr
  simp only [List.mem_map] at hr
  obtain ⟨b, _, rfl⟩ := hr
  simp only [List.mem_singleton] at hc
  exact ⟨_, hc⟩

def restX (l : List UInt8) (long : Int) : Tm := [(17, .ro 1 (rowsU l) none), (16, .sc (.string ⟨⟨l⟩⟩)), (15, .sc (.bool false)), (14, .sc (.bool true)), (5, .sc (.bool true)), (13, .sc (.bool true)), (4, .sc (.bool false)), (0, .sc (.string ⟨⟨l⟩⟩)), (1, .sc (.int .u8 long))]
/-- The loop's begin. -/
def entryX (l : List UInt8) (long : Int) : St := ⟨96, (8, .sc (.int .i64 0)) :: (7, .sc (.slice none 0 0)) :: (6, .ro 1 (rowsU l) none) :: restX l long, [], []⟩
/-- A round's begin. -/
def headX (i : Int) (X : AV) (l : List UInt8) (long : Int) (H : List Blk) : St := ⟨96, (8, .sc (.int .i64 i)) :: (7, X) :: (entryX l long).tmps, H, []⟩

theorem headOf_nil (l : List UInt8) (long j : Int) (st : St) (h1 : st.n = 96) (h2 : getT st.tmps 8 = .sc (.int .i64 j)) (h3 : getT st.tmps 7 = .sc (.slice none 0 0)) (h4 : st.heap = []) (h5 : st.defers = []) :
    headOf bx (entryX l long) st = headX j (.sc (.slice none 0 0)) l long [] := by
  have e : carried (entryX l long).tmps (writes bx) [] = [8, 7] := by kernel_rfl
  unfold headOf
  rw [e]
  show compact 0 ⟨st.n, (8, getT st.tmps 8) :: (7, getT st.tmps 7) :: (entryX l long).tmps, st.heap, st.defers⟩ = _
  rw [h1, h2, h3, h4, h5]
  kernel_rfl

theorem headOf_sl (l : List UInt8) (long j : Int) {k : Nat} {xs : List (List AV)} (hx : Plain xs) (st : St) (h1 : st.n = 96) (h2 : getT st.tmps 8 = .sc (.int .i64 j)) {g : Nat} (h3 : getT st.tmps 7 = .sl 0 g 0 k none)
    (h4 : st.heap = [.cells 1 g xs false]) (h5 : st.defers = []) : headOf bx (entryX l long) st = headX j (.sl 0 0 0 k none) l long [.cells 1 0 xs false] := by
  have e : carried (entryX l long).tmps (writes bx) [] = [8, 7] := by kernel_rfl
  unfold headOf
  rw [e]
  show compact 0 ⟨st.n, (8, getT st.tmps 8) :: (7, getT st.tmps 7) :: (entryX l long).tmps, st.heap, st.defers⟩ = _
  rw [h1, h2, h3, h4, h5, compact_plain hx (by kernel_rfl)]
  have e2 : renB 0 0 [(0, g)] 0 g = some (0, 0) := by
    unfold renB
    simp
  have e3 : renT 0 0 [(0, g)] ((8, .sc (.int .i64 j)) :: (7, .sl 0 g 0 k none) :: (entryX l long).tmps) = (8, .sc (.int .i64 j)) :: (7, match renB 0 0 [(0, g)] 0 g with | some p => AV.sl p.1 p.2 0 k none | none => .undef) :: (entryX l long).tmps := by kernel_rfl
  rw [e3, e2]
  rfl

end Go.Ai
