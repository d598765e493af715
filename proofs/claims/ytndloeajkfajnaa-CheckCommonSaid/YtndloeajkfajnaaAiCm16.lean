/-
  CheckCommon: the law's run, over what came in.
-/
import Derived.Test.YtndloeajkfajnaaAiCm13
import Derived.Test.YtndloeajkfajnaaAiCm14
import Derived.Test.YtndloeajkfajnaaAiCm15
set_option linter.unusedVariables false
set_option linter.unusedSimpArgs false
namespace Go.Ai.Cm
open Go.Proofs Go.RowKit

/-! ### a stream is built -/

theorem bs_gen {H : List Blk} {X v : AV} (hX : single X = true) (h : frz H X = some v) : buildSliceA false Try.prog H none 79 1 [(0, .agg [strN sN, X])] = some (.ro 2 [[strN sN, v]] (some 1), mark H (slIds X)) := by
  have h2 : setRows 2 (List.replicate 1 [strN [], .sc (.slice none 0 0)]) [(0, .agg [strN sN, X])] = some [[strN sN, X]] := by simp [setRows, cellsA, hX, show single (strN sN) = true from rfl]
  have h3 : frzRows H [[strN sN, X]] = some [[strN sN, v]] := by
    simp only [frzRows, frzL, strN, frz, h]
  have h4 : [[strN sN, X]].flatMap slIdsL = slIds X := by simp [slIdsL, strN, slIds]
  unfold buildSliceA
  rw [show Try.prog.underlying 79 = some (.slice 81) by kernel_rfl]
  simp only
  rw [show szT Try.prog 81 = some 2 by kernel_rfl, show (zeroT Try.prog 81).bind (fun z => cellsA (absV z)) = some [strN [], .sc (.slice none 0 0)] by kernel_rfl]
  simp only
  rw [if_pos (by simp), h2]
  simp only [Bool.false_eq_true, if_false, h3, h4]

theorem frz_fields (p : Bool) (B : Blk) (f : Fld) (r : List Fld) : frz (heapA p B sN 0 (f :: r)) (.sl (placeP p + 1) 0 0 (f :: r).length none) = some (listC (f :: r)) := by
  have h : (heapA p B sN 0 (f :: r))[placeP p + 1]? = some (.cells 2 0 (rowsC (f :: r)) false) := by cases p <;> rfl
  have hl : (rowsC (f :: r)).length = (f :: r).length := by simp [rowsC]
  have ht : ((rowsC (f :: r)).drop 0).take (f :: r).length = rowsC (f :: r) := by
    rw [List.drop_zero, ← hl, List.take_length]
  unfold frz
  rw [h]
  simp only
  rw [if_pos ⟨trivial, by rw [hl]; omega, by rw [ht]; exact rowsC_data _⟩, ht]
  rfl

theorem bsR_of (p : Bool) (B : Blk) (fs : List Fld) : bsR p B fs := by
  unfold bsR
  cases fs with
  | nil =>
    simp only
    rw [bs_gen (v := .sc (.slice none 0 0)) rfl rfl]
    rfl
  | cons f r =>
    simp only
    rw [bs_gen rfl (frz_fields p B f r)]
    rfl

/-! ### names are distinct -/

theorem nameK_inj {a b : Nat} (ha : a < 6) (hb : b < 6) (h : nameK a = nameK b) : a = b := by
  unfold nameK at h
  simp only [List.cons.injEq, and_true] at h
  have := congrArg UInt8.toNat h
  simp only [UInt8.toNat_ofNat'] at this
  omega

theorem fieldsTo_mem (m1 m2 : Int) : ∀ k, ∀ g ∈ fieldsTo m1 m2 k, ∃ j, j < k ∧ g.1 = nameK j
  | 0, g, h => by simp [fieldsTo] at h
  | k + 1, g, h => by
    simp only [fieldsTo, List.mem_append] at h
    rcases h with h | h
    · obtain ⟨j, h1, h2⟩ := fieldsTo_mem m1 m2 k g h
      exact ⟨j, by omega, h2⟩
    · cases hb : bitK m1 k with
      | false => simp [hb] at h
      | true =>
        simp only [hb, cond_true, List.mem_singleton] at h
        subst h
        exact ⟨k, by omega, rfl⟩

theorem fieldsTo_distinct (m1 m2 : Int) : ∀ k, k ≤ 6 → distinct (fieldsTo m1 m2 k)
  | 0, _ => by simp [distinct, fieldsTo]
  | k + 1, hk => by
    have ih := fieldsTo_distinct m1 m2 k (by omega)
    unfold distinct at ih ⊢
    simp only [fieldsTo, List.map_append]
    cases hb : bitK m1 k with
    | false => simpa using ih
    | true =>
      simp only [cond_true, List.map_cons, List.map_nil]
      rw [List.nodup_append]
      refine ⟨ih, by simp, fun a ha b hb hab => ?_⟩
      simp only [List.mem_singleton] at hb
      subst hb
      subst hab
      obtain ⟨g, hg, hg2⟩ := List.mem_map.1 ha
      obtain ⟨j, hj, hj2⟩ := fieldsTo_mem m1 m2 k g hg
      have := nameK_inj (by omega) (by omega) (hj2.symm.trans hg2)
      omega

theorem fieldsM_ok (m1 m2 : Int) : (fieldsM m1 m2).length ≤ 6 ∧ distinct (fieldsM m1 m2) := ⟨fieldsTo_le m1 m2 6, fieldsTo_distinct m1 m2 6 (by omega)⟩

/-! ### steps -/

theorem idx_byte {bm : List Int} {i : Nat} (h : i < bm.length) : idxE (mRows bm) (i : Int) [.sc (.int .u8 (byteAt bm (i : Int)))] := by
  unfold idxE
  rw [if_neg (by omega), show ((i : Nat) : Int).toNat = i by omega]
  unfold mRows byteAt
  rw [List.getElem?_map, if_pos (by omega), show ((i : Nat) : Int).toNat = i by omega, List.getD_eq_getElem?_getD, List.getElem?_eq_getElem h]
  rfl

noncomputable def mb (bm : List Int) (i : Nat) : Int := byteAt bm (i : Int)
noncomputable def Fs (bm : List Int) (r : Nat) : List Fld := fieldsM (mb bm (2 * r)) (mb bm (2 * r + 1))
noncomputable def hdF (bm : List Int) (r : Nat) : Fld := (Fs bm r).headD ([], 0)
noncomputable def tlF (bm : List Int) (r : Nat) : List Fld := (Fs bm r).tail

theorem sh_of (bm : List Int) (r : Nat) : (∃ t, t = true ∧ hdF bm r :: tlF bm r = Fs bm r) ∨ (∃ t, t = false ∧ ([] : List Fld) = Fs bm r) := by
  unfold hdF tlF
  cases Fs bm r with
  | nil => exact .inr ⟨_, rfl, rfl⟩
  | cons a b => exact .inl ⟨_, rfl, rfl⟩

theorem oneS_of (n : Nat) {bm : List Int} (hb : bm.length ≤ 9223372036854775807) (cap : Option Nat) (sh : List Bool) (r : Nat) (prev : List (List Fld)) {next : Prop} (hr : 2 * r + 1 < bm.length) (hF : fsv sh (hdF bm) (tlF bm) r = Fs bm r) (hn : next) :
    oneS (n + 384) (mRows bm) cap (mb bm) sh (hdF bm) (tlF bm) r prev next := by
  have hl : (mRows bm).length = bm.length := by simp [mRows]
  refine ⟨decide_eq_true (by rw [hl]; omega), okL (n + 284) _ _ _ _ _ _ (by rw [hl]; exact hb), ?_⟩
  have h1 := idx_byte (bm := bm) (i := 2 * r) (by omega)
  have h2 := idx_byte (bm := bm) (i := 2 * r + 1) hr
  cases r with
  | zero => exact ⟨⟨rfl, rfl, rfl, rfl, rfl, rfl, rfl, rfl, rfl, rfl⟩, ⟨rfl, rfl⟩, ⟨rfl, rfl⟩, ⟨h1, h2, hF⟩, bsR_of _ _ _, hn⟩
  | succ r => exact ⟨⟨rfl, rfl, rfl, rfl, rfl, rfl, rfl, rfl, rfl, rfl⟩, rfl, ⟨rfl, rfl⟩, ⟨rfl, rfl⟩, ⟨h1, h2, hF⟩, bsR_of _ _ _, hn⟩

theorem len_rowsC (C : List Fld) : (((C.length : Nat) : Int) == (((rowsC C).length : Nat) : Int)) = true := by simp [rowsC]

/-- All has a first stream with fields: what is asked at the end. -/
theorem endT (n : Nat) {s : Strm} {rest : List Strm} (es : List (List AV)) (cap : Option Nat) (v22 v23 v24 v25 : Value) {d p : Prop} (hd : d) (hs : s.2 ≠ []) (hs6 : s.2.length ≤ 6) (hr : rest.length ≤ 3) (hl : ∀ t ∈ rest, t.2.length ≤ 6 ∧ distinct t.2) (hp : p) :
    d ∧ ∃ C : List Fld, ToEndY (n + 393) 44 [.ro 2 ((s :: rest).map rowT) none] (.ro 2 (rowsC C) none) ∧ LoopOK CV (n + 388) bB (TB s rest es cap v22 v23 v24 v25) ∧
      (148 = 148 ∧ tmpB true 0 0 (RB (rest.length + 1) (.ro 2 (rowsC C) none) es cap v22 v23 v24 v25) = tmpB true 0 0 (tailB s rest es cap v22 v23 v24 v25) ∧ heapB s rest = heapB s rest ∧ ([] : List (FuncId × List AV)) = []) ∧
      ((((commonT s rest).length : Nat) : Int) == (((rowsC (commonT s rest)).length : Nat) : Int)) = true ∧ p := by
  have hb : backT s rest = .ro 2 (rowsC (commonT s rest)) none := by
    unfold backT
    split
    · rename_i h; exact absurd h hs
    · rfl
  have hc := (common_ends hs6 hr (fun t ht => (hl t ht).1) none).mono (m := n + 393) (by omega)
  rw [hb] at hc
  exact ⟨hd, _, hc, loopB (n + 188) hs hs6 hr hl, ⟨rfl, rfl, rfl, rfl⟩, len_rowsC _, hp⟩

theorem endF (n : Nat) {s : Strm} {rest : List Strm} {d p : Prop} (hd : d) (hs : s.2 = []) (hr : rest.length ≤ 3) (hl : ∀ t ∈ rest, t.2.length ≤ 6) (hp : p) :
    d ∧ ToEndY (n + 393) 44 [.ro 2 ((s :: rest).map rowT) none] (.sc (.slice none 0 0)) ∧ ((0 : Int) == ((0 : Nat) : Int)) = true ∧ p := by
  have hb : backT s rest = .sc (.slice none 0 0) := by
    unfold backT
    rw [hs]
  have hc := (common_ends (s := s) (by rw [hs]; simp) hr hl none).mono (m := n + 393) (by omega)
  rw [hb] at hc
  exact ⟨hd, hc, rfl, hp⟩

theorem strm_ok {bm : List Int} {r : Nat} {fs : List Fld} (h : fs = Fs bm r) : (strm fs).2.length ≤ 6 ∧ distinct (strm fs).2 := by
  subst h
  exact fieldsM_ok _ _

end Go.Ai.Cm
