/-
  CheckCommon: the loop over the first stream's fields: what it comes to.
-/
import Derived.Test.YtndloeajkfajnaaAiCm10
set_option linter.unusedVariables false
set_option linter.unusedSimpArgs false
namespace Go.Ai.Cm
open Go.Proofs Go.RowKit

theorem stay_listC (L : Nat) (fs : List Fld) : stayV L (listC fs) = true := by cases fs <;> rfl

theorem stayR_rows (L : Nat) : ∀ ss : List Strm, stayR L (ss.map rowT) = true
  | [] => rfl
  | s :: ss => by
    have h : stayL L (rowT s) = true := by
      show (match stayV L (strN s.1) with | true => stayL L [listC s.2] | false => false) = true
      show stayL L [listC s.2] = true
      unfold stayL
      rw [stay_listC]
      rfl
    show (match stayL L (rowT s) with | true => stayR L (ss.map rowT) | false => false) = true
    rw [h]
    exact stayR_rows L ss

/-- A block that nobody leads to any more is forgotten. -/
theorem compact_drop {n : Nat} {tmps : Tm} {B Y : Blk} (ht : stayT 1 tmps = true) (hB : stayB 1 B = true) : compact 1 ⟨n, tmps, [B, Y], []⟩ = ⟨n, tmps, [B], []⟩ := by
  have h1 := stayT_ok ht
  have h2 := stayB_ok hB
  unfold compact
  rw [if_neg (by simp), if_neg (by simp)]
  simp only [List.take_succ_cons, List.take_zero, List.flatMap_cons, List.flatMap_nil, h1.1, h2.1, List.append_nil]
  have e : reach 1 [B, Y] 100000 [] [] = [] := rfl
  rw [e]
  simp only [List.map_nil, List.append_nil, List.isEmpty_nil, if_true, h1.2]

noncomputable def keptN (s : Strm) (rest : List Strm) (i : Nat) : List Fld := (s.2.take i).filter fun f => !missing f rest

theorem keptN_succ (s : Strm) (rest : List Strm) {i : Nat} {f : Fld} (h : s.2[i]? = some f) : keptN s rest (i + 1) = keptN s rest i ++ (if !missing f rest then [f] else []) := by
  unfold keptN
  rw [List.take_add_one, h]
  simp only [Option.toList_some, List.filter_append]
  congr 1
  simp only [List.filter_cons, List.filter_nil]

theorem keptN_le (s : Strm) (rest : List Strm) (i : Nat) : (keptN s rest i).length ≤ i := by
  unfold keptN
  refine Nat.le_trans (List.length_filter_le _ _) ?_
  simp
  omega

theorem keptN_all (s : Strm) (rest : List Strm) {i : Nat} (h : s.2.length ≤ i) : keptN s rest i = commonT s rest := by
  unfold keptN commonT
  rw [List.take_of_length_le h]

theorem common_at (s : Strm) (rest : List Strm) {i : Nat} {f : Fld} (h : s.2[i]? = some f) (hk : (!missing f rest) = true) : (commonT s rest)[(keptN s rest i).length]? = some f := by
  have hlt : i < s.2.length := by
    rcases Nat.lt_or_ge i s.2.length with g | g
    · exact g
    · rw [List.getElem?_eq_none g] at h; cases h
  have e : s.2 = s.2.take i ++ f :: s.2.drop (i + 1) := by
    rw [List.getElem?_eq_getElem hlt] at h
    cases h
    rw [List.getElem_cons_drop, List.take_append_drop]
  have h2 : s.2.filter (fun f => !missing f rest) = (s.2.take i).filter (fun f => !missing f rest) ++ f :: (s.2.drop (i + 1)).filter (fun f => !missing f rest) := by
    conv => lhs; rw [e]
    rw [List.filter_append, List.filter_cons, if_pos hk]
  unfold commonT keptN
  rw [h2, List.getElem?_append_right (Nat.le_refl _), Nat.sub_self]
  rfl

theorem ne137_ok (f : Fld) : ne137 f := by
  unfold ne137
  have e : binA Try.prog .neq 68 (.tmp 135) (.tmp 136) (fieldA f) (fieldA f) = (pureRun Try.prog (do eqGuard .neq 68 (.tmp 135) (.tmp 136) (fldV ⟨⟨f.1⟩⟩ f.2) (fldV ⟨⟨f.1⟩⟩ f.2); binOp .neq 68 (fldV ⟨⟨f.1⟩⟩ f.2) (fldV ⟨⟨f.1⟩⟩ f.2))).map absV := by kernel_rfl
  rw [e, pureRun_bind', show pureRun Try.prog (eqGuard .neq 68 (.tmp 135) (.tmp 136) (fldV ⟨⟨f.1⟩⟩ f.2) (fldV ⟨⟨f.1⟩⟩ f.2)) = some () by kernel_rfl]
  simp only [Option.bind_some]
  have e2 : binOp .neq 68 (fldV ⟨⟨f.1⟩⟩ f.2) (fldV ⟨⟨f.1⟩⟩ f.2) = Sem.bind (Op.equal 68 (fldV ⟨⟨f.1⟩⟩ f.2) (fldV ⟨⟨f.1⟩⟩ f.2)) fun r => Sem.pure (.bool (!r)) := by kernel_rfl
  rw [e2, pureRun_bind, fld_equal]
  have e3 : ((⟨⟨f.1⟩⟩ : ByteArray) == ⟨⟨f.1⟩⟩) = true := by
    show ((⟨f.1⟩ : Array UInt8) == ⟨f.1⟩) = true
    exact beq_self_eq_true _
  rw [e3]
  simp [pureRun, absV, abs1]

section
variable {es : List (List AV)} {cap : Option Nat} {v22 v23 v24 v25 : Value}

def heapB (s : Strm) (rest : List Strm) : List Blk := [.cells 2 0 ((s :: rest).map rowT) true]
def tailB (s : Strm) (rest : List Strm) (es : List (List AV)) (cap : Option Nat) (v22 v23 v24 v25 : Value) : Tm := RB (rest.length + 1) (.ro 2 (rowsC (commonT s rest)) none) es cap v22 v23 v24 v25

theorem carB (s : Strm) (rest : List Strm) : carried (tmpB true 0 0 (tailB s rest es cap v22 v23 v24 v25)) (writes bB) [] = [10, 9, 2] := by kernel_rfl

theorem headB (s : Strm) (rest : List Strm) (i a : Int) (f : Fld) (st : St) (h1 : st.n = 148) (h2 : st.defers = []) (h3 : getT st.tmps 9 = intN a) (h4 : getT st.tmps 10 = intN i) (h6 : getT st.tmps 2 = .sc (.bool false)) (h5 : st.heap = heapB s rest ++ [.cells 2 0 [fieldRow f.1 f.2] false]) :
    headOf bB ⟨148, tmpB true 0 0 (tailB s rest es cap v22 v23 v24 v25), heapB s rest, []⟩ st = ⟨148, tmpB false i a (tailB s rest es cap v22 v23 v24 v25), heapB s rest, []⟩ := by
  unfold headOf
  show nrm (carried (tmpB true 0 0 (tailB s rest es cap v22 v23 v24 v25)) (writes bB) []) _ st = _
  rw [carB]
  show compact 1 ⟨st.n, (10, getT st.tmps 10) :: (9, getT st.tmps 9) :: (2, getT st.tmps 2) :: tmpB true 0 0 (tailB s rest es cap v22 v23 v24 v25), st.heap, st.defers⟩ = _
  rw [h1, h2, h3, h4, h6, h5]
  exact compact_drop rfl (stayR_rows 1 (s :: rest))

/-- What is told of the loop. -/
def TB (s : Strm) (rest : List Strm) (es : List (List AV)) (cap : Option Nat) (v22 v23 v24 v25 : Value) (st : St) (K : Ex → St → Prop) : Prop :=
  (st.n = 148 ∧ st.tmps = tmpB true 0 0 (tailB s rest es cap v22 v23 v24 v25) ∧ st.heap = heapB s rest ∧ st.defers = []) ∧
    K (.exit 4) (outB s.2.length (commonT s rest).length false (listC s.2) s.2.length (rest.length + 1) (tailB s rest es cap v22 v23 v24 v25) (heapB s rest))

theorem loopB (n : Nat) {s : Strm} {rest : List Strm} (hs : s.2 ≠ []) (hs6 : s.2.length ≤ 6) (hr : rest.length ≤ 3) (hl : ∀ t ∈ rest, t.2.length ≤ 6 ∧ distinct t.2) : LoopOK CV (n + 200) bB (TB s rest es cap v22 v23 v24 v25) := by
  refine loopOK_of fun st K hT => ?_
  obtain ⟨sn, st1, st2, st3⟩ := st
  obtain ⟨⟨rfl, rfl, rfl, rfl⟩, hK⟩ := hT
  have hF : listC s.2 = .ro 2 (rowsC s.2) none := by
    cases hq : s.2 with
    | nil => exact absurd hq hs
    | cons a b => rfl
  have hH : heapB s rest = [.cells 2 0 ([strN s.1, .ro 2 (rowsC s.2) none] :: rest.map rowT) true] := by
    unfold heapB
    rw [List.map_cons]
    unfold rowT
    rw [hF]
  refine ⟨fun m st => ∃ i : Nat, i ≤ s.2.length ∧ m = s.2.length - i ∧ st = ⟨148, tmpB (decide (i = 0)) i (keptN s rest i).length (tailB s rest es cap v22 v23 v24 v25), heapB s rest, []⟩, s.2.length, by omega, ⟨0, by omega, rfl, rfl⟩, ?_⟩
  rintro m st ⟨i, hi, rfl, rfl⟩
  have hrl : (rowsC s.2).length = s.2.length := by simp [rowsC]
  have hkl := keptN_le s rest i
  by_cases h : i < s.2.length
  · obtain ⟨f, hf⟩ : ∃ f, s.2[i]? = some f := ⟨s.2[i], List.getElem?_eq_getElem h⟩
    have hw : IntKind.i64.wrap ((i : Int) + 1) = ((i + 1 : Nat) : Int) := by rw [wrap_i64]; omega
    have hw2 : IntKind.i64.wrap (((keptN s rest i).length : Int) + 1) = (((keptN s rest i).length + 1 : Nat) : Int) := by rw [wrap_i64]; omega
    let gs : Nat → Fld := fun k => match rest[k - 1]? with
      | some t => t.2.getD (placeOf f.1 t.2 0).toNat ([], 0)
      | none => ([], 0)
    let Q : AV → AV → List Blk → Prop := fun x y H => x = intN ((keptN s rest (i + 1)).length : Int) ∧ y = intN ((i + 1 : Nat) : Int) ∧ H = heapB s rest ++ [.cells 2 0 [fieldRow f.1 f.2] false]
    have hround : roundB (n + 186) (rowsC (commonT s rest)) f (fun k => (gs k).1) (fun k => (gs k).2) (rowsC s.2) (heapB s rest) i (keptN s rest i).length (rest.map tripleT) Q := by
      refine ⟨decide_eq_true (by omega), idxE_rows hf, inR_of (by omega) rest 1 true hl (fun k t hk => ?_) ?_⟩
      · show gs (1 + k) = _
        simp only [gs, show 1 + k - 1 = k by omega, hk]
      · cases hm : missing f rest with
        | true =>
          have e : keptN s rest (i + 1) = keptN s rest i := by rw [keptN_succ s rest hf, hm]; simp
          exact ⟨rfl, rfl, rfl, by rw [e], by rw [hw], rfl⟩
        | false =>
          have e : keptN s rest (i + 1) = keptN s rest i ++ [f] := by rw [keptN_succ s rest hf, hm]; simp
          have hc := common_at s rest hf (by rw [hm]; rfl)
          have hclt : (keptN s rest i).length < (commonT s rest).length := by
            rcases Nat.lt_or_ge (keptN s rest i).length (commonT s rest).length with g | g
            · exact g
            · rw [List.getElem?_eq_none g] at hc; cases hc
          refine ⟨decide_eq_false ?_, idxE_rows hc, ne137_ok f, rfl, rfl, rfl, by rw [hw2, e]; simp, by rw [hw], rfl⟩
          have : (rowsC (commonT s rest)).length = (commonT s rest).length := by simp [rowsC]
          omega
    have fin : ∀ (r : Ex × St), exec CV (n + 200) bB ⟨148, tmpB (decide (i = 0)) i (keptN s rest i).length (tailB s rest es cap v22 v23 v24 v25), heapB s rest, []⟩ = some r → KB Q K r.1 r.2 →
        ∃ r, exec CV (n + 200) bB ⟨148, tmpB (decide (i = 0)) i (keptN s rest i).length (tailB s rest es cap v22 v23 v24 v25), heapB s rest, []⟩ = some r ∧ match r.1 with | .normal => ∃ m', m' < s.2.length - i ∧ ∃ i : Nat, i ≤ s.2.length ∧ m' = s.2.length - i ∧ headOf bB ⟨148, tmpB true 0 0 (tailB s rest es cap v22 v23 v24 v25), heapB s rest, []⟩ r.2 = ⟨148, tmpB (decide (i = 0)) i (keptN s rest i).length (tailB s rest es cap v22 v23 v24 v25), heapB s rest, []⟩ | e => K e r.2 := by
      rintro ⟨e, st'⟩ hr' hx
      refine ⟨(e, st'), hr', ?_⟩
      cases e with
      | normal =>
        obtain ⟨g1, g2, g0, g3, g4, g5⟩ := hx
        exact ⟨s.2.length - (i + 1), by omega, i + 1, by omega, rfl, headB s rest _ _ f st' g1 g2 g3 g4 g0 g5⟩
      | exit j => exact hx
      | ret => exact hx
      | pan v => exact hx
    rw [hH] at hround
    cases i with
    | zero =>
      have t := rbT n es cap v22 v23 v24 v25 (rowsC (commonT s rest)) f (fun k => (gs k).1) (fun k => (gs k).2) s.1 (rowsC s.2) rest hr Q K
      rw [← hH] at t hround
      obtain ⟨r, hr', hx⟩ := execP_treeC t hround
      exact fin r hr' hx
    | succ i =>
      have t := rbF n es cap v22 v23 v24 v25 (rowsC (commonT s rest)) f (fun k => (gs k).1) (fun k => (gs k).2) ((i + 1 : Nat) : Int) (keptN s rest (i + 1)).length s.1 (rowsC s.2) rest hr Q K
      rw [← hH] at t hround
      obtain ⟨r, hr', hx⟩ := execP_treeC t hround
      exact fin r hr' hx
  · have hiq : i = s.2.length := by omega
    have hpos : i ≠ 0 := fun e => hs (List.eq_nil_of_length_eq_zero (by omega))
    rw [decide_eq_false hpos, keptN_all s rest (by omega), hiq]
    have key : ∃ r, exec CV (n + 200) bB ⟨148, tmpB false (s.2.length : Nat) ((commonT s rest).length : Nat) (tailB s rest es cap v22 v23 v24 v25), heapB s rest, []⟩ = some r ∧ KB (fun _ _ _ => False) K r.1 r.2 := by
      rw [hF] at hK
      have hd : decide (((s.2.length : Nat) : Int) < (rowsC s.2).length) = false := decide_eq_false (by omega)
      rw [hH] at hK ⊢
      rw [← hrl] at hK ⊢
      rw [← hrl] at hd
      match rest, hr with
      | [], _ => exact execP_treeC (exB_1 n es cap v22 v23 v24 v25 _ _ _ s.1 (rowsC s.2) _ K) ⟨hd, hK⟩
      | [a], _ => exact execP_treeC (exB_2 n es cap v22 v23 v24 v25 _ _ _ s.1 (rowsC s.2) (rowT a) _ K) ⟨hd, hK⟩
      | [a, b], _ => exact execP_treeC (exB_3 n es cap v22 v23 v24 v25 _ _ _ s.1 (rowsC s.2) (rowT a) (rowT b) _ K) ⟨hd, hK⟩
      | [a, b, c], _ => exact execP_treeC (exB_4 n es cap v22 v23 v24 v25 _ _ _ s.1 (rowsC s.2) (rowT a) (rowT b) (rowT c) _ K) ⟨hd, hK⟩
      | _ :: _ :: _ :: _ :: _, hr => simp at hr
    obtain ⟨⟨e, st'⟩, hr', hx⟩ := key
    refine ⟨(e, st'), hr', ?_⟩
    cases e with
    | normal => exact hx.2.2.2.elim
    | exit j => exact hx
    | ret => exact hx
    | pan v => exact hx
end

end Go.Ai.Cm
