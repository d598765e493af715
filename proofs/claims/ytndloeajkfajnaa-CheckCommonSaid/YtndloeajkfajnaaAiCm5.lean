/-
  CheckCommon: the fields of one stream by two bytes: the whole loop.
-/
import Derived.Test.YtndloeajkfajnaaAiCm4
set_option linter.unusedVariables false
set_option linter.unusedSimpArgs false
namespace Go.Ai.Cm
open Go.Proofs Go.RowKit

/-- The fields that two bytes tell, up to one. -/
def fieldsTo (m1 m2 : Int) : Nat → List Fld
  | 0 => []
  | k + 1 => fieldsTo m1 m2 k ++ (bif bitK m1 k then [(nameK k, kindK m2 k)] else [])
def fieldsM (m1 m2 : Int) : List Fld := fieldsTo m1 m2 6

theorem fieldsTo_le (m1 m2 : Int) : ∀ k, (fieldsTo m1 m2 k).length ≤ k
  | 0 => by simp [fieldsTo]
  | k + 1 => by
    have := fieldsTo_le m1 m2 k
    simp only [fieldsTo, List.length_append]
    cases bitK m1 k <;> simp <;> omega

/-- What must stand behind the loop's own slots. -/
structure TailA (p : Bool) (B : Blk) (R : Tm) (es : List (List AV)) (cap : Option Nat) (i : Int) : Prop where
  l : getT R 0 = .ro 1 es cap
  i5 : getT R 5 = .sc (.int .i64 i)
  car : carried (tmpA p 0 R) (writes bA) [] = [7]
  refs : refsT (placeP p + 1) R = []
  ren : ∀ ids, renT (placeP p + 1) (placeP p + 1) ids R = R
  brefs : p = true → refsBlk 2 B = []
  bren : p = true → ∀ ids, renBlk 2 2 ids B = B

theorem refs_rows {base : Nat} (fs : List Fld) : (rowsC fs).flatMap (refsL base) = [] := by
  rw [List.flatMap_eq_nil_iff]
  intro r hr
  unfold rowsC at hr
  simp only [List.mem_map] at hr
  obtain ⟨f, _, rfl⟩ := hr
  rfl

theorem ren_rows {base tgt : Nat} {ids : List (Nat × Nat)} (fs : List Fld) : (rowsC fs).map (renL base tgt ids) = rowsC fs := by
  conv => rhs; rw [← List.map_id (rowsC fs)]
  refine List.map_congr_left fun r hr => ?_
  unfold rowsC at hr
  simp only [List.mem_map] at hr
  obtain ⟨f, _, rfl⟩ := hr
  rfl

theorem sCell_ren {L g k : Nat} {nm : List UInt8} : renBlk L L [(L, g)] (sCell nm (.sl L g 0 k none)) = sCell nm (.sl L 0 0 k none) := by
  have e : renB L L [(L, g)] L g = some (L, 0) := by
    unfold renB
    rw [if_neg (by omega)]
    simp
  have e2 : renBlk L L [(L, g)] (sCell nm (.sl L g 0 k none)) = sCell nm (match renB L L [(L, g)] L g with | some p => .sl p.1 p.2 0 k none | none => .undef) := by
    simp only [renBlk, sCell, List.map_cons, List.map_nil, renL, ren, strN]
    rfl
  rw [e2, e]

/-- Where a round begins. -/
theorem headA {p : Bool} {B : Blk} {R : Tm} {es : List (List AV)} {cap : Option Nat} {i : Int} (hT : TailA p B R es cap i) (nm : List UInt8) (k g : Nat) (fs : List Fld) (st : St) (h1 : st.n = 148) (h2 : st.defers = []) (h3 : getT st.tmps 7 = intN ((k + 1 : Nat) : Int)) (h4 : st.heap = heapA p B nm g fs) :
    headOf bA (stA p B nm 0 0 [] R) st = stA p B nm (k + 1) 0 fs R := by
  unfold headOf
  rw [show (stA p B nm 0 0 [] R).tmps = tmpA p 0 R from rfl, hT.car]
  unfold nrm
  rw [show (stA p B nm 0 0 [] R).tmps = tmpA p 0 R from rfl, show (stA p B nm 0 0 [] R).heap = preH p B (sCell nm (.sc (.slice none 0 0))) from rfl]
  show compact (preH p B (sCell nm (.sc (.slice none 0 0)))).length ⟨st.n, (7, getT st.tmps 7) :: tmpA p 0 R, st.heap, st.defers⟩ = _
  rw [h1, h2, h3, h4]
  have hl : (preH p B (sCell nm (.sc (.slice none 0 0)))).length = placeP p + 1 := by cases p <;> rfl
  rw [hl]
  cases fs with
  | nil =>
    have : (heapA p B nm g []).length = placeP p + 1 := by cases p <;> rfl
    unfold compact
    rw [if_pos this]
    rfl
  | cons f fs =>
    have hlen : (heapA p B nm g (f :: fs)).length = placeP p + 2 := by cases p <;> rfl
    have hrefs : refsT (placeP p + 1) ((7, intN ((k + 1 : Nat) : Int)) :: tmpA p 0 R) = [] := by
      have h7 : refsT (placeP p + 1) (tmpA p 0 R) = [] := by
        show refs (placeP p + 1) (intN 0) ++ (refs (placeP p + 1) (.ptr (placeP p) 0 0 0) ++ refsT (placeP p + 1) R) = []
        rw [hT.refs]
        simp [refs, intN]
      show refs (placeP p + 1) (intN _) ++ refsT (placeP p + 1) (tmpA p 0 R) = []
      rw [h7]
      simp [refs, intN]
    have hren : ∀ ids, renT (placeP p + 1) (placeP p + 1) ids ((7, intN ((k + 1 : Nat) : Int)) :: tmpA p 0 R) = (7, intN ((k + 1 : Nat) : Int)) :: tmpA p 0 R := fun ids => by
      show (7, _) :: (7, _) :: (6, ren (placeP p + 1) (placeP p + 1) ids (.ptr (placeP p) 0 0 0)) :: renT (placeP p + 1) (placeP p + 1) ids R = _
      rw [hT.ren]
      simp only [ren, renB, intN]
      rw [if_pos (by omega)]
      rfl
    have htake : (heapA p B nm g (f :: fs)).take (placeP p + 1) = preH p B (sCell nm (.sl (placeP p + 1) g 0 (f :: fs).length none)) := by cases p <;> rfl
    have hor : (preH p B (sCell nm (.sl (placeP p + 1) g 0 (f :: fs).length none))).flatMap (refsBlk (placeP p + 1)) = [placeP p + 1] := by
      have hs : refsBlk (placeP p + 1) (sCell nm (.sl (placeP p + 1) g 0 (f :: fs).length none)) = [placeP p + 1] := by
        simp [refsBlk, sCell, refsL, refs, strN]
      cases p with
      | false => simp only [preH, List.flatMap_cons, List.flatMap_nil, hs, List.append_nil]
      | true =>
        have hb : refsBlk (placeP true + 1) B = [] := hT.brefs rfl
        simp only [preH, List.flatMap_cons, List.flatMap_nil, hs, hb, List.append_nil, List.nil_append]
    have hget : (heapA p B nm g (f :: fs))[placeP p + 1]? = some (.cells 2 g (rowsC (f :: fs)) false) := by cases p <;> rfl
    have hreach : reach (placeP p + 1) (heapA p B nm g (f :: fs)) 100000 ([] ++ [placeP p + 1]) [] = [placeP p + 1] := by
      show (if ([] : List Nat).contains (placeP p + 1) = true then _ else reach (placeP p + 1) (heapA p B nm g (f :: fs)) 99999 ((((heapA p B nm g (f :: fs))[placeP p + 1]?).map (refsBlk (placeP p + 1))).getD [] ++ []) [placeP p + 1]) = [placeP p + 1]
      rw [hget]
      show reach (placeP p + 1) (heapA p B nm g (f :: fs)) 99999 ((rowsC (f :: fs)).flatMap (refsL (placeP p + 1)) ++ []) [placeP p + 1] = [placeP p + 1]
      rw [refs_rows]
      rfl
    unfold compact
    rw [if_neg (by rw [hlen]; omega), if_neg (by simp)]
    simp only [htake, hor, hrefs, hreach, hget]
    have hgen : genOf (heapA p B nm g (f :: fs)) (placeP p + 1) = g := by unfold genOf; rw [hget]
    simp only [List.map_cons, List.map_nil, hgen, hren, hget, Option.getD_some]
    have e1 : setGen (renBlk (placeP p + 1) (placeP p + 1) [(placeP p + 1, g)] (.cells 2 g (rowsC (f :: fs)) false)) = .cells 2 0 (rowsC (f :: fs)) false := by
      simp only [renBlk, ren_rows, setGen]
    rw [e1]
    simp only [List.isEmpty_cons, Bool.false_eq_true, if_false]
    cases p with
    | false =>
      simp only [preH, List.map_cons, List.map_nil]
      rw [show placeP false + 1 = 1 from rfl, sCell_ren]
      rfl
    | true =>
      simp only [preH, List.map_cons, List.map_nil]
      rw [show placeP true + 1 = 2 from rfl, sCell_ren, hT.bren rfl]
      rfl

theorem execP_treeC {C : Ctx} {D : Con C} {S : Script} {n : Nat} {c : Code} {st : St} {K : Ex → St → Prop} {p : Prop} (h : execP C D n S c st K = p) (hp : p) : ∃ r, exec C n c st = some r ∧ K r.1 r.2 := by
  rw [← h] at hp
  exact execP_sound n S c st K hp

section
variable (n : Nat) (es : List (List AV)) (cap : Option Nat) (i m1 m2 : Int) (R : Tm) (B : Blk) (nm : List UInt8) (Q : AV → List Blk → Prop) (X : Ex → St → Prop)

theorem skA (p : Bool) {k : Nat} (hk : k < 6) {fs : List Fld} (hq : fs.length ≤ k) : execP CV (noCon CV) (n+40) { op := hA (.ro 1 es cap) i m1 m2 false, inl := inlV } bA (stA p B nm k 0 fs R) (KQ Q X) =
    skipR es cap i m1 k R (148 = 148 ∧ ([] : List (FuncId × List AV)) = [] ∧ Q (intN (IntKind.i64.wrap (k + 1))) (heapA p B nm 0 fs)) := by
  have hk' : k = 0 ∨ k = 1 ∨ k = 2 ∨ k = 3 ∨ k = 4 ∨ k = 5 := by omega
  cases p
  rotate_left
  · rcases hk' with rfl | rfl | rfl | rfl | rfl | rfl
    · match fs, hq with
      | [], _ => exact sk_t00 n es cap i m1 m2 R B nm  Q X
      | _ :: _, h => simp at h
    · match fs, hq with
      | [], _ => exact sk_t10 n es cap i m1 m2 R B nm  Q X
      | [a], _ => exact sk_t11 n es cap i m1 m2 R B nm a Q X
      | _ :: _ :: _, h => simp at h
    · match fs, hq with
      | [], _ => exact sk_t20 n es cap i m1 m2 R B nm  Q X
      | [a], _ => exact sk_t21 n es cap i m1 m2 R B nm a Q X
      | [a, b], _ => exact sk_t22 n es cap i m1 m2 R B nm a b Q X
      | _ :: _ :: _ :: _, h => simp at h
    · match fs, hq with
      | [], _ => exact sk_t30 n es cap i m1 m2 R B nm  Q X
      | [a], _ => exact sk_t31 n es cap i m1 m2 R B nm a Q X
      | [a, b], _ => exact sk_t32 n es cap i m1 m2 R B nm a b Q X
      | [a, b, c], _ => exact sk_t33 n es cap i m1 m2 R B nm a b c Q X
      | _ :: _ :: _ :: _ :: _, h => simp at h
    · match fs, hq with
      | [], _ => exact sk_t40 n es cap i m1 m2 R B nm  Q X
      | [a], _ => exact sk_t41 n es cap i m1 m2 R B nm a Q X
      | [a, b], _ => exact sk_t42 n es cap i m1 m2 R B nm a b Q X
      | [a, b, c], _ => exact sk_t43 n es cap i m1 m2 R B nm a b c Q X
      | [a, b, c, d], _ => exact sk_t44 n es cap i m1 m2 R B nm a b c d Q X
      | _ :: _ :: _ :: _ :: _ :: _, h => simp at h
    · match fs, hq with
      | [], _ => exact sk_t50 n es cap i m1 m2 R B nm  Q X
      | [a], _ => exact sk_t51 n es cap i m1 m2 R B nm a Q X
      | [a, b], _ => exact sk_t52 n es cap i m1 m2 R B nm a b Q X
      | [a, b, c], _ => exact sk_t53 n es cap i m1 m2 R B nm a b c Q X
      | [a, b, c, d], _ => exact sk_t54 n es cap i m1 m2 R B nm a b c d Q X
      | [a, b, c, d, e], _ => exact sk_t55 n es cap i m1 m2 R B nm a b c d e Q X
      | _ :: _ :: _ :: _ :: _ :: _ :: _, h => simp at h
  · rcases hk' with rfl | rfl | rfl | rfl | rfl | rfl
    · match fs, hq with
      | [], _ => exact sk_f00 n es cap i m1 m2 R B nm  Q X
      | _ :: _, h => simp at h
    · match fs, hq with
      | [], _ => exact sk_f10 n es cap i m1 m2 R B nm  Q X
      | [a], _ => exact sk_f11 n es cap i m1 m2 R B nm a Q X
      | _ :: _ :: _, h => simp at h
    · match fs, hq with
      | [], _ => exact sk_f20 n es cap i m1 m2 R B nm  Q X
      | [a], _ => exact sk_f21 n es cap i m1 m2 R B nm a Q X
      | [a, b], _ => exact sk_f22 n es cap i m1 m2 R B nm a b Q X
      | _ :: _ :: _ :: _, h => simp at h
    · match fs, hq with
      | [], _ => exact sk_f30 n es cap i m1 m2 R B nm  Q X
      | [a], _ => exact sk_f31 n es cap i m1 m2 R B nm a Q X
      | [a, b], _ => exact sk_f32 n es cap i m1 m2 R B nm a b Q X
      | [a, b, c], _ => exact sk_f33 n es cap i m1 m2 R B nm a b c Q X
      | _ :: _ :: _ :: _ :: _, h => simp at h
    · match fs, hq with
      | [], _ => exact sk_f40 n es cap i m1 m2 R B nm  Q X
      | [a], _ => exact sk_f41 n es cap i m1 m2 R B nm a Q X
      | [a, b], _ => exact sk_f42 n es cap i m1 m2 R B nm a b Q X
      | [a, b, c], _ => exact sk_f43 n es cap i m1 m2 R B nm a b c Q X
      | [a, b, c, d], _ => exact sk_f44 n es cap i m1 m2 R B nm a b c d Q X
      | _ :: _ :: _ :: _ :: _ :: _, h => simp at h
    · match fs, hq with
      | [], _ => exact sk_f50 n es cap i m1 m2 R B nm  Q X
      | [a], _ => exact sk_f51 n es cap i m1 m2 R B nm a Q X
      | [a, b], _ => exact sk_f52 n es cap i m1 m2 R B nm a b Q X
      | [a, b, c], _ => exact sk_f53 n es cap i m1 m2 R B nm a b c Q X
      | [a, b, c, d], _ => exact sk_f54 n es cap i m1 m2 R B nm a b c d Q X
      | [a, b, c, d, e], _ => exact sk_f55 n es cap i m1 m2 R B nm a b c d e Q X
      | _ :: _ :: _ :: _ :: _ :: _ :: _, h => simp at h

/-- How the slice stands once one was appended. -/
def genG (fs : List Fld) : Nat := match fs with
  | [] => 0
  | _ :: _ => 1

theorem grA (p : Bool) {k : Nat} (hk : k < 6) {fs : List Fld} (hq : fs.length ≤ k) : execP CV (noCon CV) (n+40) { op := hA (.ro 1 es cap) i m1 m2 true, inl := inlV } bA (stA p B nm k 0 fs R) (KQ Q X) =
    growR es cap i m1 m2 k R (148 = 148 ∧ ([] : List (FuncId × List AV)) = [] ∧ Q (intN (IntKind.i64.wrap (k + 1))) (heapA p B nm (genG fs) (fs ++ [(nameK k, kindK m2 k)]))) := by
  have hk' : k = 0 ∨ k = 1 ∨ k = 2 ∨ k = 3 ∨ k = 4 ∨ k = 5 := by omega
  cases p
  rotate_left
  · rcases hk' with rfl | rfl | rfl | rfl | rfl | rfl
    · match fs, hq with
      | [], _ => exact gr_t00 n es cap i m1 m2 R B nm  Q X
      | _ :: _, h => simp at h
    · match fs, hq with
      | [], _ => exact gr_t10 n es cap i m1 m2 R B nm  Q X
      | [a], _ => exact gr_t11 n es cap i m1 m2 R B nm a Q X
      | _ :: _ :: _, h => simp at h
    · match fs, hq with
      | [], _ => exact gr_t20 n es cap i m1 m2 R B nm  Q X
      | [a], _ => exact gr_t21 n es cap i m1 m2 R B nm a Q X
      | [a, b], _ => exact gr_t22 n es cap i m1 m2 R B nm a b Q X
      | _ :: _ :: _ :: _, h => simp at h
    · match fs, hq with
      | [], _ => exact gr_t30 n es cap i m1 m2 R B nm  Q X
      | [a], _ => exact gr_t31 n es cap i m1 m2 R B nm a Q X
      | [a, b], _ => exact gr_t32 n es cap i m1 m2 R B nm a b Q X
      | [a, b, c], _ => exact gr_t33 n es cap i m1 m2 R B nm a b c Q X
      | _ :: _ :: _ :: _ :: _, h => simp at h
    · match fs, hq with
      | [], _ => exact gr_t40 n es cap i m1 m2 R B nm  Q X
      | [a], _ => exact gr_t41 n es cap i m1 m2 R B nm a Q X
      | [a, b], _ => exact gr_t42 n es cap i m1 m2 R B nm a b Q X
      | [a, b, c], _ => exact gr_t43 n es cap i m1 m2 R B nm a b c Q X
      | [a, b, c, d], _ => exact gr_t44 n es cap i m1 m2 R B nm a b c d Q X
      | _ :: _ :: _ :: _ :: _ :: _, h => simp at h
    · match fs, hq with
      | [], _ => exact gr_t50 n es cap i m1 m2 R B nm  Q X
      | [a], _ => exact gr_t51 n es cap i m1 m2 R B nm a Q X
      | [a, b], _ => exact gr_t52 n es cap i m1 m2 R B nm a b Q X
      | [a, b, c], _ => exact gr_t53 n es cap i m1 m2 R B nm a b c Q X
      | [a, b, c, d], _ => exact gr_t54 n es cap i m1 m2 R B nm a b c d Q X
      | [a, b, c, d, e], _ => exact gr_t55 n es cap i m1 m2 R B nm a b c d e Q X
      | _ :: _ :: _ :: _ :: _ :: _ :: _, h => simp at h
  · rcases hk' with rfl | rfl | rfl | rfl | rfl | rfl
    · match fs, hq with
      | [], _ => exact gr_f00 n es cap i m1 m2 R B nm  Q X
      | _ :: _, h => simp at h
    · match fs, hq with
      | [], _ => exact gr_f10 n es cap i m1 m2 R B nm  Q X
      | [a], _ => exact gr_f11 n es cap i m1 m2 R B nm a Q X
      | _ :: _ :: _, h => simp at h
    · match fs, hq with
      | [], _ => exact gr_f20 n es cap i m1 m2 R B nm  Q X
      | [a], _ => exact gr_f21 n es cap i m1 m2 R B nm a Q X
      | [a, b], _ => exact gr_f22 n es cap i m1 m2 R B nm a b Q X
      | _ :: _ :: _ :: _, h => simp at h
    · match fs, hq with
      | [], _ => exact gr_f30 n es cap i m1 m2 R B nm  Q X
      | [a], _ => exact gr_f31 n es cap i m1 m2 R B nm a Q X
      | [a, b], _ => exact gr_f32 n es cap i m1 m2 R B nm a b Q X
      | [a, b, c], _ => exact gr_f33 n es cap i m1 m2 R B nm a b c Q X
      | _ :: _ :: _ :: _ :: _, h => simp at h
    · match fs, hq with
      | [], _ => exact gr_f40 n es cap i m1 m2 R B nm  Q X
      | [a], _ => exact gr_f41 n es cap i m1 m2 R B nm a Q X
      | [a, b], _ => exact gr_f42 n es cap i m1 m2 R B nm a b Q X
      | [a, b, c], _ => exact gr_f43 n es cap i m1 m2 R B nm a b c Q X
      | [a, b, c, d], _ => exact gr_f44 n es cap i m1 m2 R B nm a b c d Q X
      | _ :: _ :: _ :: _ :: _ :: _, h => simp at h
    · match fs, hq with
      | [], _ => exact gr_f50 n es cap i m1 m2 R B nm  Q X
      | [a], _ => exact gr_f51 n es cap i m1 m2 R B nm a Q X
      | [a, b], _ => exact gr_f52 n es cap i m1 m2 R B nm a b Q X
      | [a, b, c], _ => exact gr_f53 n es cap i m1 m2 R B nm a b c Q X
      | [a, b, c, d], _ => exact gr_f54 n es cap i m1 m2 R B nm a b c d Q X
      | [a, b, c, d, e], _ => exact gr_f55 n es cap i m1 m2 R B nm a b c d e Q X
      | _ :: _ :: _ :: _ :: _ :: _ :: _, h => simp at h

theorem exA (p : Bool) {fs : List Fld} (hq : fs.length ≤ 6) : execP CV (noCon CV) (n+40) { op := hA (.ro 1 es cap) i m1 m2 false, inl := inlV } bA (stA p B nm 6 0 fs R) (KQ Q X) =
    X (.exit 2) ⟨148, (31, .sc (.bool false)) :: (30, intN 6) :: tmpA p 6 R, heapA p B nm 0 fs, []⟩ := by
  cases p
  rotate_left
  · match fs, hq with
    | [], _ => exact ex_t0 n es cap i m1 m2 R B nm  Q X
    | [a], _ => exact ex_t1 n es cap i m1 m2 R B nm a Q X
    | [a, b], _ => exact ex_t2 n es cap i m1 m2 R B nm a b Q X
    | [a, b, c], _ => exact ex_t3 n es cap i m1 m2 R B nm a b c Q X
    | [a, b, c, d], _ => exact ex_t4 n es cap i m1 m2 R B nm a b c d Q X
    | [a, b, c, d, e], _ => exact ex_t5 n es cap i m1 m2 R B nm a b c d e Q X
    | [a, b, c, d, e, g], _ => exact ex_t6 n es cap i m1 m2 R B nm a b c d e g Q X
    | _ :: _ :: _ :: _ :: _ :: _ :: _ :: _, h => simp at h
  · match fs, hq with
    | [], _ => exact ex_f0 n es cap i m1 m2 R B nm  Q X
    | [a], _ => exact ex_f1 n es cap i m1 m2 R B nm a Q X
    | [a, b], _ => exact ex_f2 n es cap i m1 m2 R B nm a b Q X
    | [a, b, c], _ => exact ex_f3 n es cap i m1 m2 R B nm a b c Q X
    | [a, b, c, d], _ => exact ex_f4 n es cap i m1 m2 R B nm a b c d Q X
    | [a, b, c, d, e], _ => exact ex_f5 n es cap i m1 m2 R B nm a b c d e Q X
    | [a, b, c, d, e, g], _ => exact ex_f6 n es cap i m1 m2 R B nm a b c d e g Q X
    | _ :: _ :: _ :: _ :: _ :: _ :: _ :: _, h => simp at h
end

/-- What is told of the loop. -/
def TA (p : Bool) (B : Blk) (nm : List UInt8) (R : Tm) (es : List (List AV)) (cap : Option Nat) (i m1 m2 : Int) (st : St) (K : Ex → St → Prop) : Prop :=
  st = stA p B nm 0 0 [] R ∧ TailA p B R es cap i ∧ idxE es i [.sc (.int .u8 m1)] ∧ idxE es (IntKind.i64.wrap (i + 1)) [.sc (.int .u8 m2)] ∧
    K (.exit 2) ⟨148, (31, .sc (.bool false)) :: (30, intN 6) :: tmpA p 6 R, heapA p B nm 0 (fieldsM m1 m2), []⟩

theorem loopA (n : Nat) (p : Bool) (B : Blk) (nm : List UInt8) (R : Tm) (es : List (List AV)) (cap : Option Nat) (i m1 m2 : Int) : LoopOK CV (n + 100) bA (TA p B nm R es cap i m1 m2) := by
  refine loopOK_of fun st K hT => ?_
  obtain ⟨rfl, ht, h1, h2, hK⟩ := hT
  refine ⟨fun m st => ∃ k : Nat, k ≤ 6 ∧ m = 6 - k ∧ st = stA p B nm k 0 (fieldsTo m1 m2 k) R, 6, by omega, ⟨0, by omega, rfl, rfl⟩, ?_⟩
  rintro m st ⟨k, hk, rfl, rfl⟩
  by_cases h6 : k < 6
  · have hw : IntKind.i64.wrap ((k : Int) + 1) = ((k + 1 : Nat) : Int) := by rw [wrap_i64]; omega
    have hq := fieldsTo_le m1 m2 k
    have done : ∀ (g : Nat) (r : Ex × St), exec CV (n + 60 + 40) bA (stA p B nm k 0 (fieldsTo m1 m2 k) R) = some r → KQ (fun v H => v = intN ((k + 1 : Nat) : Int) ∧ H = heapA p B nm g (fieldsTo m1 m2 (k + 1))) K r.1 r.2 →
        ∃ r, exec CV (n + 100) bA (stA p B nm k 0 (fieldsTo m1 m2 k) R) = some r ∧ match r.1 with | .normal => ∃ m', m' < 6 - k ∧ ∃ k : Nat, k ≤ 6 ∧ m' = 6 - k ∧ headOf bA (stA p B nm 0 0 [] R) r.2 = stA p B nm k 0 (fieldsTo m1 m2 k) R | e => K e r.2 := by
      rintro g ⟨e, st'⟩ hr hx
      refine ⟨(e, st'), hr, ?_⟩
      cases e with
      | normal =>
        obtain ⟨g1, g2, g3, g4⟩ := hx
        exact ⟨6 - (k + 1), by omega, k + 1, by omega, rfl, headA ht nm k g _ st' g1 g2 g3 g4⟩
      | exit j => exact hx
      | ret => exact hx
      | pan v => exact hx
    cases hb : bitK m1 k with
    | false =>
      have e : fieldsTo m1 m2 (k + 1) = fieldsTo m1 m2 k := by simp only [fieldsTo, hb]; simp
      obtain ⟨r, hr, hx⟩ := execP_treeC (skA (n + 60) es cap i m1 m2 R B nm (fun v H => v = intN ((k + 1 : Nat) : Int) ∧ H = heapA p B nm 0 (fieldsTo m1 m2 (k + 1))) K p h6 hq) ⟨ht.l, ht.i5, h1, hb, rfl, rfl, by rw [hw], by rw [e]⟩
      exact done 0 r hr hx
    | true =>
      have e : fieldsTo m1 m2 (k + 1) = fieldsTo m1 m2 k ++ [(nameK k, kindK m2 k)] := by simp only [fieldsTo, hb]; simp
      obtain ⟨r, hr, hx⟩ := execP_treeC (grA (n + 60) es cap i m1 m2 R B nm (fun v H => v = intN ((k + 1 : Nat) : Int) ∧ H = heapA p B nm (genG (fieldsTo m1 m2 k)) (fieldsTo m1 m2 (k + 1))) K p h6 hq) ⟨ht.l, ht.i5, h1, hb, ht.l, ht.i5, h2, rfl, rfl, by rw [hw], by rw [e]⟩
      exact done _ r hr hx
  · have h6 : k = 6 := by omega
    subst h6
    obtain ⟨r, hr, hx⟩ := execP_treeC (exA (n + 60) es cap i m1 m2 R B nm (fun _ _ => False) K p (fieldsTo_le m1 m2 6)) hK
    refine ⟨r, hr, ?_⟩
    obtain ⟨e, st'⟩ := r
    cases e with
    | normal => exact hx.2.2.elim
    | exit j => exact hx
    | ret => exact hx
    | pan v => exact hx

end Go.Ai.Cm
