/-
  CheckViews: the run comes to true.
-/
import Derived.Test.YtndloeajkfajnaaAiVw2
set_option linter.unusedVariables false
set_option linter.unusedSimpArgs false
namespace Go.Ai
open Go.Proofs Go.RowKit

/-! ### At -/

theorem at_00 (K : CRes → Prop) : callP CV { inl := inlV } 200 45 [streamJ 0, strN [107]] [] (fun r _ => K r) = K (.ret (intN 0)) := by kernel_rfl
theorem at_01 (K : CRes → Prop) : callP CV { inl := inlV } 200 45 [streamJ 0, strN [120]] [] (fun r _ => K r) = K (.ret (intN 1)) := by kernel_rfl
theorem at_0n (K : CRes → Prop) : callP CV { inl := inlV } 200 45 [streamJ 0, strN noneN] [] (fun r _ => K r) = K (.ret (intN (-1))) := by kernel_rfl
theorem at_10 (K : CRes → Prop) : callP CV { inl := inlV } 200 45 [streamJ 1, strN [107]] [] (fun r _ => K r) = K (.ret (intN 0)) := by kernel_rfl
theorem at_11 (K : CRes → Prop) : callP CV { inl := inlV } 200 45 [streamJ 1, strN [121]] [] (fun r _ => K r) = K (.ret (intN 1)) := by kernel_rfl
theorem at_12 (K : CRes → Prop) : callP CV { inl := inlV } 200 45 [streamJ 1, strN [115]] [] (fun r _ => K r) = K (.ret (intN 2)) := by kernel_rfl
theorem at_1n (K : CRes → Prop) : callP CV { inl := inlV } 200 45 [streamJ 1, strN noneN] [] (fun r _ => K r) = K (.ret (intN (-1))) := by kernel_rfl
theorem at_20 (K : CRes → Prop) : callP CV { inl := inlV } 200 45 [streamJ 2, strN [107]] [] (fun r _ => K r) = K (.ret (intN 0)) := by kernel_rfl
theorem at_21 (K : CRes → Prop) : callP CV { inl := inlV } 200 45 [streamJ 2, strN [120]] [] (fun r _ => K r) = K (.ret (intN 1)) := by kernel_rfl
theorem at_22 (K : CRes → Prop) : callP CV { inl := inlV } 200 45 [streamJ 2, strN [116]] [] (fun r _ => K r) = K (.ret (intN 2)) := by kernel_rfl
theorem at_2n (K : CRes → Prop) : callP CV { inl := inlV } 200 45 [streamJ 2, strN noneN] [] (fun r _ => K r) = K (.ret (intN (-1))) := by kernel_rfl

def nilV : Vl := ⟨0, 0, []⟩
def sizeJ (j : Nat) : Nat := (fieldsJ j).length
def nmJ (j c : Nat) : List UInt8 := ((fieldsJ j).getD c ([], 0)).1
def kdJ (j c : Nat) : Nat := ((fieldsJ j).getD c ([], 0)).2
def SJ (j : Nat) : List AV := streamC (nameJ j) (rowsJ j) (some (fieldsJ j).length)

theorem at_ends {j c : Nat} (hj : j = 0 ∨ j = 1 ∨ j = 2) (hc : c < sizeJ j) : ToEndV 200 45 [.agg (SJ j), strN (nmJ j c)] (.ret (intN c)) := by
  rcases hj with rfl | rfl | rfl
  · have : c = 0 ∨ c = 1 := by have : c < 2 := hc; omega
    rcases this with rfl | rfl
    · exact ToEndV.of (at_00 _) rfl
    · exact ToEndV.of (at_01 _) rfl
  · have : c = 0 ∨ c = 1 ∨ c = 2 := by have : c < 3 := hc; omega
    rcases this with rfl | rfl | rfl
    · exact ToEndV.of (at_10 _) rfl
    · exact ToEndV.of (at_11 _) rfl
    · exact ToEndV.of (at_12 _) rfl
  · have : c = 0 ∨ c = 1 ∨ c = 2 := by have : c < 3 := hc; omega
    rcases this with rfl | rfl | rfl
    · exact ToEndV.of (at_20 _) rfl
    · exact ToEndV.of (at_21 _) rfl
    · exact ToEndV.of (at_22 _) rfl

theorem at_none {j : Nat} (hj : j = 0 ∨ j = 1 ∨ j = 2) : ToEndV 200 45 [.agg (SJ j), strN noneN] (.ret (intN (-1))) := by
  rcases hj with rfl | rfl | rfl
  · exact ToEndV.of (at_0n _) rfl
  · exact ToEndV.of (at_1n _) rfl
  · exact ToEndV.of (at_2n _) rfl

theorem at45_of {n : Nat} {S : List AV} {nm : List UInt8} {p : Int → Prop} {i : Int} (hd : isDataL S = true) (h : ToEndV 200 45 [.agg S, strN nm] (.ret (intN i))) (hn : 200 ≤ n) (hp : p i) : at45 n S nm p := ⟨hd, i, h.mono hn, hp⟩

theorem SJ_data (j : Nat) : isDataL (SJ j) = true := rfl

/-! ### rows of values -/

theorem idxE_of {rows : List (List AV)} {i : Int} {row : List AV} (h0 : 0 ≤ i) (h : rows[i.toNat]? = some row) : idxE rows i row := by
  unfold idxE
  rw [if_neg (by omega), h]
  rfl

def valsRows (vs : List Vl) : List (List AV) := vs.map Vl.row

theorem valsRows_get {vs : List Vl} {c : Nat} (h : c < vs.length) : (valsRows vs)[c]? = some (vs.getD c nilV).row := by
  unfold valsRows
  rw [List.getElem?_map, List.getElem?_eq_getElem h]
  simp [List.getD_eq_getElem?_getD, List.getElem?_eq_getElem h]

theorem rowsV_get (vl : Nat → Vl) (tail : List (List AV)) : ∀ (m k i : Nat), i < m → (rowsV vl m k tail)[i]? = some (vl (k + i)).row
  | 0, _, _, h => by omega
  | m + 1, k, 0, _ => rfl
  | m + 1, k, i + 1, h => by
    simp only [rowsV, List.getElem?_cons_succ]
    rw [rowsV_get vl tail m (k + 1) i (by omega), show k + 1 + i = k + (i + 1) by omega]

theorem rowsV_last (vl : Nat → Vl) (t : List AV) : ∀ (m k : Nat), (rowsV vl m k [t])[m]? = some t
  | 0, _ => rfl
  | m + 1, k => by
    simp only [rowsV, List.getElem?_cons_succ]
    exact rowsV_last vl t m (k + 1)

theorem rowsV_length (vl : Nat → Vl) (tail : List (List AV)) : ∀ (m k : Nat), (rowsV vl m k tail).length = m + tail.length
  | 0, _ => by simp [rowsV]
  | m + 1, k => by simp only [rowsV, List.length_cons]; rw [rowsV_length vl tail m (k + 1)]; omega

/-! ### one -/

def byteV (b : Int) : Prop := 0 ≤ b ∧ b < 256

theorem valR_of {kd : Nat} {b : Int} {k : List AV → Prop} (hb : byteV b) (h : ∀ v : Vl, k v.row) : valR kd b k := by
  unfold valR
  split
  · exact h ⟨1, IntKind.i64.wrap (b - 100), []⟩
  · exact h ⟨2, b.tmod 2, []⟩
  · refine ⟨?_, fun s _ => h ⟨3, 0, s.data.toList⟩⟩
    have hb0 := hb.1
    have e : b.tmod 4 = b % 4 := Int.tmod_eq_emod_of_nonneg hb0
    have : b.tmod 4 = 0 ∨ b.tmod 4 = 1 ∨ b.tmod 4 = 2 ∨ b.tmod 4 = 3 := by omega
    unfold pick4
    rcases this with g | g | g | g <;> rw [g]
    · exact ⟨⟨⟨[]⟩⟩, rfl, by unfold shortT; decide⟩
    · exact ⟨⟨⟨[97]⟩⟩, rfl, by unfold shortT; decide⟩
    · exact ⟨⟨⟨[98]⟩⟩, rfl, by unfold shortT; decide⟩
    · exact ⟨⟨⟨[97, 98]⟩⟩, rfl, by unfold shortT; decide⟩

theorem oneR_of {es : List (List AV)} {at_ : Int} {lb : Nat → Int} (h0 : 0 ≤ at_) (h1 : at_ < 256) (hes : ∀ i : Nat, at_ + i < es.length → es[(at_ + i).toNat]? = some [.sc (.int .u8 (lb i))]) (hlb : ∀ i, byteV (lb i)) : ∀ (kds : List Nat) (i : Nat) (acc : List Vl) (K : List (List AV) → Prop),
    i + kds.length < 10 → (∀ vs : List Vl, vs.length = acc.length + kds.length → K (valsRows vs)) → oneR es at_ lb kds i (valsRows acc) K
  | [], i, acc, K, _, hk => hk acc (by simp)
  | kd :: kds, i, acc, K, hi, hk => by
    have next : ∀ v : Vl, oneR es at_ lb kds (i + 1) (valsRows acc ++ [v.row]) K := fun v => by
      have := oneR_of h0 h1 hes hlb kds (i + 1) (acc ++ [v]) K (by simp only [List.length_cons] at hi; omega) fun vs hv => hk vs (by simp only [List.length_append, List.length_cons, List.length_nil] at hv ⊢; omega)
      rwa [show valsRows (acc ++ [v]) = valsRows acc ++ [v.row] by simp [valsRows]] at this
    have hw : IntKind.i64.wrap (at_ + i) = at_ + i := by rw [wrap_i64]; simp only [List.length_cons] at hi; omega
    have hwb : IntKind.i64.wrap (lb i) = lb i := by have := hlb i; unfold byteV at this; rw [wrap_i64]; omega
    refine bothQ_of (fun h => ⟨?_, ?_⟩) fun _ => valR_of ⟨by decide, by decide⟩ next
    · rw [hw]
      refine idxE_of (by omega) (hes i ?_)
      rw [hw] at h
      exact of_decide_eq_true h
    · rw [hwb]
      exact valR_of (hlb i) next

theorem oneN_of {at_ : Int} (h0 : 0 ≤ at_) (h1 : at_ < 256) : ∀ (kds : List Nat) (i : Nat) (acc : List Vl) (K : List (List AV) → Prop),
    i + kds.length < 10 → (∀ vs : List Vl, vs.length = acc.length + kds.length → K (valsRows vs)) → oneN at_ kds i (valsRows acc) K
  | [], i, acc, K, _, hk => hk acc (by simp)
  | kd :: kds, i, acc, K, hi, hk => by
    have next : ∀ v : Vl, oneN at_ kds (i + 1) (valsRows acc ++ [v.row]) K := fun v => by
      have := oneN_of h0 h1 kds (i + 1) (acc ++ [v]) K (by simp only [List.length_cons] at hi; omega) fun vs hv => hk vs (by simp only [List.length_append, List.length_cons, List.length_nil] at hv ⊢; omega)
      rwa [show valsRows (acc ++ [v]) = valsRows acc ++ [v.row] by simp [valsRows]] at this
    have hw : IntKind.i64.wrap (at_ + i) = at_ + i := by rw [wrap_i64]; simp only [List.length_cons] at hi; omega
    exact ⟨by rw [hw]; exact decide_eq_false (by omega), valR_of ⟨by decide, by decide⟩ next⟩

theorem one_ends {bs : List Int} {l : AV} (hl : IsM bs l) {j : Nat} (hj : j = 0 ∨ j = 1 ∨ j = 2) {at_ : Int} (h0 : 0 ≤ at_) (h1 : at_ < 256) : ∃ vs : List Vl, vs.length = sizeJ j ∧ ToEndZ 200 47 [.agg (SJ j), l, intN at_] (eventA at_ (valsRows vs) none) := by
  let Q : AV → Prop := fun v => ∃ vs : List Vl, vs.length = sizeJ j ∧ v = eventA at_ (valsRows vs) none
  have hq : ∀ vs : List Vl, vs.length = ([] : List Vl).length + (kindsOf (fieldsJ j)).length → Q (eventA at_ (valsRows vs) none) := fun vs hv => ⟨vs, by rw [hv]; simp [kindsOf, sizeJ], rfl⟩
  have hk : 0 + (kindsOf (fieldsJ j)).length < 10 := by rcases hj with rfl | rfl | rfl <;> decide
  suffices h : ∃ v, Q v ∧ ToEndZ (100 + 100) 47 [.agg (SJ j), l, intN at_] v by
    obtain ⟨v, ⟨vs, hv, rfl⟩, ht⟩ := h
    exact ⟨vs, hv, ht⟩
  rcases hl.form with ⟨cap, rfl⟩ | ⟨hb, rfl⟩
  · have hes : ∀ i : Nat, at_ + i < (mRows bs).length → (mRows bs)[(at_ + i).toNat]? = some [.sc (.int .u8 (byteAt bs (at_ + i)))] := fun i hi => by
      have hll : (mRows bs).length = bs.length := by simp [mRows]
      have hlt : (at_ + i).toNat < bs.length := by omega
      unfold mRows byteAt
      rw [List.getElem?_map, List.getElem?_eq_getElem hlt, if_pos (by omega), List.getD_eq_getElem?_getD, List.getElem?_eq_getElem hlt]
      rfl
    have r := oneR_of h0 h1 hes (fun i => byteAt_range hl.byte _) (kindsOf (fieldsJ j)) 0 [] (fun rows => Q (eventA at_ rows none)) hk hq
    rcases hj with rfl | rfl | rfl
    · exact ToEndZ.ofQ (tree47_0 100 (mRows bs) cap at_ (fun i => byteAt bs (at_ + i)) Q) r
    · exact ToEndZ.ofQ (tree47_1 100 (mRows bs) cap at_ (fun i => byteAt bs (at_ + i)) Q) r
    · exact ToEndZ.ofQ (tree47_2 100 (mRows bs) cap at_ (fun i => byteAt bs (at_ + i)) Q) r
  · have r := oneN_of h0 h1 (kindsOf (fieldsJ j)) 0 [] (fun rows => Q (eventA at_ rows none)) hk hq
    rcases hj with rfl | rfl | rfl
    · exact ToEndZ.ofQ (tree47n_0 100 at_ Q) r
    · exact ToEndZ.ofQ (tree47n_1 100 at_ Q) r
    · exact ToEndZ.ofQ (tree47n_2 100 at_ Q) r

/-! ### View -/

theorem viewR_of {n : Nat} (hn : 200 ≤ n) {j : Nat} (hj : j = 0 ∨ j = 1 ∨ j = 2) {vs : List Vl} (hv : vs.length = sizeJ j) {c : Nat → Nat} (hc : ∀ k, c k < sizeJ j) {next : Prop} (hx : next) : ∀ (m k : Nat),
    viewR n (SJ j) (fun k => nmJ j (c k)) (valsRows vs) (fun k => vs.getD (c k) nilV) m k next
  | 0, _ => hx
  | m + 1, k => at45_of (SJ_data j) (at_ends hj (hc k)) hn ⟨decide_eq_true (by omega), decide_eq_true (by have := hc k; simp [valsRows]; omega), idxE_of (by omega) (by
      rw [show ((c k : Nat) : Int).toNat = c k by omega]; exact valsRows_get (by rw [hv]; exact hc k)), viewR_of hn hj hv hc hx m (k + 1)⟩

/-- What is shown of some fields, and of one that is not there. -/
theorem view_some {j : Nat} (hj : j = 0 ∨ j = 1 ∨ j = 2) {vs : List Vl} (hv : vs.length = sizeJ j) {c : Nat → Nat} (hc : ∀ k, c k < sizeJ j) (t : Int) (ecap : Option Nat) (r : Nat) (hr : r ≤ 8) :
    ToEndZ 300 48 [.agg (SJ j), .ro 2 (rowsF (fun k => nmJ j (c k)) (fun k => kdJ j (c k)) r 0 [fieldRow noneN 1]) none, eventA t (valsRows vs) ecap] (eventA t (rowsV (fun k => vs.getD (c k) nilV) r 0 [zeroRow]) (some (r + 1))) := by
  have key : ∀ {p : Prop}, p → viewR (200 + 87) (SJ j) (fun k => nmJ j (c k)) (valsRows vs) (fun k => vs.getD (c k) nilV) r 0 (at45 (200 + 87) (SJ j) noneN fun i => decide (i ≥ 0) = false ∧ p) := fun hp =>
    viewR_of (by omega) hj hv hc (at45_of (SJ_data j) (at_none hj) (by omega) ⟨rfl, hp⟩) r 0
  have : r = 0 ∨ r = 1 ∨ r = 2 ∨ r = 3 ∨ r = 4 ∨ r = 5 ∨ r = 6 ∨ r = 7 ∨ r = 8 := by omega
  rcases this with rfl | rfl | rfl | rfl | rfl | rfl | rfl | rfl | rfl
  · exact ToEndZ.ofC (tree48n0 200 (nameJ j) (rowsJ j) (some (fieldsJ j).length) (fun k => nmJ j (c k)) (fun k => kdJ j (c k)) none t (valsRows vs) ecap (fun k => vs.getD (c k) nilV) _) (key rfl)
  · exact ToEndZ.ofC (tree48n1 200 (nameJ j) (rowsJ j) (some (fieldsJ j).length) (fun k => nmJ j (c k)) (fun k => kdJ j (c k)) none t (valsRows vs) ecap (fun k => vs.getD (c k) nilV) _) (key rfl)
  · exact ToEndZ.ofC (tree48n2 200 (nameJ j) (rowsJ j) (some (fieldsJ j).length) (fun k => nmJ j (c k)) (fun k => kdJ j (c k)) none t (valsRows vs) ecap (fun k => vs.getD (c k) nilV) _) (key rfl)
  · exact ToEndZ.ofC (tree48n3 200 (nameJ j) (rowsJ j) (some (fieldsJ j).length) (fun k => nmJ j (c k)) (fun k => kdJ j (c k)) none t (valsRows vs) ecap (fun k => vs.getD (c k) nilV) _) (key rfl)
  · exact ToEndZ.ofC (tree48n4 200 (nameJ j) (rowsJ j) (some (fieldsJ j).length) (fun k => nmJ j (c k)) (fun k => kdJ j (c k)) none t (valsRows vs) ecap (fun k => vs.getD (c k) nilV) _) (key rfl)
  · exact ToEndZ.ofC (tree48n5 200 (nameJ j) (rowsJ j) (some (fieldsJ j).length) (fun k => nmJ j (c k)) (fun k => kdJ j (c k)) none t (valsRows vs) ecap (fun k => vs.getD (c k) nilV) _) (key rfl)
  · exact ToEndZ.ofC (tree48n6 200 (nameJ j) (rowsJ j) (some (fieldsJ j).length) (fun k => nmJ j (c k)) (fun k => kdJ j (c k)) none t (valsRows vs) ecap (fun k => vs.getD (c k) nilV) _) (key rfl)
  · exact ToEndZ.ofC (tree48n7 200 (nameJ j) (rowsJ j) (some (fieldsJ j).length) (fun k => nmJ j (c k)) (fun k => kdJ j (c k)) none t (valsRows vs) ecap (fun k => vs.getD (c k) nilV) _) (key rfl)
  · exact ToEndZ.ofC (tree48n8 200 (nameJ j) (rowsJ j) (some (fieldsJ j).length) (fun k => nmJ j (c k)) (fun k => kdJ j (c k)) none t (valsRows vs) ecap (fun k => vs.getD (c k) nilV) _) (key rfl)

theorem vals2 {vs : List Vl} (h : vs.length = 2) : ∃ a b, vs = [a, b] := by
  match vs, h with
  | [a, b], _ => exact ⟨a, b, rfl⟩
theorem vals3 {vs : List Vl} (h : vs.length = 3) : ∃ a b c, vs = [a, b, c] := by
  match vs, h with
  | [a, b, c], _ => exact ⟨a, b, c, rfl⟩

/-- What is shown of a stream's own fields. -/
theorem view_own {j : Nat} (hj : j = 0 ∨ j = 1 ∨ j = 2) {vs : List Vl} (hv : vs.length = sizeJ j) (t : Int) (ecap : Option Nat) :
    ToEndZ 300 48 [.agg (SJ j), .ro 2 (rowsJ j) (some (fieldsJ j).length), eventA t (valsRows vs) ecap] (eventA t (valsRows vs) (some (sizeJ j))) := by
  have hc : ∀ k, (if k < sizeJ j then k else 0) < sizeJ j := fun k => by
    split
    · assumption
    · rcases hj with rfl | rfl | rfl <;> decide
  have key : ∀ {p : Prop} (r : Nat), p → viewR (200 + 87) (SJ j) (fun k => nmJ j (if k < sizeJ j then k else 0)) (valsRows vs) (fun k => vs.getD (if k < sizeJ j then k else 0) nilV) r 0 p := fun r hp =>
    viewR_of (by omega) hj hv hc hp r 0
  rcases hj with rfl | rfl | rfl
  · obtain ⟨a, b, rfl⟩ := vals2 hv
    exact ToEndZ.ofC (tree48f2 200 (nameJ 0) (rowsJ 0) (some 2) (fun k => nmJ 0 (if k < sizeJ 0 then k else 0)) (fun k => kdJ 0 (if k < sizeJ 0 then k else 0)) (some 2) t (valsRows [a, b]) ecap (fun k => [a, b].getD (if k < sizeJ 0 then k else 0) nilV) _) (key 2 rfl)
  · obtain ⟨a, b, c, rfl⟩ := vals3 hv
    exact ToEndZ.ofC (tree48f3 200 (nameJ 1) (rowsJ 1) (some 3) (fun k => nmJ 1 (if k < sizeJ 1 then k else 0)) (fun k => kdJ 1 (if k < sizeJ 1 then k else 0)) (some 3) t (valsRows [a, b, c]) ecap (fun k => [a, b, c].getD (if k < sizeJ 1 then k else 0) nilV) _) (key 3 rfl)
  · obtain ⟨a, b, c, rfl⟩ := vals3 hv
    exact ToEndZ.ofC (tree48f3 200 (nameJ 2) (rowsJ 2) (some 3) (fun k => nmJ 2 (if k < sizeJ 2 then k else 0)) (fun k => kdJ 2 (if k < sizeJ 2 then k else 0)) (some 3) t (valsRows [a, b, c]) ecap (fun k => [a, b, c].getD (if k < sizeJ 2 then k else 0) nilV) _) (key 3 rfl)

/-! ### Same -/

theorem ne_same (a b : Nat) (v : Vl) : binA Try.prog .neq 23 (.tmp a) (.tmp b) v.av v.av = some (.sc (.bool false)) := by
  have h := bin_notequalV v.k v.n v.k v.n ⟨⟨v.s⟩⟩ ⟨⟨v.s⟩⟩ (.tmp a) (.tmp b)
  rw [byteArr_same] at h
  have e1 : (v.k == v.k) = true := by simp
  have e2 : (v.n == v.n) = true := by simp
  rw [e1, e2] at h
  exact h

theorem same_ends {j : Nat} (hj : j = 0 ∨ j = 1 ∨ j = 2) {vs : List Vl} (hv : vs.length = sizeJ j) (t : Int) (c c' : Option Nat) : ToEndV 100 49 [eventA t (valsRows vs) c, eventA t (valsRows vs) c'] (.ret (.sc (.bool true))) := by
  have hs : vs.length = 2 ∨ vs.length = 3 := by
    rcases hj with rfl | rfl | rfl
    · exact .inl hv
    · exact .inr hv
    · exact .inr hv
  rcases hs with h | h
  · obtain ⟨a, b, rfl⟩ := vals2 h
    exact ToEndV.of (tree49a t a b c c' _) ⟨by simp, ne_same _ _ _, ne_same _ _ _, rfl⟩
  · obtain ⟨a, b, d, rfl⟩ := vals3 h
    exact ToEndV.of (tree49b t a b d c c' _) ⟨by simp, ne_same _ _ _, ne_same _ _ _, ne_same _ _ _, rfl⟩

/-! ### the law -/

theorem loop1R_of {W : VW} {q len : Nat} {es : List (List AV)} (hq : 0 < (W.rows q).length) (he : ∀ i : Nat, i < len → es[i]? = some [.sc (.int .u8 (W.mb i))]) (hf : ∀ i : Nat, i < len → idxE (W.rows q) ((IntKind.i64.wrap (W.mb i)).tmod (W.rows q).length) (fieldRow (W.fn i) (W.fk i))) {next : Prop} (hx : next) :
    ∀ (m i : Nat), i + m ≤ len → loop1R W q len es m i next
  | 0, _, _ => hx
  | m + 1, i, h => ⟨decide_eq_true (by omega), idxE_of (by omega) (by rw [show ((i : Nat) : Int).toNat = i by omega]; exact he i (by omega)), hf i (by omega), loop1R_of hq he hf hx m (i + 1) (by omega)⟩

theorem loop3R_of {n : Nat} (hn : 200 ≤ n) {j : Nat} (hj : j = 0 ∨ j = 1 ∨ j = 2) {vs : List Vl} (hv : vs.length = sizeJ j) {c : Nat → Nat} (hc : ∀ k, c k < sizeJ j) {W : VW} {q : Nat} (hS : W.S q = SJ j) (hfn : W.fn = fun k => nmJ j (c k)) (hvl : W.vl = fun k => vs.getD (c k) nilV) {r : Nat} {tail : List (List AV)} {next : Prop} (hx : next) :
    ∀ (m i : Nat), i + m = r → loop3R n W q (valsRows vs) (rowsV (fun k => vs.getD (c k) nilV) r 0 tail) m i next
  | 0, _, _ => hx
  | m + 1, i, h => by
    refine ⟨idxE_of (by omega) (by rw [show ((i : Nat) : Int).toNat = i by omega, rowsV_get _ _ _ _ _ (by omega), hvl, Nat.zero_add]), ?_⟩
    rw [hS, hfn]
    refine at45_of (SJ_data j) (at_ends hj (hc i)) hn ⟨idxE_of (by omega) (by
      rw [show ((c i : Nat) : Int).toNat = c i by omega, hvl]; exact valsRows_get (by rw [hv]; exact hc i)), ne_same _ _ _, loop3R_of hn hj hv hc hS hfn hvl hx m (i + 1) (by omega)⟩

/-- How many fields. -/
def qJ (j : Nat) : Nat := match j with
  | 0 => 2
  | _ => 3
def rowJ (j c : Nat) : List AV := fieldRow (nmJ j c) (kdJ j c)
def WJ (j : Nat) (mb : Nat → Int) (c : Nat → Nat) (vs : List Vl) : VW := ⟨nameJ j, rowJ j 0, rowJ j 1, rowJ j 2, some (fieldsJ j).length, fun k => nmJ j (c k), fun k => kdJ j (c k), mb, fun k => vs.getD (c k) nilV⟩

theorem views_of {n : Nat} (hn : 400 ≤ n) {bl bm : List Int} {l : AV} (hl : IsM bl l) (hm : ∀ b ∈ bm, 0 ≤ b ∧ b < 256) {which : Int} (h0 : 0 ≤ which) (h1 : which < 256) {p : Prop} (hp : p) :
    ∃ q : Nat, (q = 2 ∨ q = 3) ∧ ∃ W : VW, ∀ (r : Nat) (last : Bool), r ≤ 8 → r ≤ bm.length → decide ((r : Int) < (bm.length : Int)) = last → viewsR n W q which l bm.length (mRows bm) r last p := by
  obtain ⟨j, hj, hjw⟩ : ∃ j : Nat, (j = 0 ∨ j = 1 ∨ j = 2) ∧ which.tmod 3 = j := by
    rw [Int.tmod_eq_emod_of_nonneg h0]
    exact ⟨(which % 3).toNat, by omega, by omega⟩
  have hw : IntKind.i64.wrap which = which := by rw [wrap_i64]; omega
  obtain ⟨vs, hv, hone⟩ := one_ends hl hj h0 h1
  have hpos : 0 < sizeJ j := by rcases hj with rfl | rfl | rfl <;> decide
  let mb : Nat → Int := fun i => byteAt bm i
  let c : Nat → Nat := fun i => (mb i).toNat % sizeJ j
  have hc : ∀ k, c k < sizeJ j := fun k => Nat.mod_lt _ hpos
  have hS : (WJ j mb c vs).S (qJ j) = SJ j := by rcases hj with rfl | rfl | rfl <;> rfl
  have hR : (WJ j mb c vs).rows (qJ j) = rowsJ j := by rcases hj with rfl | rfl | rfl <;> rfl
  have hRl : (rowsJ j).length = sizeJ j := by simp [rowsJ, sizeJ]
  have hget : ∀ k, k < sizeJ j → (rowsJ j)[k]? = some (fieldRow (nmJ j k) (kdJ j k)) := fun k hk => by
    rcases hj with rfl | rfl | rfl
    · have : k = 0 ∨ k = 1 := by have : k < 2 := hk; omega
      rcases this with rfl | rfl <;> rfl
    · have : k = 0 ∨ k = 1 ∨ k = 2 := by have : k < 3 := hk; omega
      rcases this with rfl | rfl | rfl <;> rfl
    · have : k = 0 ∨ k = 1 ∨ k = 2 := by have : k < 3 := hk; omega
      rcases this with rfl | rfl | rfl <;> rfl
  refine ⟨qJ j, by rcases hj with rfl | rfl | rfl <;> simp [qJ], WJ j mb c vs, fun r last hr hrl hlast => ?_⟩
  refine ⟨?_, ?_⟩
  · rw [hS, hjw]
    refine idxE_of (by omega) ?_
    rcases hj with rfl | rfl | rfl <;> rfl
  rw [hS, hw]
  refine ⟨⟨SJ_data j, data_ofV hl⟩, which, valsRows vs, none, hone.mono (by omega), ?_⟩
  rw [hR]
  refine ⟨which, valsRows vs, some (sizeJ j), (view_own hj hv which none).mono (by omega), ?_⟩
  refine loop1R_of (by rw [hR, hRl]; exact hpos) (fun i hi => ?_) (fun i hi => ?_) ⟨hlast, which, rowsV (fun k => vs.getD (c k) nilV) r 0 [zeroRow], some (r + 1), (view_some hj hv hc which none r hr).mono (by omega), ⟨rfl, rfl, (same_ends hj hv which _ _).mono (by omega)⟩, by simp, ?_, ?_⟩ r 0 (by omega)
  · unfold mRows
    rw [List.getElem?_map, List.getElem?_eq_getElem hi]
    have : byteAt bm (i : Int) = bm[i] := by
      unfold byteAt
      rw [if_pos (by omega), show ((i : Nat) : Int).toNat = i by omega, List.getD_eq_getElem?_getD, List.getElem?_eq_getElem hi]
      rfl
    show _ = some [AV.sc (.int .u8 (byteAt bm (i : Int)))]
    rw [this]
    rfl
  · have hb := byteAt_range hm (i : Int)
    have e1 : IntKind.i64.wrap (byteAt bm (i : Int)) = byteAt bm (i : Int) := by rw [wrap_i64]; omega
    rw [hR, hRl]
    show idxE (rowsJ j) ((IntKind.i64.wrap (byteAt bm (i : Int))).tmod (sizeJ j)) (fieldRow (nmJ j (c i)) (kdJ j (c i)))
    rw [e1, Int.tmod_eq_emod_of_nonneg hb.1]
    have e2 : (byteAt bm (i : Int) % (sizeJ j : Int)).toNat = c i := by
      show _ = (byteAt bm (i : Int)).toNat % sizeJ j
      obtain ⟨z, hz⟩ : ∃ z : Nat, byteAt bm (i : Int) = z := ⟨(byteAt bm (i : Int)).toNat, by omega⟩
      rw [hz]
      simp
      omega
    refine idxE_of (Int.emod_nonneg _ (by omega)) ?_
    rw [e2]
    exact hget _ (hc i)
  · rw [rowsV_length]
    simp
  · refine loop3R_of (by omega) hj hv hc hS rfl rfl ⟨idxE_of ?_ ?_, hp⟩ r 0 (by omega)
    · rw [wrap_i64]; omega
    · rw [show (IntKind.i64.wrap (((r + 1 : Nat) : Int) - 1)).toNat = r by rw [wrap_i64]; omega]
      exact rowsV_last _ _ r 0

theorem views_run {bl bm : List Int} {l m : AV} (hl : IsM bl l) (hm : IsM bm m) {which : Int} (h0 : 0 ≤ which) (h1 : which < 256) : ∃ n H1, call CV n 13 [.sc (.int .u8 which), l, m] [] = some (.ret (.sc (.bool true)), H1) := by
  obtain ⟨q, hq, W, h⟩ := views_of (n := 400) (by omega) hl hm.byte h0 h1 (p := CRes.ret (.sc (.bool true)) = .ret (.sc (.bool true))) rfl
  suffices t : ToEndV (400 + 200) 13 [.sc (.int .u8 which), l, m] (.ret (.sc (.bool true))) from ⟨_, t.ex⟩
  have hml : (mRows bm).length = bm.length := by simp [mRows]
  have lf : (∃ es cap, l = .ro 1 es cap) ∨ l = .sc (.slice none 0 0) := by
    rcases hl.form with ⟨cap, rfl⟩ | ⟨_, rfl⟩
    · exact .inl ⟨_, _, rfl⟩
    · exact .inr rfl
  rcases hm.form with ⟨cap, rfl⟩ | ⟨hb, rfl⟩
  · rw [← hml] at h
    by_cases hg : 8 < bm.length
    · have hr := h 8 true (by omega) (by omega) (decide_eq_true (by omega))
      rcases hq with rfl | rfl <;> rcases lf with ⟨el, cl, rfl⟩ | rfl
      · exact ToEndV.ofC (tree13_2gr 400 W which el cl (mRows bm) cap _) hr
      · exact ToEndV.ofC (tree13_2gz 400 W which (mRows bm) cap _) hr
      · exact ToEndV.ofC (tree13_3gr 400 W which el cl (mRows bm) cap _) hr
      · exact ToEndV.ofC (tree13_3gz 400 W which (mRows bm) cap _) hr
    · have hr := h bm.length false (by omega) (by omega) (decide_eq_false (by omega))
      have : bm.length = 0 ∨ bm.length = 1 ∨ bm.length = 2 ∨ bm.length = 3 ∨ bm.length = 4 ∨ bm.length = 5 ∨ bm.length = 6 ∨ bm.length = 7 ∨ bm.length = 8 := by omega
      rcases this with e | e | e | e | e | e | e | e | e <;> rw [e] at hr
      · rcases hq with rfl | rfl <;> rcases lf with ⟨el, cl, rfl⟩ | rfl
        · exact ToEndV.ofC (tree13_20r 400 W which el cl (mRows bm) cap _) hr
        · exact ToEndV.ofC (tree13_20z 400 W which (mRows bm) cap _) hr
        · exact ToEndV.ofC (tree13_30r 400 W which el cl (mRows bm) cap _) hr
        · exact ToEndV.ofC (tree13_30z 400 W which (mRows bm) cap _) hr
      · rcases hq with rfl | rfl <;> rcases lf with ⟨el, cl, rfl⟩ | rfl
        · exact ToEndV.ofC (tree13_21r 400 W which el cl (mRows bm) cap _) hr
        · exact ToEndV.ofC (tree13_21z 400 W which (mRows bm) cap _) hr
        · exact ToEndV.ofC (tree13_31r 400 W which el cl (mRows bm) cap _) hr
        · exact ToEndV.ofC (tree13_31z 400 W which (mRows bm) cap _) hr
      · rcases hq with rfl | rfl <;> rcases lf with ⟨el, cl, rfl⟩ | rfl
        · exact ToEndV.ofC (tree13_22r 400 W which el cl (mRows bm) cap _) hr
        · exact ToEndV.ofC (tree13_22z 400 W which (mRows bm) cap _) hr
        · exact ToEndV.ofC (tree13_32r 400 W which el cl (mRows bm) cap _) hr
        · exact ToEndV.ofC (tree13_32z 400 W which (mRows bm) cap _) hr
      · rcases hq with rfl | rfl <;> rcases lf with ⟨el, cl, rfl⟩ | rfl
        · exact ToEndV.ofC (tree13_23r 400 W which el cl (mRows bm) cap _) hr
        · exact ToEndV.ofC (tree13_23z 400 W which (mRows bm) cap _) hr
        · exact ToEndV.ofC (tree13_33r 400 W which el cl (mRows bm) cap _) hr
        · exact ToEndV.ofC (tree13_33z 400 W which (mRows bm) cap _) hr
      · rcases hq with rfl | rfl <;> rcases lf with ⟨el, cl, rfl⟩ | rfl
        · exact ToEndV.ofC (tree13_24r 400 W which el cl (mRows bm) cap _) hr
        · exact ToEndV.ofC (tree13_24z 400 W which (mRows bm) cap _) hr
        · exact ToEndV.ofC (tree13_34r 400 W which el cl (mRows bm) cap _) hr
        · exact ToEndV.ofC (tree13_34z 400 W which (mRows bm) cap _) hr
      · rcases hq with rfl | rfl <;> rcases lf with ⟨el, cl, rfl⟩ | rfl
        · exact ToEndV.ofC (tree13_25r 400 W which el cl (mRows bm) cap _) hr
        · exact ToEndV.ofC (tree13_25z 400 W which (mRows bm) cap _) hr
        · exact ToEndV.ofC (tree13_35r 400 W which el cl (mRows bm) cap _) hr
        · exact ToEndV.ofC (tree13_35z 400 W which (mRows bm) cap _) hr
      · rcases hq with rfl | rfl <;> rcases lf with ⟨el, cl, rfl⟩ | rfl
        · exact ToEndV.ofC (tree13_26r 400 W which el cl (mRows bm) cap _) hr
        · exact ToEndV.ofC (tree13_26z 400 W which (mRows bm) cap _) hr
        · exact ToEndV.ofC (tree13_36r 400 W which el cl (mRows bm) cap _) hr
        · exact ToEndV.ofC (tree13_36z 400 W which (mRows bm) cap _) hr
      · rcases hq with rfl | rfl <;> rcases lf with ⟨el, cl, rfl⟩ | rfl
        · exact ToEndV.ofC (tree13_27r 400 W which el cl (mRows bm) cap _) hr
        · exact ToEndV.ofC (tree13_27z 400 W which (mRows bm) cap _) hr
        · exact ToEndV.ofC (tree13_37r 400 W which el cl (mRows bm) cap _) hr
        · exact ToEndV.ofC (tree13_37z 400 W which (mRows bm) cap _) hr
      · rcases hq with rfl | rfl <;> rcases lf with ⟨el, cl, rfl⟩ | rfl
        · exact ToEndV.ofC (tree13_28r 400 W which el cl (mRows bm) cap _) hr
        · exact ToEndV.ofC (tree13_28z 400 W which (mRows bm) cap _) hr
        · exact ToEndV.ofC (tree13_38r 400 W which el cl (mRows bm) cap _) hr
        · exact ToEndV.ofC (tree13_38z 400 W which (mRows bm) cap _) hr
  · subst hb
    have hr := h 0 false (by omega) (by omega) rfl
    rcases hq with rfl | rfl <;> rcases lf with ⟨el, cl, rfl⟩ | rfl
    · exact ToEndV.ofC (tree13_2nr 400 W which el cl [] none _) hr
    · exact ToEndV.ofC (tree13_2nz 400 W which [] none _) hr
    · exact ToEndV.ofC (tree13_3nr 400 W which el cl [] none _) hr
    · exact ToEndV.ofC (tree13_3nz 400 W which [] none _) hr

end Go.Ai
