/-
  CheckCommon: a field is common just if each other stream has it: what a round tells.
-/
import Derived.Test.YtndloeajkfajnaaAiCm6
set_option linter.unusedVariables false
set_option linter.unusedSimpArgs false
namespace Go.Ai.Cm
open Go.Proofs Go.RowKit

theorem placeOf_cases (nm : List UInt8) : ∀ (fs : List Fld) (i : Nat), (placeOf nm fs i = -1 ∧ ∀ g ∈ fs, g.1 ≠ nm) ∨ ∃ m g, placeOf nm fs i = ((i + m : Nat) : Int) ∧ fs[m]? = some g ∧ g.1 = nm
  | [], i => .inl ⟨rfl, fun g hg => by cases hg⟩
  | g :: fs, i => by
    unfold placeOf
    by_cases h : g.1 = nm
    · rw [if_pos h]
      exact .inr ⟨0, g, by simp, rfl, h⟩
    · rw [if_neg h]
      rcases placeOf_cases nm fs (i + 1) with ⟨h1, h2⟩ | ⟨m, g', h1, h2, h3⟩
      · exact .inl ⟨h1, fun x hx => by
          rcases List.mem_cons.1 hx with rfl | hx
          · exact h
          · exact h2 x hx⟩
      · exact .inr ⟨m + 1, g', by rw [h1]; congr 1; omega, by simpa using h2, h3⟩

/-- Its names are distinct. -/
def distinct (fs : List Fld) : Prop := (fs.map (·.1)).Nodup

theorem mem_of_name {fs : List Fld} (hd : distinct fs) {f g : Fld} {m : Nat} (hg : fs[m]? = some g) (hn : g.1 = f.1) : (f ∈ fs) ↔ g.2 = f.2 := by
  constructor
  · intro hf
    obtain ⟨k, hk, hkf⟩ := List.getElem_of_mem hf
    have h1 : (fs.map (·.1))[k]? = some f.1 := by rw [List.getElem?_map, List.getElem?_eq_getElem hk, hkf]; rfl
    have h2 : (fs.map (·.1))[m]? = some f.1 := by rw [List.getElem?_map, hg]; simp [hn]
    have hkl : k < (fs.map (·.1)).length := by simpa using hk
    have : k = m := (List.getElem?_inj hkl hd).1 (h1.trans h2.symm)
    subst this
    rw [List.getElem?_eq_getElem hk, hkf] at hg
    cases hg
    rfl
  · intro h2
    have : g = f := by
      obtain ⟨a, b⟩ := g
      obtain ⟨c, d⟩ := f
      simp only at hn h2
      rw [hn, h2]
    rw [← this]
    exact List.mem_of_getElem? hg

def tripleT (s : Strm) : List UInt8 × Bool × List (List AV) := (s.1, !s.2.isEmpty, rowsC s.2)

theorem shapeF_list (fs : List Fld) : shapeF (!fs.isEmpty) (rowsC fs) = listC fs := by
  cases fs <;> rfl

theorem idxE_rows {fs : List Fld} {m : Nat} {g : Fld} (h : fs[m]? = some g) : idxE (rowsC fs) (m : Int) (fieldRow g.1 g.2) := by
  unfold idxE
  rw [if_neg (by omega), show ((m : Nat) : Int).toNat = m by omega]
  unfold rowsC
  rw [List.getElem?_map, h]
  rfl

theorem inR_of {n : Nat} (hn : 100 ≤ n) {f : Fld} {gn : Nat → List UInt8} {gk : Nat → Int} {fin : Bool → Prop} : ∀ (rest : List Strm) (k : Nat) (inn : Bool), (∀ s ∈ rest, s.2.length ≤ 6 ∧ distinct s.2) →
    (∀ i s, rest[i]? = some s → (gn (k + i), gk (k + i)) = s.2.getD (placeOf f.1 s.2 0).toNat ([], 0)) → fin (inn && !missing f rest) → inR n f gn gk fin (rest.map tripleT) k inn
  | [], k, inn, _, _, h => by
    simpa [missing, inR] using h
  | s :: rest, k, inn, hl, hg, h => by
    have hs := hl s List.mem_cons_self
    have hg0 := hg 0 s rfl
    rw [Nat.add_zero] at hg0
    have next : ∀ b : Bool, (b = (inn && decide (f ∈ s.2))) → inR n f gn gk fin (rest.map tripleT) (k + 1) b := fun b hb =>
      inR_of hn rest (k + 1) b (fun t ht => hl t (List.mem_cons_of_mem _ ht)) (fun i t hi => by
        have := hg (i + 1) t (by simpa using hi)
        rwa [show k + 1 + i = k + (i + 1) by omega]) (by
        rw [hb]
        have e : (inn && decide (f ∈ s.2) && !missing f rest) = (inn && !missing f (s :: rest)) := by
          unfold missing
          rw [List.any_cons]
          by_cases hm : f ∈ s.2 <;> simp [hm]
        rw [e]
        exact h)
    have hat := (at_ends s.1 f.1 hs.1).mono hn
    have hsh : shapeF (!s.2.isEmpty) (rowsC s.2) = listC s.2 := shapeF_list s.2
    show at45 n [strN s.1, shapeF (!s.2.isEmpty) (rowsC s.2)] f.1 _
    rw [hsh]
    refine ⟨by simp [isDataL, strN, isData, listC_data], placeOf f.1 s.2 0, hat, ?_⟩
    cases inn with
    | false => exact next false (by simp)
    | true =>
      show bothQ _ _ _
      rcases placeOf_cases f.1 s.2 0 with ⟨h1, h2⟩ | ⟨m, g, h1, h2, h3⟩
      · rw [h1]
        refine bothQ_of (fun hh => absurd (of_decide_eq_true hh) (by decide)) fun _ => next false ?_
        have : f ∉ s.2 := fun hf => h2 f hf rfl
        simp [this]
      · rw [Nat.zero_add] at h1
        have hm := mem_of_name hs.2 h2 h3
        have hgg : (gn k, gk k) = g := by
          rw [hg0, h1, show ((m : Nat) : Int).toNat = m by omega, List.getD_eq_getElem?_getD, h2]
          rfl
        have hne : (!s.2.isEmpty) = true := by
          cases hq : s.2 with
          | nil => rw [hq] at h2; simp at h2
          | cons a b => rfl
        rw [h1]
        have e1 : gn k = g.1 := by rw [← hgg]
        have e2 : gk k = g.2 := by rw [← hgg]
        refine bothQ_of (fun _ => ⟨?_, bothQ_of (fun hh => next true ?_) fun hh => next false ?_⟩) fun hh => absurd (of_decide_eq_false hh) (by omega)
        · rw [hne, e1, e2]
          exact idxE_rows h2
        · have : f ∈ s.2 := hm.2 (by rw [← e2]; simpa using hh)
          simp [this]
        · have : f ∉ s.2 := fun hf => by
            have := hm.1 hf
            rw [← e2] at this
            simp [this] at hh
          simp [this]

end Go.Ai.Cm
