/-
  EXPRESSIONS THAT ARE NOT KNOWN: binds by bytes as what is known of variables.
-/
import Derived.Test.YtndloeajkfajnaaAiXp7
set_option linter.unusedVariables false
set_option linter.unusedSimpArgs false
namespace Go.Ai
open Go.Proofs Go.RowKit

theorem formA {ea : List (List AV)} (hl : ea.length = 1 ∨ ea.length = 2 ∨ ea.length = 3) (h : ∀ e ∈ ea, ∃ t z y, e = evtA t z y) :
    ∃ n r1 r2 t, ∃ v w : Vl, (n = 0 ∨ n = 1 ∨ n = 2) ∧ v.wf ∧ w.wf ∧ listA ea = upTo n r1 r2 (lastA t v w) := by
  have one : ∀ e ∈ ea, ∃ t, ∃ v w : Vl, v.wf ∧ w.wf ∧ e = lastA t v w := fun e he => by
    obtain ⟨t, z, y, rfl⟩ := h e he
    exact ⟨t, ⟨1, _, []⟩, ⟨1, y, []⟩, .inl ⟨rfl, rfl⟩, .inl ⟨rfl, rfl⟩, rfl⟩
  match ea, hl with
  | [e], _ =>
    obtain ⟨t, v, w, hv, hw, rfl⟩ := one e (by simp)
    exact ⟨0, [], [], t, v, w, .inl rfl, hv, hw, rfl⟩
  | [e1, e], _ =>
    obtain ⟨t, v, w, hv, hw, rfl⟩ := one e (by simp)
    exact ⟨1, e1, [], t, v, w, .inr (.inl rfl), hv, hw, rfl⟩
  | [e1, e2, e], _ =>
    obtain ⟨t, v, w, hv, hw, rfl⟩ := one e (by simp)
    exact ⟨2, e1, e2, t, v, w, .inr (.inr rfl), hv, hw, rfl⟩
  | [], hl => simp at hl
  | _ :: _ :: _ :: _ :: _, hl => simp at hl

theorem formB {eb : List (List AV)} (hl : eb.length = 0 ∨ eb.length = 1 ∨ eb.length = 2 ∨ eb.length = 3) (h : ∀ e ∈ eb, ∃ t z s, byteP z ∧ shortS s ∧ e = evtB t z s) :
    listA eb = .sc (.slice none 0 0) ∨ ∃ n r1 r2 t, ∃ v w x y : Vl, (n = 0 ∨ n = 1 ∨ n = 2) ∧ v.wf ∧ w.wf ∧ x.wf ∧ y.wf ∧ listA eb = upTo n r1 r2 (lastB t v w x y) := by
  have one : ∀ e ∈ eb, ∃ t, ∃ v w x y : Vl, v.wf ∧ w.wf ∧ x.wf ∧ y.wf ∧ e = lastB t v w x y := fun e he => by
    obtain ⟨t, z, s, hz, hs, rfl⟩ := h e he
    refine ⟨t, ⟨1, _, []⟩, ⟨1, _, []⟩, ⟨3, 0, s.data.toList⟩, ⟨2, z.tmod 2, []⟩, .inl ⟨rfl, rfl⟩, .inl ⟨rfl, rfl⟩, .inr (.inr ⟨rfl, rfl, hs⟩), .inr (.inl ⟨rfl, ?_, rfl⟩), rfl⟩
    simp only
    rw [Int.tmod_eq_emod_of_nonneg hz.1]
    omega
  match eb, hl with
  | [], _ => exact .inl rfl
  | [e], _ =>
    obtain ⟨t, v, w, x, y, hv, hw, hx, hy, rfl⟩ := one e (by simp)
    exact .inr ⟨0, [], [], t, v, w, x, y, .inl rfl, hv, hw, hx, hy, rfl⟩
  | [e1, e], _ =>
    obtain ⟨t, v, w, x, y, hv, hw, hx, hy, rfl⟩ := one e (by simp)
    exact .inr ⟨1, e1, [], t, v, w, x, y, .inr (.inl rfl), hv, hw, hx, hy, rfl⟩
  | [e1, e2, e], _ =>
    obtain ⟨t, v, w, x, y, hv, hw, hx, hy, rfl⟩ := one e (by simp)
    exact .inr ⟨2, e1, e2, t, v, w, x, y, .inr (.inr rfl), hv, hw, hx, hy, rfl⟩
  | _ :: _ :: _ :: _ :: _, hl => simp at hl

theorem upTo_form (n : Nat) (r1 r2 l : List AV) : ∃ es, upTo n r1 r2 l = .ro 2 es none := by
  unfold upTo
  split <;> exact ⟨_, rfl⟩

theorem env_none {n : Nat} {r1 r2 : List AV} {t : Int} {v w : Vl} (hn : n = 0 ∨ n = 1 ∨ n = 2) (hv : v.wf) (hw : w.wf) :
    BEnv 3 (rowsXY (upTo n r1 r2 (lastA t v w)) (.sc (.slice none 0 0))) (some 2) (fun a f => if a = 97 then (if f = 107 then some v else some w) else none) 0 := by
  obtain ⟨es, hes⟩ := upTo_form n r1 r2 (lastA t v w)
  refine ⟨fun a f h => ?_, ?_⟩
  · simp only [refsX, List.mem_cons, List.mem_nil_iff, or_false, Prod.mk.injEq] at h
    rcases h with ⟨rfl, rfl⟩ | ⟨rfl, rfl⟩ | ⟨rfl, rfl⟩ | ⟨rfl, rfl⟩ | ⟨rfl, rfl⟩ | ⟨rfl, rfl⟩
    · exact ⟨ToEnd.ofC (treeRAk n hn r1 r2 t v w _ _) ⟨hv, rfl⟩, fun r hr => by cases hr; exact hv⟩
    · exact ⟨ToEnd.ofC (treeRAx n hn r1 r2 t v w _ _) ⟨hw, rfl⟩, fun r hr => by cases hr; exact hw⟩
    · rw [hes]; exact ⟨ToEnd.ofC (treeRB0 107 (.inl rfl) es _) rfl, fun r hr => by cases hr⟩
    · rw [hes]; exact ⟨ToEnd.ofC (treeRB0 121 (.inr (.inl rfl)) es _) rfl, fun r hr => by cases hr⟩
    · rw [hes]; exact ⟨ToEnd.ofC (treeRB0 115 (.inr (.inr (.inl rfl))) es _) rfl, fun r hr => by cases hr⟩
    · rw [hes]; exact ⟨ToEnd.ofC (treeRB0 116 (.inr (.inr (.inr rfl))) es _) rfl, fun r hr => by cases hr⟩
  · rw [hes]
    exact ToEnd.ofC (treeRBn0 es _) rfl

theorem env_some {n : Nat} {r1 r2 : List AV} {t : Int} {v w : Vl} (hn : n = 0 ∨ n = 1 ∨ n = 2) (hv : v.wf) (hw : w.wf) {n' : Nat} {r1' r2' : List AV} {t' : Int} {v' w' x' y' : Vl} (hn' : n' = 0 ∨ n' = 1 ∨ n' = 2) (hv' : v'.wf) (hw' : w'.wf) (hx' : x'.wf) (hy' : y'.wf) :
    ∃ ct, BEnv 3 (rowsXY (upTo n r1 r2 (lastA t v w)) (upTo n' r1' r2' (lastB t' v' w' x' y'))) (some 2) (fun a f => if a = 97 then (if f = 107 then some v else some w) else (if f = 107 then some v' else if f = 121 then some w' else if f = 115 then some x' else some y')) ct := by
  obtain ⟨es, hes⟩ := upTo_form n r1 r2 (lastA t v w)
  obtain ⟨es', hes'⟩ := upTo_form n' r1' r2' (lastB t' v' w' x' y')
  refine ⟨es'.length, fun a f h => ?_, ?_⟩
  · simp only [refsX, List.mem_cons, List.mem_nil_iff, or_false, Prod.mk.injEq] at h
    rcases h with ⟨rfl, rfl⟩ | ⟨rfl, rfl⟩ | ⟨rfl, rfl⟩ | ⟨rfl, rfl⟩ | ⟨rfl, rfl⟩ | ⟨rfl, rfl⟩
    · exact ⟨ToEnd.ofC (treeRAk n hn r1 r2 t v w _ _) ⟨hv, rfl⟩, fun r hr => by cases hr; exact hv⟩
    · exact ⟨ToEnd.ofC (treeRAx n hn r1 r2 t v w _ _) ⟨hw, rfl⟩, fun r hr => by cases hr; exact hw⟩
    · rw [hes]; exact ⟨ToEnd.ofC (treeRBk n' hn' es r1' r2' t' v' w' x' y' _) ⟨hv', rfl⟩, fun r hr => by cases hr; exact hv'⟩
    · rw [hes]; exact ⟨ToEnd.ofC (treeRBy n' hn' es r1' r2' t' v' w' x' y' _) ⟨hw', rfl⟩, fun r hr => by cases hr; exact hw'⟩
    · rw [hes]; exact ⟨ToEnd.ofC (treeRBs n' hn' es r1' r2' t' v' w' x' y' _) ⟨hx', rfl⟩, fun r hr => by cases hr; exact hx'⟩
    · rw [hes]; exact ⟨ToEnd.ofC (treeRBt n' hn' es r1' r2' t' v' w' x' y' _) ⟨hy', rfl⟩, fun r hr => by cases hr; exact hy'⟩
  · rw [hes, hes']
    exact ToEnd.ofC (treeRBn es es' _) rfl

/-- What binds by bytes are. -/
theorem binds_env {bs : List Int} {m : AV} (hm : IsM bs m) : ∃ es bd ct, ToEnd 100 15 [m] (.ret (.ro 3 es (some 2))) ∧ BEnv 3 es (some 2) bd ct := by
  obtain ⟨ea, eb, la, lb, ga, gb, he⟩ := binds_all hm
  obtain ⟨n, r1, r2, t, v, w, hn, hv, hw, ha⟩ := formA la ga
  rw [show rowsBind ea eb = rowsXY (listA ea) (listA eb) from rfl, ha] at he
  rcases formB lb gb with hb | ⟨n', r1', r2', t', v', w', x', y', hn', hv', hw', hx', hy', hb⟩
  · rw [hb] at he
    exact ⟨_, _, _, he, env_none hn hv hw⟩
  · rw [hb] at he
    obtain ⟨ct, hE⟩ := env_some (t := t) (r1 := r1) (r2 := r2) (t' := t') (r1' := r1') (r2' := r2') hn hv hw hn' hv' hw' hx' hy'
    exact ⟨_, _, _, he, hE⟩

end Go.Ai
