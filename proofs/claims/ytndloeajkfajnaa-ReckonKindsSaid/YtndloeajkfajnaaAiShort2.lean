/-
  ReckonShort: the run comes to true.
-/
import Derived.Test.YtndloeajkfajnaaAiShort
set_option linter.unusedVariables false
set_option linter.unusedSimpArgs false
namespace Go.Ai
open Go.Proofs Go.RowKit

theorem bin_notequal (k n k' n' : Int) (s s' : ByteArray) (o1 o2 : Operand) : binA Try.prog .neq 23 o1 o2 (valA k n s) (valA k' n' s') = some (.sc (.bool (!((k == k') && ((n == n') && (s == s')))))) := by
  have e : binA Try.prog .neq 23 o1 o2 (valA k n s) (valA k' n' s') = (pureRun Try.prog (do eqGuard .neq 23 o1 o2 (valV k n s) (valV k' n' s'); binOp .neq 23 (valV k n s) (valV k' n' s'))).map absV := by kernel_rfl
  rw [e, pureRun_bind', show pureRun Try.prog (eqGuard .neq 23 o1 o2 (valV k n s) (valV k' n' s')) = some () by kernel_rfl]
  simp only [Option.bind_some]
  have e2 : binOp .neq 23 (valV k n s) (valV k' n' s') = Sem.bind (Op.equal 23 (valV k n s) (valV k' n' s')) fun r => Sem.pure (.bool (!r)) := by kernel_rfl
  rw [e2, pureRun_bind, val_equal]
  rfl

theorem data_of {bs : List Int} {m : AV} (hm : IsM bs m) : isData m = true := by
  rcases hm.form with ⟨cap, rfl⟩ | ⟨_, rfl⟩ <;> rfl

theorem made16_of {n k : Nat} {m : AV} {e : XT} {p : List AV → Prop} (hd : isData m = true) (h : ToEnd k 16 [m] (.ret (.agg e.cells))) (hn : k ≤ n) (hp : p e.cells) : made16 n m p := by
  refine ⟨hd, ?_⟩
  have h := h.mono hn
  obtain ⟨kd, i, x, op, s, v, f, b, rows, cap, he⟩ := e.cells_form
  rw [he] at h hp
  cases b with
  | true => exact .inr ⟨kd, i, x, op, s, v, f, rows, cap, h, hp⟩
  | false => exact .inl ⟨kd, i, x, op, s, v, f, h, hp⟩

def litX (k n : Int) : XT := .lit ⟨k, n, []⟩
def badX : XT := .bin .div (litX 1 1) (litX 1 0)

theorem litX_wf1 {n : Int} (h : 0 ≤ n) : (litX 1 n).wf := ⟨.inl ⟨rfl, rfl⟩, h, by simp⟩
theorem litX_wf2 {n : Int} (h : n = 0 ∨ n = 1) : (litX 2 n).wf := ⟨.inr (.inl ⟨rfl, h, rfl⟩), by simp only; omega, by simp⟩
theorem badX_wf : badX.wf := ⟨litX_wf1 (by decide), litX_wf1 (by decide)⟩

section
variable {es : List (List AV)} {bd : UInt8 → UInt8 → Option Vl} {ct : Int}

theorem reck17_of (hB : BEnv 3 es (some 2) bd ct) {n : Nat} {e : XT} {cs : List AV} (hc : cs = e.cells) (h : e.wf) (hn : 240 * e.depth + 400 ≤ n) {p : Vl → Bool → Prop} {r : Option Vl} (hr : wv bd ct e = r) (hp : match r with | some v => p v true | none => p zeroV false) : reck17 n cs es p := by
  subst hc
  have h1 := (reckon_all hB e h).mono hn
  rw [hr] at h1
  refine ⟨e.data, ?_⟩
  cases r with
  | some v => exact ⟨v, true, h1, hp⟩
  | none => exact ⟨zeroV, false, h1, hp⟩

theorem hold21_of (hB : BEnv 3 es (some 2) bd ct) {n : Nat} {e : XT} {cs : List AV} (hc : cs = e.cells) (h : e.wf) (hn : 240 * e.depth + 500 ≤ n) {p : Bool → Prop} {b : Bool} (hr : holdsV (wv bd ct e) = b) (hp : p b) : hold21 n cs es p := by
  subst hc
  have h1 := (holds_all hB e h).mono hn
  rw [hr] at h1
  exact ⟨e.data, b, h1, hp⟩

theorem wv_bad : wv bd ct badX = none := rfl

theorem shortEnd_of (hB : BEnv 3 es (some 2) bd ct) {n : Nat} {e : XT} (h : e.wf) (hn : 240 * e.depth + 2000 ≤ n) {p : Prop} (hp : p) : shortEnd n e.cells es p := by
  refine reck17_of hB (e := .and badX (litX 2 0)) rfl ⟨badX_wf, litX_wf2 (.inl rfl)⟩ (by simp only [XT.depth, badX, litX]; omega) (r := none) rfl ⟨rfl, ?_⟩
  refine reck17_of hB (e := .and (litX 1 0) (litX 2 0)) rfl ⟨litX_wf1 (by decide), litX_wf2 (.inl rfl)⟩ (by simp only [XT.depth, litX]; omega) (r := none) rfl ⟨rfl, ?_⟩
  refine hold21_of hB (e := .and (litX 2 0) e) rfl ⟨litX_wf2 (.inl rfl), h⟩ (by simp only [XT.depth, litX]; omega) (b := false) rfl ⟨rfl, ?_⟩
  refine hold21_of hB (e := .or (litX 2 1) e) rfl ⟨litX_wf2 (.inr rfl), h⟩ (by simp only [XT.depth, litX]; omega) (b := true) rfl ⟨rfl, ?_⟩
  exact hold21_of hB (e := .or (litX 2 1) badX) rfl ⟨litX_wf2 (.inr rfl), badX_wf⟩ (by simp only [XT.depth, badX, litX]; omega) (b := true) rfl ⟨rfl, hp⟩

theorem neV_same (a b : Nat) (v : Vl) : neV a b v v := by
  unfold neV
  have h := bin_notequal v.k v.n v.k v.n ⟨⟨v.s⟩⟩ ⟨⟨v.s⟩⟩ (.tmp a) (.tmp b)
  rw [byteArr_same] at h
  have e1 : (v.k == v.k) = true := by simp
  have e2 : (v.n == v.n) = true := by simp
  rw [e1, e2] at h
  exact h
end

theorem short_run {bs bs' : List Int} {l m : AV} (hl : IsM bs l) (hm : IsM bs' m) : ∃ n H1, call CS n 7 [l, m] [] = some (.ret (.sc (.bool true)), H1) := by
  obtain ⟨e, hw, hE⟩ := made_ends hl
  obtain ⟨es, bd, ct, hI, hB⟩ := binds_env hm
  have hwf := wv_wf hB e hw
  obtain ⟨n, hn⟩ : ∃ n, n = 240 * e.depth + 3000 := ⟨_, rfl⟩
  have and_wf : (XT.and (litX 2 1) e).wf := ⟨litX_wf2 (.inr rfl), hw⟩
  have or_wf : (XT.or (litX 2 0) e).wf := ⟨litX_wf2 (.inl rfl), hw⟩
  have da : (XT.and (litX 2 1) e).depth ≤ e.depth + 1 := by simp only [XT.depth, litX]; omega
  have dor : (XT.or (litX 2 0) e).depth ≤ e.depth + 1 := by simp only [XT.depth, litX]; omega
  suffices h : ToEnd (n + 200) 7 [l, m] (.ret (.sc (.bool true))) from ⟨_, h.ex⟩
  have fin : ∀ {p : Prop}, p → shortEnd n e.cells es p := fun hp => shortEnd_of hB hw (by omega) hp
  cases hv : wv bd ct e with
  | none =>
    refine ToEnd.ofC (tree7n n l m _) (made16_of (data_of hl) hE (by omega) ⟨data_of hm, es, hI.mono (by omega), ?_⟩)
    refine reck17_of hB (e := e) rfl hw (by omega) hv ⟨rfl, ?_⟩
    refine reck17_of hB (e := .and (litX 2 1) e) rfl and_wf (by omega) (r := none) (by simp only [wv, litX, hv]; rfl) ⟨rfl, ?_⟩
    exact reck17_of hB (e := .or (litX 2 0) e) rfl or_wf (by omega) (r := none) (by simp only [wv, litX, hv]; rfl) ⟨rfl, fin rfl⟩
  | some v =>
    cases hk : (v.k == 2)
    · refine ToEnd.ofC (tree7o n l m _) (made16_of (data_of hl) hE (by omega) ⟨data_of hm, es, hI.mono (by omega), ?_⟩)
      refine reck17_of hB (e := e) rfl hw (by omega) hv ⟨rfl, ?_⟩
      refine reck17_of hB (e := .and (litX 2 1) e) rfl and_wf (by omega) (r := none) (by simp only [wv, litX, hv, hk]; rfl) ⟨rfl, ?_⟩
      exact reck17_of hB (e := .or (litX 2 0) e) rfl or_wf (by omega) (r := none) (by simp only [wv, litX, hv, hk]; rfl) ⟨rfl, hk, fin rfl⟩
    · refine ToEnd.ofC (tree7b n l m _) (made16_of (data_of hl) hE (by omega) ⟨data_of hm, es, hI.mono (by omega), ?_⟩)
      refine reck17_of hB (e := e) rfl hw (by omega) hv ⟨rfl, ?_⟩
      refine reck17_of hB (e := .and (litX 2 1) e) rfl and_wf (by omega) (r := some v) (by simp only [wv, litX, hv, hk]; rfl) ⟨rfl, ?_⟩
      exact reck17_of hB (e := .or (litX 2 0) e) rfl or_wf (by omega) (r := some v) (by simp only [wv, litX, hv, hk]; rfl) ⟨rfl, hk, neV_same _ _ _, neV_same _ _ _, fin rfl⟩

end Go.Ai
