/-
  CONVERSIONS, LENGTHS, OPERATIONS OF TWO.
-/
import Derived.Test.YtndloeajkfajnaaAiOps4
import Derived.Laws.BytesArg
set_option linter.unusedVariables false
set_option linter.unusedSimpArgs false
namespace Go.Ai
section
variable {P : Program} {X : Nat → Nat → Prop} {E : Env} {H : List Blk} {w : World} {im : Nat → Nat → Prop}

theorem bytesA_get : ∀ {ys : List (List AV)} {l : List UInt8}, bytesA ys = some l → l.length = ys.length ∧ ∀ (i : Nat) (row : List AV), ys[i]? = some row → ∃ n : Int, row = [AV.sc (.int .u8 n)] ∧ l[i]? = some (UInt8.ofNat n.toNat)
  | [], l, h => by
    simp [bytesA] at h
    subst h
    exact ⟨rfl, fun i row hi => by simp at hi⟩
  | y :: ys, l, h => by
    unfold bytesA at h
    simp only [List.mapM_cons, Option.bind_eq_bind, Option.bind_eq_some_iff, Option.pure_def, Option.some.injEq] at h
    obtain ⟨b, hb, l', hl, rfl⟩ := h
    obtain ⟨h1, h2⟩ := bytesA_get (ys := ys) (l := l') hl
    refine ⟨by simp [h1], fun i row hi => ?_⟩
    cases i with
    | zero =>
      simp only [List.getElem?_cons_zero, Option.some.injEq] at hi
      subst hi
      split at hb
      · rename_i n
        cases hb
        exact ⟨n, rfl, by simp⟩
      · cases hb
    | succ i =>
      obtain ⟨n, h3, h4⟩ := h2 i row (by simpa using hi)
      exact ⟨n, h3, by simpa using h4⟩

theorem nums_of : ∀ (m : Nat) (news : List Value) (l : List UInt8), news.length = m → l.length = m → (∀ i : Nat, i < m → ∃ k : Int, news[i]? = some (.int .u8 k) ∧ l[i]? = some (UInt8.ofNat k.toNat)) →
    ∃ ns : List Int, news = ns.map (Value.int .u8) ∧ l = ns.map (fun k => UInt8.ofNat k.toNat)
  | 0, news, l, h1, h2, _ => ⟨[], by simpa using List.length_eq_zero_iff.1 h1, by simpa using List.length_eq_zero_iff.1 h2⟩
  | m + 1, [], l, h1, _, _ => by simp at h1
  | m + 1, _ :: _, [], _, h2, _ => by simp at h2
  | m + 1, a :: news, b :: l, h1, h2, hget => by
    obtain ⟨k, hk1, hk2⟩ := hget 0 (by omega)
    simp only [List.getElem?_cons_zero, Option.some.injEq] at hk1 hk2
    obtain ⟨ns, h7, h8⟩ := nums_of m news l (by simpa using h1) (by simpa using h2) (fun i hi => by
      have := hget (i + 1) (by omega)
      simpa using this)
    exact ⟨k :: ns, by simp [hk1, h7], by simp [hk2, h8]⟩

theorem convert_sound (h : HRel X E H w) {src dst : Nat} {a v : AV} {x : Value} (ha : V (Im X E H w) w a E x) (hv : convertA P H src dst a = some v) :
    ∃ y w', (convert src dst x).run P w = .ok y w' ∧ Good X E H w v H y w' := by
  have slices : ∀ (p : Addr) (n c : Nat), x = .slice (some p) n c → (match P.underlying src, P.underlying dst with
      | some (.slice e), some .string => match P.underlying e with
        | some (.int .u8) => ((elemsA H 1 a).bind bytesA).map fun l => (AV.sc (.string ⟨l.toArray⟩))
        | _ => none
      | _, _ => none) = some v → ∃ y w', (convert src dst x).run P w = .ok y w' ∧ Good X E H w v H y w' := by
    intro p n c hx hv
    split at hv
    · rename_i e h1 h2
      split at hv
      · rename_i h3
        simp only [Option.map_eq_some_iff, Option.bind_eq_some_iff] at hv
        obtain ⟨l, ⟨ys, hy, hb⟩, rfl⟩ := hv
        obtain ⟨hlen, news, hnl, hnr, hnf, _⟩ := elemsA_sound (P := P) h ha hy
        have hn : n = ys.length := by
          have := hlen w
          rw [hx] at this
          simp only [Builtin.lenOf, Sem.run_pure, Result.ok.injEq] at this
          exact this.1
        obtain ⟨hbl, hbg⟩ := bytesA_get hb
        have hload := hnf w rfl
        rw [hx] at hload
        simp only [Builtin.firstCells, Nat.mul_one] at hload
        rw [← hn] at hload
        have hget : ∀ i : Nat, i < ys.length → ∃ k : Int, news[i]? = some (.int .u8 k) ∧ l[i]? = some (UInt8.ofNat k.toNat) := by
          intro i hi
          obtain ⟨k, hk, hlk⟩ := hbg i _ (List.getElem?_eq_getElem hi)
          obtain ⟨_, h5⟩ := hnr i _ (List.getElem?_eq_getElem hi)
          obtain ⟨y, hy1, _, hy2⟩ := h5 0 (.sc (.int .u8 k)) (by rw [hk]; rfl)
          simp only [V] at hy2
          subst hy2
          exact ⟨k, by simpa using hy1, hlk⟩
        obtain ⟨ns, hns, hnsl⟩ := nums_of ys.length news l (by omega) hbl hget
        rw [hns] at hload
        have hrun := run_bytesToString (P := P) w p n c ns hload
        rw [foldl_push_bytes] at hrun
        refine ⟨_, w, ?_, Good.here h (x := .string ⟨l.toArray⟩) (by simp [V])⟩
        rw [hx, hnsl]
        simp [convert, run_underlying h1, run_underlying h2, run_underlying h3, hrun]
      · cases hv
    · cases hv
  unfold convertA at hv
  split at hv
  · simp only [V] at ha
    obtain ⟨p, c, hx, _⟩ := ha
    exact slices p _ c hx hv
  · simp only [V] at ha
    obtain ⟨_, p, c, _, _, hx, _⟩ := ha
    exact slices p _ c hx hv
  · rename_i s
    simp only [V] at ha
    subst ha
    split at hv
    · cases hv
    · simp only [Option.map_eq_some_iff] at hv
      obtain ⟨u, hu, rfl⟩ := hv
      exact ⟨u, w, pureRun_run P _ _ hu w, Good.here h (V_absV E u)⟩
  · simp only [Option.map_eq_some_iff, Option.bind_eq_some_iff] at hv
    obtain ⟨u, ⟨y, hy, hu⟩, rfl⟩ := hv
    have := V_conc hy ha
    subst this
    exact ⟨u, w, pureRun_run P _ _ hu w, Good.here h (V_absV E u)⟩

end
end Go.Ai
