/-
  MAPS.
-/
import Derived.Test.YtndloeajkfajnaaAiOps6
set_option linter.unusedVariables false
set_option linter.unusedSimpArgs false
namespace Go.Ai
section
variable {P : Program} {X : Nat → Nat → Prop} {E : Env} {H : List Blk} {w : World} {im : Nat → Nat → Prop}

theorem EntsIn_get : ∀ {es : List (Value × AV × Nat)} {ms : List MapEntry} {i : Nat} {e : Value × AV × Nat}, EntsIn im w E es ms → es[i]? = some e →
    ∃ m, ms[i]? = some m ∧ m.key = e.1 ∧ V im w e.2.1 E m.val ∧ m.born = e.2.2
  | [], _, i, e, _, h => by simp at h
  | d :: es, ms, 0, e, h, he => by
    obtain ⟨m, r, rfl, h2, h3, h4, h5⟩ := h
    simp only [List.getElem?_cons_zero, Option.some.injEq] at he
    subst he
    exact ⟨m, by simp, h2, h3, h4⟩
  | d :: es, ms, i + 1, e, h, he => by
    obtain ⟨m, r, rfl, h2, h3, h4, h5⟩ := h
    obtain ⟨m', h6⟩ := EntsIn_get h5 (by simpa using he)
    exact ⟨m', by simpa using h6.1, h6.2⟩

theorem EntsIn_set : ∀ {es : List (Value × AV × Nat)} {ms : List MapEntry} {i : Nat} {e : Value × AV × Nat} {m : MapEntry}, EntsIn im w E es ms → m.key = e.1 → V im w e.2.1 E m.val → m.born = e.2.2 →
    EntsIn im w E (es.set i e) (ms.set i m)
  | [], ms, i, e, m, h, _, _, _ => by
    have h : ms = [] := h
    subst h
    simp [EntsIn]
  | d :: es, ms, 0, e, m, h, h1, h2, h3 => by
    obtain ⟨m0, r, rfl, _, _, _, h5⟩ := h
    exact ⟨m, r, rfl, h1, h2, h3, h5⟩
  | d :: es, ms, i + 1, e, m, h, h1, h2, h3 => by
    obtain ⟨m0, r, rfl, g1, g2, g3, h5⟩ := h
    exact ⟨m0, r.set i m, rfl, g1, g2, g3, EntsIn_set h5 h1 h2 h3⟩

theorem EntsIn_push : ∀ {es : List (Value × AV × Nat)} {ms : List MapEntry} {e : Value × AV × Nat} {m : MapEntry}, EntsIn im w E es ms → m.key = e.1 → V im w e.2.1 E m.val → m.born = e.2.2 →
    EntsIn im w E (es ++ [e]) (ms ++ [m])
  | [], ms, e, m, h, h1, h2, h3 => by
    have h : ms = [] := h
    subst h
    exact ⟨m, [], rfl, h1, h2, h3, rfl⟩
  | d :: es, ms, e, m, h, h1, h2, h3 => by
    obtain ⟨m0, r, rfl, g1, g2, g3, h5⟩ := h
    exact ⟨m0, r ++ [m], rfl, g1, g2, g3, EntsIn_push h5 h1 h2 h3⟩

theorem EntsIn_erase : ∀ {es : List (Value × AV × Nat)} {ms : List MapEntry} {i : Nat}, EntsIn im w E es ms → EntsIn im w E (es.eraseIdx i) (ms.eraseIdx i)
  | [], ms, i, h => by
    have h : ms = [] := h
    subst h
    simp [EntsIn]
  | d :: es, ms, 0, h => by
    obtain ⟨m0, r, rfl, _, _, _, h5⟩ := h
    exact h5
  | d :: es, ms, i + 1, h => by
    obtain ⟨m0, r, rfl, g1, g2, g3, h5⟩ := h
    exact ⟨m0, r.eraseIdx i, rfl, g1, g2, g3, EntsIn_erase h5⟩

theorem findNowA_sound {d : TypeDesc} {k : Value} : ∀ {es : List (Value × AV × Nat)} {ms : List MapEntry} {i : Nat} {r : Option Nat}, EntsIn im w E es ms → findNowA d k es i = some r →
    ∃ q, Instr.findNow d k ms i = some q ∧ q.map (·.1) = r ∧ ∀ j v, q = some (j, v) → i ≤ j ∧ ∃ m, ms[j - i]? = some m ∧ v = m.val
  | [], ms, i, r, h, hf => by
    have h : ms = [] := h
    subst h
    simp only [findNowA, Option.some.injEq] at hf
    subst hf
    exact ⟨none, rfl, rfl, fun j v hq => by cases hq⟩
  | e :: es, ms, i, r, h, hf => by
    obtain ⟨m, rest, rfl, h2, h3, h4, h5⟩ := h
    simp only [findNowA] at hf
    simp only [Instr.findNow, h2]
    split at hf
    · rename_i hs
      cases hf
      rw [hs]
      exact ⟨_, rfl, rfl, fun j v hq => by cases hq; exact ⟨Nat.le_refl _, m, by simp, rfl⟩⟩
    · rename_i hs
      rw [hs]
      obtain ⟨q, h6, h7, h8⟩ := findNowA_sound h5 hf
      refine ⟨q, h6, h7, fun j v hq => ?_⟩
      obtain ⟨h9, m', h10, h11⟩ := h8 j v hq
      refine ⟨by omega, m', ?_, h11⟩
      rw [show j - i = (j - (i + 1)) + 1 from by omega]
      simpa using h10
    · cases hf

theorem findAskA_sound {kt : TypeId} {k : Value} : ∀ {es : List (Value × AV × Nat)} {ms : List MapEntry} {i : Nat} {r : Option Nat}, EntsIn im w E es ms → findAskA P kt k es i = some r →
    ∃ q, (Instr.findAsking kt k ms i).run P w = .ok q w ∧ q.map (·.1) = r ∧ ∀ j v, q = some (j, v) → i ≤ j ∧ ∃ m, ms[j - i]? = some m ∧ v = m.val
  | [], ms, i, r, h, hf => by
    have h : ms = [] := h
    subst h
    simp only [findAskA, Option.some.injEq] at hf
    subst hf
    exact ⟨none, rfl, rfl, fun j v hq => by cases hq⟩
  | e :: es, ms, i, r, h, hf => by
    obtain ⟨m, rest, rfl, h2, h3, h4, h5⟩ := h
    simp only [findAskA] at hf
    simp only [Instr.findAsking, h2]
    split at hf
    · rename_i hs
      cases hf
      have := pureRun_run P _ _ hs w
      exact ⟨some (i, m.val), by simp [this], rfl, fun j v hq => by cases hq; exact ⟨Nat.le_refl _, m, by simp, rfl⟩⟩
    · rename_i hs
      have := pureRun_run P _ _ hs w
      obtain ⟨q, h6, h7, h8⟩ := findAskA_sound h5 hf
      refine ⟨q, by simp [this, h6], h7, fun j v hq => ?_⟩
      obtain ⟨h9, m', h10, h11⟩ := h8 j v hq
      refine ⟨by omega, m', ?_, h11⟩
      rw [show j - i = (j - (i + 1)) + 1 from by omega]
      simpa using h10
    · cases hf

theorem findA_sound {kt : TypeId} {k : Value} {es : List (Value × AV × Nat)} {ms : List MapEntry} {r : Option Nat} (h : EntsIn im w E es ms) (hf : findA P kt k es = some r) :
    ∃ q, (Instr.findKey kt k ms).run P w = .ok q w ∧ q.map (·.1) = r ∧ ∀ j v, q = some (j, v) → ∃ m, ms[j]? = some m ∧ v = m.val := by
  unfold findA at hf
  split at hf
  · rename_i d hd
    split at hf
    · obtain ⟨q, h1, h2, h3⟩ := findNowA_sound h hf
      refine ⟨q, by simp [Instr.findKey, run_underlying hd, h1], h2, fun j v hq => ?_⟩
      obtain ⟨_, m, h4, h5⟩ := h3 j v hq
      exact ⟨m, by simpa using h4, h5⟩
    · rename_i hk
      obtain ⟨q, h1, h2, h3⟩ := findAskA_sound h hf
      refine ⟨q, ?_, h2, fun j v hq => ?_⟩
      · cases ms with
        | nil => simp only [Instr.findAsking, Sem.run_pure] at h1; simp [Instr.findKey, run_underlying hd, Instr.findNow, h1]
        | cons m ms =>
          have hn : Instr.sameNow d k m.key = none := by
            cases d <;> simp [keyKind] at hk <;> simp [Instr.sameNow]
          have : Instr.findNow d k (m :: ms) 0 = none := by simp [Instr.findNow, hn]
          simp only [Instr.findKey, Sem.run_bind, run_underlying hd, Result.andThen_ok, this, h1]
      · obtain ⟨_, m, h4, h5⟩ := h3 j v hq
        exact ⟨m, by simpa using h4, h5⟩
  · cases hf

theorem lookupA_sound (h : HRel X E H w) {t : TypeId} {a ix v : AV} {x k : Value} {ok : Bool} (ha : V (Im X E H w) w a E x) (hi : V (Im X E H w) w ix E k) (hv : lookupA P H t a ix ok = some v) :
    ∃ y, (Instr.lookup t x k ok).run P w = .ok y w ∧ V (Im X E H w) w v E y := by
  unfold lookupA at hv
  split at hv
  case h_2 => cases hv
  rename_i kt et ht
  split at hv
  case h_2 => cases hv
  rename_i k0 es z hk hes hz
  have := V_conc hk hi
  subst this
  obtain ⟨ms, hms, hrun⟩ : ∃ ms : Array MapEntry, EntsIn (Im X E H w) w E es ms.toList ∧
      ((x = .map none ∧ ms = #[]) ∨ ∃ r clock, x = .map (some r) ∧ (getObj r).run P w = .ok (.map ms clock) w) := by
    unfold entsA at hes
    split at hes
    · cases hes
      simp only [V] at ha
      exact ⟨#[], rfl, .inl ⟨ha, rfl⟩⟩
    · rename_i b
      split at hes
      · rename_i es0 clock hb
        cases hes
        obtain ⟨l, ms, hE, hl, hg, hh, he⟩ := h.map hb
        have := V_mp ha hE hl hg
        subst this
        have hget : (getObj l.B).run P w = .ok (.map ms clock) w := by simp only [getObj, Sem.run, hh]
        exact ⟨ms, he, .inr ⟨l.B, clock, rfl, hget⟩⟩
      · cases hes
    · cases hes
  have hemp : ms.isEmpty = es.isEmpty := by
    have := EntsIn_length hms
    simp only [Array.length_toList] at this
    rw [Bool.eq_iff_iff]
    simp [Array.isEmpty_iff, ← Array.size_eq_zero_iff, this]
  split at hv
  · rename_i u i hck hf
    split at hv
    · rename_i e he
      cases hv
      obtain ⟨q, h1, h2, h3⟩ := findA_sound (P := P) hms hf
      have hckr := pureRun_run P _ _ hck w
      cases q with
      | none => simp at h2
      | some q =>
        obtain ⟨j, v⟩ := q
        simp only [Option.map_some, Option.some.injEq] at h2
        subst h2
        obtain ⟨m, h4, rfl⟩ := h3 _ _ rfl
        obtain ⟨m', h5, h6, h7, h8⟩ := EntsIn_get hms he
        rw [h4] at h5
        cases h5
        refine ⟨if ok then .tuple #[m.val, .bool true] else m.val, ?_, ?_⟩
        · rcases hrun with ⟨rfl, rfl⟩ | ⟨r, clock, rfl, hget⟩
          · simp only [Instr.lookup, Sem.run_bind, run_underlying ht, Result.andThen_ok, hemp, hckr, h1, Sem.run_pure]
          · simp only [Instr.lookup, Sem.run_bind, run_underlying ht, Result.andThen_ok, hget, hemp, hckr, h1, Sem.run_pure]
        · cases ok
          · exact h7
          · simp only [if_true, V]
            exact ⟨_, rfl, by simp only [VL]; exact ⟨_, _, rfl, h7, _, _, rfl, by simp [V], rfl⟩⟩
    · cases hv
  · rename_i u hck hf
    cases hv
    obtain ⟨q, h1, h2, h3⟩ := findA_sound (P := P) hms hf
    have hckr := pureRun_run P _ _ hck w
    have : q = none := by simpa using h2
    subst this
    refine ⟨if ok then .tuple #[z, .bool false] else z, ?_, ?_⟩
    · rcases hrun with ⟨rfl, rfl⟩ | ⟨r, clock, rfl, hget⟩
      · simp only [Instr.lookup, Sem.run_bind, run_underlying ht, Result.andThen_ok, hemp, hckr, h1, run_zeroValue hz, Sem.run_pure]
      · simp only [Instr.lookup, Sem.run_bind, run_underlying ht, Result.andThen_ok, hget, hemp, hckr, h1, run_zeroValue hz, Sem.run_pure]
    · cases ok
      · exact V_absV E z
      · simp only [if_true, V]
        exact ⟨_, rfl, by simp only [VL]; exact ⟨_, _, rfl, V_absV E z, _, _, rfl, by simp [V], rfl⟩⟩
  · cases hv

theorem frz_map (h : HRel X E H w) {b clock : Nat} {es : List (Value × AV × Nat)} (hb : H[b]? = some (.map es clock)) {l : LB} (hE : E b = some l) : frzO w.heap[l.B]? = (0, 0) := by
  obtain ⟨l', ms, e, _, _, hh, _⟩ := h.blk b _ hb
  rw [hE] at e
  cases e
  rw [hh]
  rfl

/-- A map is turned. -/
theorem HRel.mapTurn (h : HRel X E H w) {b clock clock' : Nat} {es es' : List (Value × AV × Nat)} (hb : H[b]? = some (.map es clock)) {l : LB} (hE : E b = some l) (hl : l.live = true) (hg : l.g = 0) {ms' : Array MapEntry}
    (he : EntsIn (Im X E H w) w E es' ms'.toList) :
    HRel X E (H.set b (.map es' clock')) { w with heap := w.heap.setIfInBounds l.B (.map ms' clock') } ∧ Step X E H w E (H.set b (.map es' clock')) { w with heap := w.heap.setIfInBounds l.B (.map ms' clock') } := by
  have hB := h.lt hE hl
  have hT : Turn X E H w b (.map es' clock') l { w with heap := w.heap.setIfInBounds l.B (.map ms' clock') } :=
    { live := hl, still := Still.of_one ⟨rfl, rfl⟩ rfl (B := l.B) (fun x hx => by show (w.heap.setIfInBounds l.B _)[x]? = _; rw [Array.getElem?_setIfInBounds_ne (Ne.symm hx)]) (frz_map h hb hE) (by show frzO (w.heap.setIfInBounds l.B _)[l.B]? = _; rw [Array.getElem?_setIfInBounds_self_of_lt hB]; rfl), size := by simp, place := .inr ⟨l, hE, hl, rfl⟩,
      other := fun B hB hn => by
        show (w.heap.setIfInBounds l.B _)[B]? = _
        rw [Array.getElem?_setIfInBounds_ne (fun e => hn l hE hl e)],
      ed := fun l0 h0 => (by rw [hE] at h0; cases h0; exact ⟨Nat.le_refl _, fun _ => ⟨hl, rfl, rfl, rfl, rfl⟩⟩),
      zone := fun l0 h0 _ size' g' es' hk' => (by rw [hb] at hk'; cases hk'),
      cell := fun l0 h0 _ size' g' es' hk' => (by rw [hb] at hk'; cases hk') }
  have hP : Put H b (.map es' clock') (H.set b (.map es' clock')) := Put.set hb
  have hres := h.turn hP hT (h.xs b l hE hl) ⟨l, ms', rfl, hl, hg, by
    show (w.heap.setIfInBounds l.B _)[l.B]? = _
    rw [Array.getElem?_setIfInBounds_self_of_lt hB], EntsIn_mono (hT.im h hP) hT.le he⟩
  rw [upd_self hE] at hres
  exact hres

theorem mapUpdateA_sound (h : HRel X E H w) {t : TypeId} {a ix v : AV} {x k y : Value} {H' : List Blk} (ha : V (Im X E H w) w a E x) (hi : V (Im X E H w) w ix E k) (hy : V (Im X E H w) w v E y)
    (hv : mapUpdateA P H t a ix v = some H') : ∃ w', (Instr.mapUpdate t x k y).run P w = .ok () w' ∧ HRel X E H' w' ∧ Step X E H w E H' w' := by
  unfold mapUpdateA at hv
  split at hv
  case h_2 => cases hv
  rename_i kt et b k0 ht hk
  have := V_conc hk hi
  subst this
  split at hv
  case h_2 => cases hv
  rename_i es clock hb
  obtain ⟨l, ms, hE, hl, hg, hh, hes⟩ := h.map hb
  have := V_mp ha hE hl hg
  subst this
  have hget : (getObj l.B).run P w = .ok (.map ms clock) w := by simp only [getObj, Sem.run, hh]
  have hset : ∀ o, (setObj l.B o).run P w = .ok () { w with heap := w.heap.setIfInBounds l.B o } := fun o => by simp only [setObj, Sem.run, hh]
  split at hv
  · rename_i u i hck hf
    split at hv
    case h_2 => cases hv
    rename_i e he
    split at hv
    case isFalse => cases hv
    rename_i hsb
    cases hv
    obtain ⟨q, h1, h2, h3⟩ := findA_sound (P := P) hes hf
    have hckr := pureRun_run P _ _ hck w
    cases q with
    | none => simp at h2
    | some q =>
      obtain ⟨j, v0⟩ := q
      simp only [Option.map_some, Option.some.injEq] at h2
      subst h2
      obtain ⟨m, h4, _⟩ := h3 _ _ rfl
      obtain ⟨m', h5, h6, h7, h8⟩ := EntsIn_get hes he
      rw [h4] at h5
      cases h5
      rw [Array.getElem?_toList] at h4
      have hkey : (Instr.keyThatStays (((ms[j]?).map (·.key)).getD k) k).run P w = .ok k w := by
        rw [h4]
        simp only [Option.map_some, Option.getD_some, h6, Instr.keyThatStays, hsb, if_true, Sem.run_pure]
      have hmod : ms.modify j (fun e => { e with key := k, val := y }) = (ms.toList.set j { key := k, val := y, born := m.born }).toArray := by
        apply Array.ext'
        apply List.ext_getElem?
        intro q
        rw [Array.getElem?_toList, Array.getElem?_modify, List.getElem?_toArray, List.getElem?_set]
        have hj : j < ms.toList.length := by
          rcases Nat.lt_or_ge j ms.size with h9 | h9
          · simpa using h9
          · rw [Array.getElem?_eq_none h9] at h4; cases h4
        by_cases e1 : j = q
        · subst e1
          have hj2 : j < ms.size := by simpa using hj
          have h4' : ms[j] = m := by simpa [Array.getElem?_eq_getElem hj2] using h4
          simp [h4, hj2, h4']
        · simp [e1]
      have hent : EntsIn (Im X E H w) w E (es.set j (k, v, e.2.2)) (ms.toList.set j { key := k, val := y, born := m.born }).toArray.toList :=
        EntsIn_set (m := { key := k, val := y, born := m.born }) hes rfl hy h8
      obtain ⟨h9, h10⟩ := h.mapTurn (clock' := clock) hb hE hl hg hent
      refine ⟨_, ?_, h9, h10⟩
      simp only [Instr.mapUpdate, Sem.run_bind, run_underlying ht, Result.andThen_ok, hget, hckr, h1, hkey, hset, hmod]
  · rename_i u hck hf
    cases hv
    obtain ⟨q, h1, h2, h3⟩ := findA_sound (P := P) hes hf
    have hckr := pureRun_run P _ _ hck w
    have : q = none := by simpa using h2
    subst this
    have hent : EntsIn (Im X E H w) w E (es ++ [(k, v, clock)]) (ms.push { key := k, val := y, born := clock }).toList := by
      rw [Array.toList_push]
      exact EntsIn_push (m := { key := k, val := y, born := clock }) hes rfl hy rfl
    obtain ⟨h9, h10⟩ := h.mapTurn (clock' := clock + 1) hb hE hl hg hent
    refine ⟨_, ?_, h9, h10⟩
    simp only [Instr.mapUpdate, Sem.run_bind, run_underlying ht, Result.andThen_ok, hget, hckr, h1, hset]
  · cases hv

theorem deleteA_sound (h : HRel X E H w) {argTypes : Array TypeId} {ty t : TypeId} {a ix : AV} {x k : Value} {H' : List Blk} (h0 : argTypes[0]? = some t) (ha : V (Im X E H w) w a E x) (hi : V (Im X E H w) w ix E k)
    (hv : deleteA P H t a ix = some H') : ∃ w', (Builtin.delete_ argTypes ty #[x, k]).run P w = .ok (.tuple #[]) w' ∧ HRel X E H' w' ∧ Step X E H w E H' w' := by
  unfold deleteA at hv
  split at hv
  · rename_i kt et k0 ht hk
    have := V_conc hk hi
    subst this
    simp only [V] at ha
    subst ha
    split at hv
    · rename_i u hck
      cases hv
      have hckr := pureRun_run P _ _ hck w
      exact ⟨w, by simp [Builtin.delete_, h0, run_underlying ht, hckr], h, Step.refl⟩
    · cases hv
  · rename_i kt et b k0 ht hk
    have := V_conc hk hi
    subst this
    split at hv
    case h_2 => cases hv
    rename_i es clock hb
    obtain ⟨l, ms, hE, hl, hg, hh, hes⟩ := h.map hb
    have := V_mp ha hE hl hg
    subst this
    have hget : (getObj l.B).run P w = .ok (.map ms clock) w := by simp only [getObj, Sem.run, hh]
    have hset : ∀ o, (setObj l.B o).run P w = .ok () { w with heap := w.heap.setIfInBounds l.B o } := fun o => by simp only [setObj, Sem.run, hh]
    have hemp : ms.isEmpty = es.isEmpty := by
      have := EntsIn_length hes
      simp only [Array.length_toList] at this
      rw [Bool.eq_iff_iff]
      simp [Array.isEmpty_iff, ← Array.size_eq_zero_iff, this]
    split at hv
    · rename_i u i hck hf
      cases hv
      obtain ⟨q, h1, h2, h3⟩ := findA_sound (P := P) hes hf
      have hckr := pureRun_run P _ _ hck w
      cases q with
      | none => simp at h2
      | some q =>
        obtain ⟨j, v0⟩ := q
        simp only [Option.map_some, Option.some.injEq] at h2
        subst h2
        obtain ⟨m, h4, _⟩ := h3 _ _ rfl
        have hj : j < ms.size := by
          rcases Nat.lt_or_ge j ms.toList.length with h9 | h9
          · simpa using h9
          · rw [List.getElem?_eq_none h9] at h4; cases h4
        have her : (ms.eraseIdxIfInBounds j).toList = ms.toList.eraseIdx j := by
          simp [Array.eraseIdxIfInBounds, hj]
        obtain ⟨h9, h10⟩ := h.mapTurn (ms' := ms.eraseIdxIfInBounds j) (clock' := clock) hb hE hl hg (by rw [her]; exact EntsIn_erase hes)
        refine ⟨_, ?_, h9, h10⟩
        simp only [Builtin.delete_, h0, List.getElem?_toArray, List.getElem?_cons_zero, List.getElem?_cons_succ, Sem.run_bind, run_underlying ht, Result.andThen_ok, hget, hemp, hckr, h1, hset, Sem.run_pure]
    · rename_i u hck hf
      cases hv
      obtain ⟨q, h1, h2, h3⟩ := findA_sound (P := P) hes hf
      have hckr := pureRun_run P _ _ hck w
      have : q = none := by simpa using h2
      subst this
      have hsame : (w.heap.setIfInBounds l.B (.map ms clock)) = w.heap := by
        apply Array.ext_getElem?
        intro q
        rw [Array.getElem?_setIfInBounds]
        by_cases e1 : l.B = q
        · subst e1
          rw [if_pos rfl, if_pos (h.lt hE hl), hh]
        · simp [e1]
      refine ⟨w, ?_, h, Step.refl⟩
      simp only [Builtin.delete_, h0, List.getElem?_toArray, List.getElem?_cons_zero, List.getElem?_cons_succ, Sem.run_bind, run_underlying ht, Result.andThen_ok, hget, hemp, hckr, h1, hset, hsame, Sem.run_pure]
    · cases hv
  · cases hv

/-- Rows written over in an own block. -/
theorem HRel.splice (h : HRel X E H w) {b size g p : Nat} {es ys : List (List AV)} (hk : H[b]? = some (.cells size g es false)) {l : LB} {C : Array Value} {t : TypeId} (hE : E b = some l) (hl : l.live = true) (hg : l.g = g)
    (hs : l.size = size) (hK : es.length ≤ l.K) (hh : w.heap[l.B]? = some (.cells C t (0, 0))) (hC : l.o + l.K * size ≤ C.size) (hR : RowsIn (Im X E H w) w E C l.o size es) {news : List Value}
    (hnl : news.length = ys.length * size) (hnr : RowsIn (Im X E H w) w E news.toArray 0 size ys) (hone : ∀ u ∈ news, u.oneCell' = true) (hp : p + ys.length ≤ es.length) :
    ∃ w', (storeCells ⟨l.B, l.o + p * size, none⟩ news).run P w = .ok () w' ∧ HRel X E (H.set b (.cells size g (es.take p ++ ys ++ es.drop (p + ys.length)) false)) w' ∧
      Step X E H w E (H.set b (.cells size g (es.take p ++ ys ++ es.drop (p + ys.length)) false)) w' := by
  have hfitC : l.o + p * size + news.length ≤ C.size := by
    have h2 : (p + ys.length) * size ≤ l.K * size := Nat.mul_le_mul_right _ (by omega)
    rw [Nat.add_mul] at h2
    rw [hnl]
    omega
  have hst := run_storeCells_at P l.B (l.o + p * size) t news 0 C w hh (by simpa using hfitC) hone
  simp only [Nat.add_zero] at hst
  refine ⟨_, hst, ?_⟩
  generalize hC' : C.toList.take (l.o + p * size) ++ news ++ C.toList.drop (l.o + p * size + news.length) = C' at *
  have hget : ∀ q : Nat, C'[q]? = if l.o + p * size ≤ q ∧ q < l.o + p * size + news.length then news[q - (l.o + p * size)]? else C[q]? := by
    intro q
    rw [← hC', splice_get _ _ _ (by simpa using hfitC), Array.getElem?_toList (xs := C)]
  have hlenC : C'.length = C.size := by rw [← hC']; simp at hfitC ⊢; omega
  have hT : Turn X E H w b (.cells size g (es.take p ++ ys ++ es.drop (p + ys.length)) false) l (w.setRow l.B C'.toArray) :=
    { live := hl, still := Still.setRow hh, size := by simp, place := .inr ⟨l, hE, hl, rfl⟩,
      other := fun B hB hn => setRow_other w l.B B _ fun e => hn l hE hl e.symm
      ed := fun l0 h0 => by rw [hE] at h0; cases h0; exact ⟨Nat.le_refl _, fun _ => ⟨hl, rfl, rfl, rfl, rfl⟩⟩
      zone := fun l0 h0 _ size' g' es' hk' => by rw [hk] at hk'; cases hk'
      cell := fun l0 h0 _ size' g' es' hk' => by rw [hk] at hk'; cases hk' }
  have hP : Put H b (.cells size g (es.take p ++ ys ++ es.drop (p + ys.length)) false) (H.set b (.cells size g (es.take p ++ ys ++ es.drop (p + ys.length)) false)) := Put.set hk
  have him := hT.im h hP
  have hres := h.turn hP hT (h.xs b l hE hl) (by
    refine .inr ⟨l, C'.toArray, t, rfl, hl, hg, hs, ?_, setRow_heap w l.B C _ t _ hh, by rw [List.size_toArray, hlenC]; exact hC, ?_⟩
    · simp; omega
    · intro k row hk2
      rw [splice_get _ _ _ (by omega)] at hk2
      simp only [List.getElem?_toArray]
      by_cases hin : p ≤ k ∧ k < p + ys.length
      · rw [if_pos hin] at hk2
        obtain ⟨h7, h8⟩ := hnr _ row hk2
        refine ⟨h7, fun j c hj => ?_⟩
        obtain ⟨x, hx, hx1, hxv⟩ := h8 j c hj
        refine ⟨x, ?_, hx1, V_mono him c hT.le hxv⟩
        simp only [Nat.zero_add, List.getElem?_toArray] at hx
        have hlt2 : (k - p) * size + j < news.length := by
          rcases Nat.lt_or_ge ((k - p) * size + j) news.length with h9 | h9
          · exact h9
          · rw [List.getElem?_eq_none h9] at hx; cases hx
        have h10 : p * size + (k - p) * size = k * size := by rw [← Nat.add_mul]; congr 1; omega
        rw [hget, if_pos (by omega), ← hx]
        congr 1
        omega
      · rw [if_neg hin] at hk2
        obtain ⟨h7, h8⟩ := hR _ row hk2
        refine ⟨h7, fun j c hj => ?_⟩
        obtain ⟨x, hx, hx1, hxv⟩ := h8 j c hj
        refine ⟨x, ?_, hx1, V_mono him c hT.le hxv⟩
        have hjl : j < row.length := by
          rcases Nat.lt_or_ge j row.length with h9 | h9
          · exact h9
          · rw [List.getElem?_eq_none h9] at hj; cases hj
        rw [hget, if_neg, hx]
        have e2 : p * size + news.length = (p + ys.length) * size := by rw [hnl, ← Nat.add_mul]
        rcases Nat.lt_or_ge k p with h10 | h10
        · have : (k + 1) * size ≤ p * size := Nat.mul_le_mul_right _ h10
          rw [Nat.add_mul] at this
          omega
        · have : (p + ys.length) * size ≤ k * size := Nat.mul_le_mul_right _ (by omega)
          omega)
  rw [upd_self hE] at hres
  exact hres

theorem clearA_sound (h : HRel X E H w) {argTypes : Array TypeId} {ty t : TypeId} {a : AV} {x : Value} {H' : List Blk} (h0 : argTypes[0]? = some t) (ha : V (Im X E H w) w a E x)
    (hv : clearA P H t a = some H') : ∃ w', (Builtin.clear_ argTypes ty #[x]).run P w = .ok (.tuple #[]) w' ∧ HRel X E H' w' ∧ Step X E H w E H' w' := by
  unfold clearA at hv
  split at hv
  · rename_i kt et ht
    cases hv
    simp only [V] at ha
    subst ha
    exact ⟨w, by simp [Builtin.clear_, h0, run_underlying ht], h, Step.refl⟩
  · rename_i kt et b ht
    split at hv
    · rename_i es clock hb
      cases hv
      obtain ⟨l, ms, hE, hl, hg, hh, hes⟩ := h.map hb
      have := V_mp ha hE hl hg
      subst this
      have hget : (getObj l.B).run P w = .ok (.map ms clock) w := by simp only [getObj, Sem.run, hh]
      have hset : ∀ o, (setObj l.B o).run P w = .ok () { w with heap := w.heap.setIfInBounds l.B o } := fun o => by simp only [setObj, Sem.run, hh]
      obtain ⟨h9, h10⟩ := h.mapTurn (es' := []) (ms' := #[]) (clock' := clock) hb hE hl hg rfl
      exact ⟨_, by simp [Builtin.clear_, h0, run_underlying ht, hget, hset], h9, h10⟩
    · cases hv
  · rename_i et ht
    cases hv
    simp only [V] at ha
    subst ha
    exact ⟨w, by simp [Builtin.clear_, h0, run_underlying ht], h, Step.refl⟩
  · rename_i elem b g start len cap ht
    split at hv
    case h_2 => cases hv
    rename_i sz g' es size zs hk hsz hz
    split at hv
    · rename_i hl0
      cases hv
      subst hl0
      have hx : ∃ p c, x = .slice (some p) 0 c := by
        simp only [V] at ha
        obtain ⟨_, p, c, _, _, rfl, _⟩ := ha
        exact ⟨p, c, rfl⟩
      obtain ⟨p, c, rfl⟩ := hx
      exact ⟨w, by simp [Builtin.clear_, h0, run_underlying ht], h, Step.refl⟩
    · rename_i hl0
      split at hv
      case isFalse => cases hv
      rename_i hq
      obtain ⟨rfl, hs0, hzl, rfl, hle⟩ := hq
      cases hv
      obtain ⟨l, C, t0, hE, hl, hg, hs, hK, hh, hC, hR⟩ := h.own hk (V_sl_has ha)
      obtain ⟨p, c, rfl, hlc, hp, _, _⟩ := V_slice_ok ha hE hl hg
      have hp2 : p = ⟨l.B, l.o + start * l.size, none⟩ := by
        rcases hp with h1 | h1
        · omega
        · exact h1
      subst hp2
      simp only [Option.bind_eq_some_iff] at hz
      obtain ⟨z, hz, hcs⟩ := hz
      obtain ⟨hvl, hsg⟩ := V_cells (im := Im X E H w) (w := w) (E := E) hcs (V_absV E z)
      have hzc : z.cells.size = sz := by have := VL_length hvl; simp at this; omega
      have hzeq : (Builtin.zeroCells z.cells len) = madeCells z.cells (len * sz) := by
        unfold Builtin.zeroCells madeCells
        rw [hzc]
      have hnr : RowsIn (Im X E H w) w E (madeCells z.cells (len * sz)).toList.toArray 0 sz (List.replicate len zs) := by
        intro k row hk
        rw [List.getElem?_replicate] at hk
        split at hk
        · rename_i hlt
          cases hk
          refine ⟨hzl, fun j d hj => ?_⟩
          obtain ⟨y, hy, hyv⟩ := VL_get hvl hj
          have hjl : j < sz := by
            rcases Nat.lt_or_ge j zs.length with h9 | h9
            · omega
            · rw [List.getElem?_eq_none h9] at hj; cases hj
          refine ⟨y, ?_, oneCell_of_single (hsg d (List.mem_of_getElem? hj)) hyv, hyv⟩
          have hq : k * sz + j < len * sz := by
            have : (k + 1) * sz ≤ len * sz := Nat.mul_le_mul_right _ hlt
            rw [Nat.add_mul] at this
            omega
          rw [Nat.zero_add, Array.toArray_toList, madeCells_get _ _ _ hq (by omega), hzc, Nat.mul_comm k, Nat.mul_add_mod, Nat.mod_eq_of_lt hjl]
          simpa using hy
        · cases hk
      have hone : ∀ u ∈ (madeCells z.cells (len * sz)).toList, u.oneCell' = true := by
        intro u hu
        obtain ⟨q, hq, rfl⟩ := List.getElem_of_mem hu
        simp only [Array.length_toList, size_madeCells] at hq
        have hmod : q % z.cells.size < zs.length := by rw [hzc, hzl]; exact Nat.mod_lt _ (by omega)
        obtain ⟨y, hy, hyv⟩ := VL_get hvl (List.getElem?_eq_getElem hmod)
        have h1 := madeCells_get z.cells (len * sz) q hq (by omega)
        rw [Array.getElem?_toList] at hy
        rw [hy] at h1
        have h2 : (madeCells z.cells (len * sz)).toList[q]? = some y := by rw [Array.getElem?_toList]; exact h1
        rw [List.getElem?_eq_getElem (by simpa [size_madeCells] using hq)] at h2
        cases h2
        exact oneCell_of_single (hsg _ (List.getElem_mem hmod)) hyv
      obtain ⟨w', h1, h2, h3⟩ := h.splice (P := P) (p := start) hk hE hl hg hs hK hh hC hR (news := (madeCells z.cells (len * sz)).toList) (by simp [size_madeCells]) hnr hone (by simp; omega)
      simp only [List.length_replicate] at h2 h3
      refine ⟨w', ?_, h2, h3⟩
      have hlen : ∀ n, len = n + 1 → True := fun _ _ => trivial
      cases len with
      | zero => exact absurd rfl hl0
      | succ n =>
        rw [hs]
        simp only [Builtin.clear_, h0, List.getElem?_toArray, List.getElem?_cons_zero, Sem.run_bind, run_underlying ht, Result.andThen_ok, run_zeroValue hz, hzeq, h1, Sem.run_pure]
  · cases hv

end
end Go.Ai
