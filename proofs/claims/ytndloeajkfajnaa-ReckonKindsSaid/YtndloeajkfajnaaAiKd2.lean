/-
  ReckonKinds: the run comes to true.
-/
import Derived.Test.YtndloeajkfajnaaAiKd1
import Derived.Test.YtndloeajkfajnaaAiKd0
set_option linter.unusedVariables false
set_option linter.unusedSimpArgs false
namespace Go.Ai
open Go.Proofs Go.RowKit

theorem holds_truth (b : Bool) : holdsV (some (truthV b)) = b := by cases b <;> rfl

section
variable {es : List (List AV)} {bd : UInt8 → UInt8 → Option Vl} {ct : Int}

/-- What is told of two. -/
structure Two (es : List (List AV)) (bd : UInt8 → UInt8 → Option Vl) (ct : Int) (x y : XT) (v w : Vl) : Prop where
  env : BEnv 3 es (some 2) bd ct
  wx : x.wf
  wy : y.wf
  vx : wv bd ct x = some v
  vy : wv bd ct y = some w

theorem Two.wfv {x y : XT} {v w : Vl} (h : Two es bd ct x y v w) : v.wf ∧ w.wf := ⟨wv_wf h.env x h.wx v h.vx, wv_wf h.env y h.wy w h.vy⟩

theorem Two.bin {x y : XT} {v w : Vl} (h : Two es bd ct x y v w) (o : BOp) : wv bd ct (.bin o x y) = bothV o v w := by
  simp only [wv, h.vx, h.vy]

theorem cmp_hold {x y : XT} {v w : Vl} (h : Two es bd ct x y v w) (hk : v.k = w.k) {o : BOp} {t : Bool} (ho : sameV o v w = some (truthV t)) {n : Nat} (hn : 240 * max x.depth y.depth + 1000 ≤ n) {op : List UInt8} (hop : op = o.text) {p : Bool → Prop} {b : Bool} (hb : t = b) (hp : p b) :
    hold21 n (twoC op x.cells y.cells) es p := by
  subst hop hb
  refine hold21_of h.env (e := .bin o x y) rfl ⟨h.wx, h.wy⟩ (by simp only [XT.depth]; omega) (b := t) ?_ hp
  rw [h.bin]
  unfold bothV
  rw [show (v.k == w.k) = true by simpa using hk]
  simp only [cond_true]
  rw [ho, holds_truth]

theorem kinds2_of {x y : XT} {v w : Vl} (h : Two es bd ct x y v w) (hk : v.k = w.k) {n : Nat} (hn : 240 * max x.depth y.depth + 1000 ≤ n) {which : Int} {ar l s m : Bool} (hl : decide (ordV v w < 0) = l) (hs : (ordV v w == 0) = s) (hm : decide (ordV v w > 0) = m)
    (har : decide (which.tmod 8 < 5) = ar) {p : Prop} (hp : p) : kinds2 n which ar l s m x.cells y.cells es v w p := by
  refine cmp_hold h hk (o := .lt) rfl (by omega) rfl hl ⟨rfl, ?_⟩
  refine cmp_hold h hk (o := .eq) rfl (by omega) rfl hs ⟨rfl, ?_⟩
  refine cmp_hold h hk (o := .gt) rfl (by omega) rfl hm ⟨rfl, har, ?_, ?_⟩
  · have := bin_equal v.k v.n w.k w.n ⟨⟨v.s⟩⟩ ⟨⟨w.s⟩⟩ (.tmp 141) (.tmp 142)
    rw [← ord_zero hk, hs] at this
    exact this
  · refine cmp_hold h hk (o := .le) rfl (by omega) rfl (b := !m) ?_ ⟨rfl, ?_⟩
    · rw [← hm]
      by_cases h1 : ordV v w ≤ 0
      · rw [decide_eq_true h1, decide_eq_false (by omega)]; rfl
      · rw [decide_eq_false h1, decide_eq_true (by omega)]; rfl
    · refine cmp_hold h hk (o := .ge) rfl (by omega) rfl (b := !l) ?_ ⟨rfl, ?_⟩
      · rw [← hl]
        by_cases h1 : ordV v w ≥ 0
        · rw [decide_eq_true h1, decide_eq_false (by omega)]; rfl
        · rw [decide_eq_false h1, decide_eq_true (by omega)]; rfl
      · exact cmp_hold h hk (o := .ne) rfl (by omega) rfl (b := !s) (by rw [← hs]; rfl) ⟨rfl, hp⟩

theorem arith_told {o : BOp} (ho : o = .add ∨ o = .sub ∨ o = .mul ∨ o = .div ∨ o = .rem) {v w x : Vl} (hk : v.k = w.k) (h : bothV o v w = some x) : (x.k = 1 ∧ v.k = 1) ∨ (x.k = 3 ∧ v.k = 3 ∧ o = .add) := by
  unfold bothV at h
  rw [show (v.k == w.k) = true by simpa using hk] at h
  simp only [cond_true] at h
  have ar : ∀ {u : Int} {ok : Bool}, arithV v.k u ok = some x → (x.k = 1 ∧ v.k = 1) ∨ (x.k = 3 ∧ v.k = 3 ∧ o = .add) := fun h => .inl ⟨(arithV_wf h).2.1, (arithV_wf h).2.2⟩
  rcases ho with rfl | rfl | rfl | rfl | rfl
  · simp only [sameV] at h
    cases h1 : (v.k == 3)
    · rw [h1] at h; exact ar h
    · rw [h1] at h
      cases h2 : decide (v.s.length + w.s.length ≤ 64)
      · rw [h2] at h; cases h
      · rw [h2] at h
        cases h
        exact .inr ⟨rfl, by simpa using h1, rfl⟩
  · exact ar h
  · exact ar h
  · exact ar h
  · exact ar h

/-- What stands ahead. -/
structure Ahead (n : Nat) (a b m : AV) (es : List (List AV)) (bd : UInt8 → UInt8 → Option Vl) (ct : Int) (x y : XT) : Prop where
  env : BEnv 3 es (some 2) bd ct
  wx : x.wf
  wy : y.wf
  da : isData a = true
  db : isData b = true
  dm : isData m = true
  ea : ToEnd 1100 16 [a] (.ret (.agg x.cells))
  eb : ToEnd 1100 16 [b] (.ret (.agg y.cells))
  em : ToEnd 100 15 [m] (.ret (.ro 3 es (some 2)))
  big : 240 * max x.depth y.depth + 2000 ≤ n

theorem kinds0_of {n : Nat} {a b m : AV} {x y : XT} (h : Ahead n a b m es bd ct x y) {p : List AV → List AV → List (List AV) → Vl → Vl → Prop} {r s : Option Vl} (hr : wv bd ct x = r) (hs : wv bd ct y = s) (hp : p x.cells y.cells es (r.getD zeroV) (s.getD zeroV)) :
    kinds0 n a b m r.isSome s.isSome p := by
  have hb := h.big
  refine made16_of h.da h.ea (by omega) (made16_of h.db h.eb (by omega) ⟨h.dm, es, h.em.mono (by omega), reck17_of h.env (e := x) rfl h.wx (by omega) hr ?_⟩)
  cases r with
  | none =>
    refine ⟨rfl, reck17_of h.env (e := y) rfl h.wy (by omega) hs ?_⟩
    cases s with
    | none => exact ⟨rfl, hp⟩
    | some w => exact ⟨rfl, hp⟩
  | some v =>
    refine ⟨rfl, reck17_of h.env (e := y) rfl h.wy (by omega) hs ?_⟩
    cases s with
    | none => exact ⟨rfl, hp⟩
    | some w => exact ⟨rfl, hp⟩

theorem kinds1_of {n : Nat} {a b m : AV} {x y z : XT} (h : Ahead n a b m es bd ct x y) {p : List AV → List AV → List (List AV) → Vl → Vl → Vl → Prop} {v w : Vl} (hv : wv bd ct x = some v) (hw : wv bd ct y = some w) {which : Int} {op : List UInt8} (ho : pickOp which op)
    (hz : twoC op x.cells y.cells = z.cells) (wz : z.wf) (dz : z.depth ≤ max x.depth y.depth + 1) {r : Option Vl} (hr : wv bd ct z = r) {told ne : Bool} (ht : r.isSome = told) (hn : (v.k != w.k) = ne) (hp : p x.cells y.cells es v w (r.getD zeroV)) : kinds1 n a b m which op told ne p := by
  have hb := h.big
  subst ht
  refine kinds0_of h (r := some v) (s := some w) hv hw ⟨ho, ?_⟩
  refine reck17_of h.env hz wz (by omega) hr ?_
  cases r with
  | none => exact ⟨rfl, hn, hp⟩
  | some u => exact ⟨rfl, hn, hp⟩

theorem bin_text_and (o : BOp) : eqBytes o.text [38, 38] = false := by cases o <;> rfl

/-- An operation that is no &&. -/
theorem bin_ends {n : Nat} {a b m : AV} {x y : XT} (h : Ahead n a b m es bd ct x y) {v w : Vl} (hv : wv bd ct x = some v) (hw : wv bd ct y = some w) {which : Int} {o : BOp} (ho : pickOp which o.text) {ar : Bool} (har : decide (which.tmod 8 < 5) = ar)
    (hat : ar = true → o = .add ∨ o = .sub ∨ o = .mul ∨ o = .div ∨ o = .rem) : ToEnd (n + 200) 9 [a, b, m, .sc (.int .u8 which)] (.ret (.sc (.bool true))) := by
  have T : Two es bd ct x y v w := ⟨h.env, h.wx, h.wy, hv, hw⟩
  have wz : (XT.bin o x y).wf := ⟨h.wx, h.wy⟩
  have hb := h.big
  by_cases hk : v.k = w.k
  · have hne : (v.k != w.k) = false := by simpa using hk
    have tri : ordV v w < 0 ∨ ordV v w = 0 ∨ ordV v w > 0 := by omega
    cases hr : bothV o v w with
    | none =>
      have hr' : wv bd ct (.bin o x y) = none := by rw [T.bin, hr]
      rcases tri with t | t | t
      · cases ar with
        | true => exact ToEnd.ofC (tree9u0t n a b m which o.text _) (kinds1_of h hv hw ho (z := .bin o x y) rfl wz (by simp only [XT.depth]; omega) (r := none) hr' rfl hne (kinds2_of T hk (by omega) (decide_eq_true t) (by simp; omega) (decide_eq_false (by omega)) har rfl))
        | false => exact ToEnd.ofC (tree9u0f n a b m which o.text _) (kinds1_of h hv hw ho (z := .bin o x y) rfl wz (by simp only [XT.depth]; omega) (r := none) hr' rfl hne (kinds2_of T hk (by omega) (decide_eq_true t) (by simp; omega) (decide_eq_false (by omega)) har rfl))
      · cases ar with
        | true => exact ToEnd.ofC (tree9u1t n a b m which o.text _) (kinds1_of h hv hw ho (z := .bin o x y) rfl wz (by simp only [XT.depth]; omega) (r := none) hr' rfl hne (kinds2_of T hk (by omega) (decide_eq_false (by omega)) (by simp [t]) (decide_eq_false (by omega)) har rfl))
        | false => exact ToEnd.ofC (tree9u1f n a b m which o.text _) (kinds1_of h hv hw ho (z := .bin o x y) rfl wz (by simp only [XT.depth]; omega) (r := none) hr' rfl hne (kinds2_of T hk (by omega) (decide_eq_false (by omega)) (by simp [t]) (decide_eq_false (by omega)) har rfl))
      · cases ar with
        | true => exact ToEnd.ofC (tree9u2t n a b m which o.text _) (kinds1_of h hv hw ho (z := .bin o x y) rfl wz (by simp only [XT.depth]; omega) (r := none) hr' rfl hne (kinds2_of T hk (by omega) (decide_eq_false (by omega)) (by simp; omega) (decide_eq_true t) har rfl))
        | false => exact ToEnd.ofC (tree9u2f n a b m which o.text _) (kinds1_of h hv hw ho (z := .bin o x y) rfl wz (by simp only [XT.depth]; omega) (r := none) hr' rfl hne (kinds2_of T hk (by omega) (decide_eq_false (by omega)) (by simp; omega) (decide_eq_true t) har rfl))
    | some u =>
      have hr' : wv bd ct (.bin o x y) = some u := by rw [T.bin, hr]
      cases ar with
      | false =>
        rcases tri with t | t | t
        · exact ToEnd.ofC (tree9t0f n a b m which o.text _) (kinds1_of h hv hw ho (z := .bin o x y) rfl wz (by simp only [XT.depth]; omega) (r := some u) hr' rfl hne (kinds2_of T hk (by omega) (decide_eq_true t) (by simp; omega) (decide_eq_false (by omega)) har rfl))
        · exact ToEnd.ofC (tree9t1f n a b m which o.text _) (kinds1_of h hv hw ho (z := .bin o x y) rfl wz (by simp only [XT.depth]; omega) (r := some u) hr' rfl hne (kinds2_of T hk (by omega) (decide_eq_false (by omega)) (by simp [t]) (decide_eq_false (by omega)) har rfl))
        · exact ToEnd.ofC (tree9t2f n a b m which o.text _) (kinds1_of h hv hw ho (z := .bin o x y) rfl wz (by simp only [XT.depth]; omega) (r := some u) hr' rfl hne (kinds2_of T hk (by omega) (decide_eq_false (by omega)) (by simp; omega) (decide_eq_true t) har rfl))
      | true =>
        rcases arith_told (hat rfl) hk hr with ⟨g1, g2⟩ | ⟨g1, g2, g3⟩
        · have q1 : (u.k == v.k) = true := by rw [g1, g2]; rfl
          have q2 : (v.k == 1) = true := by rw [g2]; rfl
          rcases tri with t | t | t
          · exact ToEnd.ofC (tree9t01 n a b m which o.text _) (kinds1_of h hv hw ho (z := .bin o x y) rfl wz (by simp only [XT.depth]; omega) (r := some u) hr' rfl hne (kinds2_of T hk (by omega) (decide_eq_true t) (by simp; omega) (decide_eq_false (by omega)) har ⟨q1, q2, rfl⟩))
          · exact ToEnd.ofC (tree9t11 n a b m which o.text _) (kinds1_of h hv hw ho (z := .bin o x y) rfl wz (by simp only [XT.depth]; omega) (r := some u) hr' rfl hne (kinds2_of T hk (by omega) (decide_eq_false (by omega)) (by simp [t]) (decide_eq_false (by omega)) har ⟨q1, q2, rfl⟩))
          · exact ToEnd.ofC (tree9t21 n a b m which o.text _) (kinds1_of h hv hw ho (z := .bin o x y) rfl wz (by simp only [XT.depth]; omega) (r := some u) hr' rfl hne (kinds2_of T hk (by omega) (decide_eq_false (by omega)) (by simp; omega) (decide_eq_true t) har ⟨q1, q2, rfl⟩))
        · have q1 : (u.k == v.k) = true := by rw [g1, g2]; rfl
          have q2 : (v.k == 1) = false := by rw [g2]; rfl
          have q3 : (v.k == 3) = true := by rw [g2]; rfl
          have q4 : eqBytes o.text [43] = true := by rw [g3]; rfl
          rcases tri with t | t | t
          · exact ToEnd.ofC (tree9t03 n a b m which o.text _) (kinds1_of h hv hw ho (z := .bin o x y) rfl wz (by simp only [XT.depth]; omega) (r := some u) hr' rfl hne (kinds2_of T hk (by omega) (decide_eq_true t) (by simp; omega) (decide_eq_false (by omega)) har ⟨q1, q2, q3, q4, rfl⟩))
          · exact ToEnd.ofC (tree9t13 n a b m which o.text _) (kinds1_of h hv hw ho (z := .bin o x y) rfl wz (by simp only [XT.depth]; omega) (r := some u) hr' rfl hne (kinds2_of T hk (by omega) (decide_eq_false (by omega)) (by simp [t]) (decide_eq_false (by omega)) har ⟨q1, q2, q3, q4, rfl⟩))
          · exact ToEnd.ofC (tree9t23 n a b m which o.text _) (kinds1_of h hv hw ho (z := .bin o x y) rfl wz (by simp only [XT.depth]; omega) (r := some u) hr' rfl hne (kinds2_of T hk (by omega) (decide_eq_false (by omega)) (by simp; omega) (decide_eq_true t) har ⟨q1, q2, q3, q4, rfl⟩))
  · have hne : (v.k != w.k) = true := by simpa using hk
    have hr : bothV o v w = none := by
      unfold bothV
      rw [show (v.k == w.k) = false by simpa using hk]
      rfl
    exact ToEnd.ofC (tree9n n a b m which o.text _) (kinds1_of h hv hw ho (z := .bin o x y) rfl wz (by simp only [XT.depth]; omega) (r := none) (by rw [T.bin, hr]) rfl hne ⟨bin_text_and o, rfl⟩)

/-- The operation &&. -/
theorem and_ends {n : Nat} {a b m : AV} {x y : XT} (h : Ahead n a b m es bd ct x y) {v w : Vl} (hv : wv bd ct x = some v) (hw : wv bd ct y = some w) {which : Int} (ho : pickOp which [38, 38]) (har : decide (which.tmod 8 < 5) = false) :
    ToEnd (n + 200) 9 [a, b, m, .sc (.int .u8 which)] (.ret (.sc (.bool true))) := by
  have T : Two es bd ct x y v w := ⟨h.env, h.wx, h.wy, hv, hw⟩
  have wz : (XT.and x y).wf := ⟨h.wx, h.wy⟩
  have hb := h.big
  by_cases hk : v.k = w.k
  · have hne : (v.k != w.k) = false := by simpa using hk
    have tri : ordV v w < 0 ∨ ordV v w = 0 ∨ ordV v w > 0 := by omega
    cases hr' : wv bd ct (.and x y) with
    | none =>
      rcases tri with t | t | t
      · exact ToEnd.ofC (tree9u0f n a b m which [38, 38] _) (kinds1_of h hv hw ho (z := .and x y) rfl wz (by simp only [XT.depth]; omega) (r := none) hr' rfl hne (kinds2_of T hk (by omega) (decide_eq_true t) (by simp; omega) (decide_eq_false (by omega)) har rfl))
      · exact ToEnd.ofC (tree9u1f n a b m which [38, 38] _) (kinds1_of h hv hw ho (z := .and x y) rfl wz (by simp only [XT.depth]; omega) (r := none) hr' rfl hne (kinds2_of T hk (by omega) (decide_eq_false (by omega)) (by simp [t]) (decide_eq_false (by omega)) har rfl))
      · exact ToEnd.ofC (tree9u2f n a b m which [38, 38] _) (kinds1_of h hv hw ho (z := .and x y) rfl wz (by simp only [XT.depth]; omega) (r := none) hr' rfl hne (kinds2_of T hk (by omega) (decide_eq_false (by omega)) (by simp; omega) (decide_eq_true t) har rfl))
    | some u =>
      rcases tri with t | t | t
      · exact ToEnd.ofC (tree9t0f n a b m which [38, 38] _) (kinds1_of h hv hw ho (z := .and x y) rfl wz (by simp only [XT.depth]; omega) (r := some u) hr' rfl hne (kinds2_of T hk (by omega) (decide_eq_true t) (by simp; omega) (decide_eq_false (by omega)) har rfl))
      · exact ToEnd.ofC (tree9t1f n a b m which [38, 38] _) (kinds1_of h hv hw ho (z := .and x y) rfl wz (by simp only [XT.depth]; omega) (r := some u) hr' rfl hne (kinds2_of T hk (by omega) (decide_eq_false (by omega)) (by simp [t]) (decide_eq_false (by omega)) har rfl))
      · exact ToEnd.ofC (tree9t2f n a b m which [38, 38] _) (kinds1_of h hv hw ho (z := .and x y) rfl wz (by simp only [XT.depth]; omega) (r := some u) hr' rfl hne (kinds2_of T hk (by omega) (decide_eq_false (by omega)) (by simp; omega) (decide_eq_true t) har rfl))
  · have hne : (v.k != w.k) = true := by simpa using hk
    have he := bin_equal v.k v.n 2 0 ⟨⟨v.s⟩⟩ ⟨⟨[]⟩⟩ (.tmp 76) (.tmp 77)
    have key : (wv bd ct (.and x y)).isSome = ((v.k == 2) && ((v.n == 0) && ((⟨⟨v.s⟩⟩ : ByteArray) == ⟨⟨[]⟩⟩))) := by
      simp only [wv, hv, hw]
      rcases T.wfv.1 with ⟨h1, h2⟩ | ⟨h1, h2, h3⟩ | ⟨h1, _, _⟩
      · rw [h1]; rfl
      · rw [h1, h3]
        have hw2 : (w.k == 2) = false := by
          have : w.k ≠ 2 := fun e => hk (by rw [h1, e])
          simpa using this
        rcases h2 with h2 | h2
        · rw [h2]; rfl
        · rw [h2, hw2]; rfl
      · rw [h1]; rfl
    rw [← key] at he
    cases hs : (wv bd ct (.and x y)).isSome with
    | true => rw [hs] at he; exact ToEnd.ofC (tree9nt n a b m which [38, 38] _) (kinds1_of h hv hw ho (z := .and x y) rfl wz (by simp only [XT.depth]; omega) rfl hs hne ⟨rfl, he, rfl⟩)
    | false => rw [hs] at he; exact ToEnd.ofC (tree9nf n a b m which [38, 38] _) (kinds1_of h hv hw ho (z := .and x y) rfl wz (by simp only [XT.depth]; omega) rfl hs hne ⟨rfl, he, rfl⟩)
end

theorem kinds_run {b1 b2 b3 : List Int} {a b m : AV} (h1 : IsM b1 a) (h2 : IsM b2 b) (h3 : IsM b3 m) {which : Int} (g0 : 0 ≤ which) (g1 : which < 256) : ∃ n H1, call CS n 9 [a, b, m, .sc (.int .u8 which)] [] = some (.ret (.sc (.bool true)), H1) := by
  obtain ⟨x, wx, ea⟩ := made_ends h1
  obtain ⟨y, wy, eb⟩ := made_ends h2
  obtain ⟨es, bd, ct, em, hB⟩ := binds_env h3
  obtain ⟨n, hn⟩ : ∃ n, n = 240 * max x.depth y.depth + 2000 := ⟨_, rfl⟩
  have h : Ahead n a b m es bd ct x y := ⟨hB, wx, wy, data_of h1, data_of h2, data_of h3, ea, eb, em, by omega⟩
  suffices t : ToEnd (n + 200) 9 [a, b, m, .sc (.int .u8 which)] (.ret (.sc (.bool true))) from ⟨_, t.ex⟩
  cases hv : wv bd ct x with
  | none =>
    cases hw : wv bd ct y with
    | none => exact ToEnd.ofC (tree9a n a b m which [] _) (kinds0_of h hv hw rfl)
    | some w => exact ToEnd.ofC (tree9a2 n a b m which [] _) (kinds0_of h hv hw rfl)
  | some v =>
    cases hw : wv bd ct y with
    | none => exact ToEnd.ofC (tree9b n a b m which [] _) (kinds0_of h hv hw rfl)
    | some w =>
      have e : which.tmod 8 = which % 8 := Int.tmod_eq_emod_of_nonneg g0
      have hc : which.tmod 8 = 0 ∨ which.tmod 8 = 1 ∨ which.tmod 8 = 2 ∨ which.tmod 8 = 3 ∨ which.tmod 8 = 4 ∨ which.tmod 8 = 5 ∨ which.tmod 8 = 6 ∨ which.tmod 8 = 7 := by omega
      rcases hc with c | c | c | c | c | c | c | c
      · exact bin_ends h hv hw (o := .add) (by unfold pickOp; rw [c]; rfl) (ar := true) (by rw [c]; rfl) fun _ => .inl rfl
      · exact bin_ends h hv hw (o := .sub) (by unfold pickOp; rw [c]; rfl) (ar := true) (by rw [c]; rfl) fun _ => .inr (.inl rfl)
      · exact bin_ends h hv hw (o := .mul) (by unfold pickOp; rw [c]; rfl) (ar := true) (by rw [c]; rfl) fun _ => .inr (.inr (.inl rfl))
      · exact bin_ends h hv hw (o := .div) (by unfold pickOp; rw [c]; rfl) (ar := true) (by rw [c]; rfl) fun _ => .inr (.inr (.inr (.inl rfl)))
      · exact bin_ends h hv hw (o := .rem) (by unfold pickOp; rw [c]; rfl) (ar := true) (by rw [c]; rfl) fun _ => .inr (.inr (.inr (.inr rfl)))
      · exact bin_ends h hv hw (o := .eq) (by unfold pickOp; rw [c]; rfl) (ar := false) (by rw [c]; rfl) fun h => by cases h
      · exact bin_ends h hv hw (o := .lt) (by unfold pickOp; rw [c]; rfl) (ar := false) (by rw [c]; rfl) fun h => by cases h
      · exact and_ends h hv hw (by unfold pickOp; rw [c]; rfl) (by rw [c]; rfl)

end Go.Ai
