/-
  EXPRESSIONS THAT ARE NOT KNOWN: what they are worth.
-/
import Derived.Test.YtndloeajkfajnaaAiXp3
set_option linter.unusedVariables false
set_option linter.unusedSimpArgs false
namespace Go.Ai
open Go.Proofs Go.RowKit

/-- What is told of an expression's worth over binds: some value, or it gives up. -/
def T58 (n : Nat) (args : List AV) (H : List Blk) (K : ORes → Prop) : Prop := match args with
  | [.agg cs, .ro sz es cap] => isDataL cs = true ∧
    ((∃ v : Vl, ToEnd n 58 [.agg cs, .ro sz es cap] (.ret v.av) ∧ K (.val v.av H)) ∨ (ToEnd n 58 [.agg cs, .ro sz es cap] (.pan giveUp) ∧ K (.pan giveUp H)))
  | _ => False

def T85 (n : Nat) (args : List AV) (H : List Blk) (K : ORes → Prop) : Prop := match args with
  | [.sc (.string ⟨⟨op⟩⟩), .agg [.sc (.int .i64 k), .sc (.int .i64 x), .sc (.string ⟨⟨s⟩⟩)], .agg [.sc (.int .i64 k'), .sc (.int .i64 x'), .sc (.string ⟨⟨s'⟩⟩)]] =>
    ((∃ v : Vl, ToEnd n 85 [.sc (.string ⟨⟨op⟩⟩), avV k x s, avV k' x' s'] (.ret v.av) ∧ K (.val v.av H)) ∨ (ToEnd n 85 [.sc (.string ⟨⟨op⟩⟩), avV k x s, avV k' x' s'] (.pan giveUp) ∧ K (.pan giveUp H)))
  | _ => False

theorem T58_ok (n : Nat) (args : List AV) (H : List Blk) (K : ORes → Prop) (h : T58 n args H K) : ∃ q, callA CS (callW CS (exec CS n)) none 58 args H = some q ∧ K q := by
  unfold T58 at h
  split at h
  · obtain ⟨hd, ⟨v, he, hk⟩ | ⟨he, hk⟩⟩ := h
    · exact ⟨_, callA_ends plain58 (by simp [isDataL, isData, hd]) rfl he, hk⟩
    · exact ⟨_, callA_ends plain58 (by simp [isDataL, isData, hd]) rfl he, hk⟩
  · exact h.elim

theorem T85_ok (n : Nat) (args : List AV) (H : List Blk) (K : ORes → Prop) (h : T85 n args H K) : ∃ q, callA CS (callW CS (exec CS n)) none 85 args H = some q ∧ K q := by
  unfold T85 at h
  split at h
  · obtain ⟨v, he, hk⟩ | ⟨he, hk⟩ := h
    · exact ⟨_, callA_ends plain85 rfl rfl he, hk⟩
    · exact ⟨_, callA_ends plain85 rfl rfl he, hk⟩
  · exact h.elim

def conW : Con CS := addCon 58 T58 T58_ok (oneCon 85 T85 T85_ok)

/-- Some worth, or none. -/
def worthR (n : Nat) (cs : List AV) (B : AV) (f : Vl → Prop) (p : Prop) : Prop := isDataL cs = true ∧ ((∃ v : Vl, ToEnd n 58 [.agg cs, B] (.ret v.av) ∧ f v) ∨ (ToEnd n 58 [.agg cs, B] (.pan giveUp) ∧ p))
def bothRR (n : Nat) (op : List UInt8) (a b : Vl) (f : Vl → Prop) (p : Prop) : Prop := (∃ v : Vl, ToEnd n 85 [.sc (.string ⟨⟨op⟩⟩), a.av, b.av] (.ret v.av) ∧ f v) ∨ (ToEnd n 85 [.sc (.string ⟨⟨op⟩⟩), a.av, b.av] (.pan giveUp) ∧ p)

def s58 : Script := { inl := inlS }
def rowsB (es : List (List AV)) (cap : Option Nat) : AV := .ro 4 es cap

theorem tree58lit (k : Nat) (kd x : Int) (s : List UInt8) (sz : Nat) (es : List (List AV)) (cap : Option Nat) (K : CRes → Prop) : callPC CS conW s58 (k+240) 58 [.agg (leafC 0 kd x s [] []), .ro sz es cap] [] (fun r _ => K r) = K (.ret (avV kd x s)) := by kernel_rfl
theorem tree58neg (k : Nat) (c1 c2 c3 c4 c5 c6 c7 c8 : AV) (sz : Nat) (es : List (List AV)) (cap : Option Nat) (K : CRes → Prop) : callPC CS conW s58 (k+240) 58 [.agg (nodeC 3 [45] [[c1, c2, c3, c4, c5, c6, c7, c8]] 1), .ro sz es cap] [] (fun r _ => K r) = worthR (k+236) [c1, c2, c3, c4, c5, c6, c7, c8] (.ro sz es cap) (fun v => bothP (v.k == 1) (bothP (subOk 0 v.n) (K (.ret (avV 1 (subV 0 v.n) []))) (K (.pan giveUp))) (K (.pan giveUp))) (K (.pan giveUp)) := by kernel_rfl
theorem tree58not (k : Nat) (c1 c2 c3 c4 c5 c6 c7 c8 : AV) (sz : Nat) (es : List (List AV)) (cap : Option Nat) (K : CRes → Prop) : callPC CS conW s58 (k+240) 58 [.agg (nodeC 3 [33] [[c1, c2, c3, c4, c5, c6, c7, c8]] 1), .ro sz es cap] [] (fun r _ => K r) = worthR (k+236) [c1, c2, c3, c4, c5, c6, c7, c8] (.ro sz es cap) (fun v => bothP (v.k == 2) (bothP (v.n == 0) (K (.ret (avV 2 1 []))) (K (.ret (avV 2 0 [])))) (K (.pan giveUp))) (K (.pan giveUp)) := by kernel_rfl
theorem tree58and (k : Nat) (c1 c2 c3 c4 c5 c6 c7 c8 d1 d2 d3 d4 d5 d6 d7 d8 : AV) (sz : Nat) (es : List (List AV)) (cap : Option Nat) (K : CRes → Prop) : callPC CS conW s58 (k+240) 58 [.agg (nodeC 4 [38, 38] [[c1, c2, c3, c4, c5, c6, c7, c8], [d1, d2, d3, d4, d5, d6, d7, d8]] 2), .ro sz es cap] [] (fun r _ => K r) = worthR (k+224) [c1, c2, c3, c4, c5, c6, c7, c8] (.ro sz es cap) (fun v => bothP (v.k == 2) (bothP (v.n == 1) (worthR (k+221) [d1, d2, d3, d4, d5, d6, d7, d8] (.ro sz es cap) (fun w => bothP (w.k == 2) (K (.ret w.av)) (K (.pan giveUp))) (K (.pan giveUp))) (K (.ret v.av))) (K (.pan giveUp))) (K (.pan giveUp)) := by kernel_rfl
theorem tree58or (k : Nat) (c1 c2 c3 c4 c5 c6 c7 c8 d1 d2 d3 d4 d5 d6 d7 d8 : AV) (sz : Nat) (es : List (List AV)) (cap : Option Nat) (K : CRes → Prop) : callPC CS conW s58 (k+240) 58 [.agg (nodeC 4 [124, 124] [[c1, c2, c3, c4, c5, c6, c7, c8], [d1, d2, d3, d4, d5, d6, d7, d8]] 2), .ro sz es cap] [] (fun r _ => K r) = worthR (k+224) [c1, c2, c3, c4, c5, c6, c7, c8] (.ro sz es cap) (fun v => bothP (v.k == 2) (bothP (v.n == 1) (K (.ret v.av)) (worthR (k+221) [d1, d2, d3, d4, d5, d6, d7, d8] (.ro sz es cap) (fun w => bothP (w.k == 2) (K (.ret w.av)) (K (.pan giveUp))) (K (.pan giveUp)))) (K (.pan giveUp))) (K (.pan giveUp)) := by kernel_rfl
theorem tree58bint (o : BOp) (k : Nat) (c1 c2 c3 c4 c5 c6 c7 c8 : AV) (kd i n : Int) (op s v f : List UInt8) (rows : List (List AV)) (cap' : Option Nat) (sz : Nat) (es : List (List AV)) (cap : Option Nat) (K : CRes → Prop) : callPC CS conW s58 (k+240) 58 [.agg (nodeC 4 o.text [[c1, c2, c3, c4, c5, c6, c7, c8], rowA kd i n op s v f true rows cap'] 2), .ro sz es cap] [] (fun r _ => K r) = worthR (k+236) [c1, c2, c3, c4, c5, c6, c7, c8] (.ro sz es cap) (fun v' => worthR (k+231) (rowA kd i n op s v f true rows cap') (.ro sz es cap) (fun w => bothRR (k+231) o.text v' w (fun u => K (.ret u.av)) (K (.pan giveUp))) (K (.pan giveUp))) (K (.pan giveUp)) := by cases o <;> kernel_rfl
theorem tree58binf (o : BOp) (k : Nat) (c1 c2 c3 c4 c5 c6 c7 c8 : AV) (kd i n : Int) (op s v f : List UInt8) (rows : List (List AV)) (cap' : Option Nat) (sz : Nat) (es : List (List AV)) (cap : Option Nat) (K : CRes → Prop) : callPC CS conW s58 (k+240) 58 [.agg (nodeC 4 o.text [[c1, c2, c3, c4, c5, c6, c7, c8], rowA kd i n op s v f false rows cap'] 2), .ro sz es cap] [] (fun r _ => K r) = worthR (k+236) [c1, c2, c3, c4, c5, c6, c7, c8] (.ro sz es cap) (fun v' => worthR (k+231) (rowA kd i n op s v f false rows cap') (.ro sz es cap) (fun w => bothRR (k+231) o.text v' w (fun u => K (.ret u.av)) (K (.pan giveUp))) (K (.pan giveUp))) (K (.pan giveUp)) := by cases o <;> kernel_rfl

def wv (bd : UInt8 → UInt8 → Option Vl) (ct : Int) : XT → Option Vl
  | .lit v => some v
  | .ref v f => bd v f
  | .cnt _ => some ⟨1, ct, []⟩
  | .neg x => match wv bd ct x with
    | some v => bif v.k == 1 then numV (subV 0 v.n) (subOk 0 v.n) else none
    | none => none
  | .not x => match wv bd ct x with
    | some v => bif v.k == 2 then some (truthV (v.n == 0)) else none
    | none => none
  | .and x y => match wv bd ct x with
    | some v => bif v.k == 2 then (bif v.n == 1 then (match wv bd ct y with | some w => (bif w.k == 2 then some w else none) | none => none) else some v) else none
    | none => none
  | .or x y => match wv bd ct x with
    | some v => bif v.k == 2 then (bif v.n == 1 then some v else (match wv bd ct y with | some w => (bif w.k == 2 then some w else none) | none => none)) else none
    | none => none
  | .bin o x y => match wv bd ct x with
    | some v => (match wv bd ct y with | some w => bothV o v w | none => none)
    | none => none

/-- Binds as data, and what stands in them. -/
structure BEnv (sz : Nat) (es : List (List AV)) (cap : Option Nat) (bd : UInt8 → UInt8 → Option Vl) (ct : Int) : Prop where
  ref : ∀ v f, (v, f) ∈ refsX → ToEnd 240 58 [.agg (leafC 1 0 0 [] [v] [f]), .ro sz es cap] (outX2 (bd v f)) ∧ ∀ r, bd v f = some r → r.wf
  cnt : ToEnd 240 58 [.agg (leafC 2 0 0 [] [98] []), .ro sz es cap] (.ret (⟨1, ct, []⟩ : Vl).av)

section
variable {sz : Nat} {es : List (List AV)} {cap : Option Nat}

theorem worthR_of {n m : Nat} {cs : List AV} {f : Vl → Prop} {p : Prop} {r : Option Vl} (hd : isDataL cs = true) (h : ToEnd n 58 [.agg cs, .ro sz es cap] (outX2 r)) (hm : n ≤ m) (hf : ∀ v, r = some v → f v) (hp : r = none → p) : worthR m cs (.ro sz es cap) f p := by
  refine ⟨hd, ?_⟩
  cases r with
  | some v => exact .inl ⟨v, h.mono hm, hf v rfl⟩
  | none => exact .inr ⟨h.mono hm, hp rfl⟩

theorem bothRR_of {n : Nat} {o : BOp} {a b : Vl} {f : Vl → Prop} {p : Prop} (ha : a.wf) (hb : b.wf) (hm : 160 ≤ n) (hf : ∀ v, bothV o a b = some v → f v) (hp : bothV o a b = none → p) : bothRR n o.text a b f p := by
  have h := (both_ends o ha hb).mono hm
  cases hr : bothV o a b with
  | some v => rw [hr] at h; exact .inl ⟨v, h, hf v hr⟩
  | none => rw [hr] at h; exact .inr ⟨h, hp hr⟩

variable {bd : UInt8 → UInt8 → Option Vl} {ct : Int}

theorem numV_wf {v : Int} {ok : Bool} {r : Vl} (h : numV v ok = some r) : r.wf := by
  unfold numV at h
  cases ok
  · cases h
  · cases h; exact .inl ⟨rfl, rfl⟩

theorem wv_wf (hB : BEnv sz es cap bd ct) : ∀ (e : XT), e.wf → ∀ r, wv bd ct e = some r → r.wf
  | .lit v, h, r, hr => by cases hr; exact h.1
  | .ref v f, h, r, hr => (hB.ref v f h).2 r hr
  | .cnt _, _, r, hr => by cases hr; exact .inl ⟨rfl, rfl⟩
  | .neg x, h, r, hr => by
    simp only [wv] at hr
    split at hr
    · rename_i v hv
      cases hk : (v.k == 1)
      · rw [hk] at hr; cases hr
      · rw [hk] at hr; exact numV_wf hr
    · cases hr
  | .not x, h, r, hr => by
    simp only [wv] at hr
    split at hr
    · rename_i v hv
      cases hk : (v.k == 2)
      · rw [hk] at hr; cases hr
      · rw [hk] at hr; cases hr; exact truthV_wf _
    · cases hr
  | .and x y, h, r, hr => by
    simp only [wv] at hr
    split at hr
    · rename_i v hv
      cases hk : (v.k == 2)
      · rw [hk] at hr; cases hr
      · rw [hk] at hr
        cases hn : (v.n == 1)
        · rw [hn] at hr; cases hr; exact wv_wf hB x h.1 _ hv
        · rw [hn] at hr
          simp only [cond_true] at hr
          split at hr
          · rename_i w hw
            cases hk2 : (w.k == 2)
            · rw [hk2] at hr; cases hr
            · rw [hk2] at hr; cases hr; exact wv_wf hB y h.2 _ hw
          · cases hr
    · cases hr
  | .or x y, h, r, hr => by
    simp only [wv] at hr
    split at hr
    · rename_i v hv
      cases hk : (v.k == 2)
      · rw [hk] at hr; cases hr
      · rw [hk] at hr
        cases hn : (v.n == 1)
        · rw [hn] at hr
          simp only [cond_true, cond_false] at hr
          split at hr
          · rename_i w hw
            cases hk2 : (w.k == 2)
            · rw [hk2] at hr; cases hr
            · rw [hk2] at hr; cases hr; exact wv_wf hB y h.2 _ hw
          · cases hr
        · rw [hn] at hr; cases hr; exact wv_wf hB x h.1 _ hv
    · cases hr
  | .bin o x y, h, r, hr => by
    simp only [wv] at hr
    split at hr
    · split at hr
      · exact bothV_wf hr
      · cases hr
    · cases hr

theorem bothP_of {b : Bool} {p q : Prop} (ht : b = true → p) (hf : b = false → q) : bothP b p q := by
  cases b
  · exact hf rfl
  · exact ht rfl

theorem worth_all (hB : BEnv sz es cap bd ct) : ∀ (e : XT), e.wf → ToEnd (240 + 240 * e.depth) 58 [.agg e.cells, .ro sz es cap] (outX2 (wv bd ct e))
  | .lit ⟨kd, x, s⟩, h => ToEnd.ofC (tree58lit 0 kd x s sz es cap _) rfl
  | .ref v f, h => (hB.ref v f h).1
  | .cnt v, h => by
    simp only [XT.wf] at h
    subst h
    exact hB.cnt
  | .neg x, h => by
    have hx := worth_all hB x h
    have hd := x.data
    obtain ⟨c1, c2, c3, c4, c5, c6, c7, c8, he⟩ := x.cells8
    simp only [XT.cells, wv]
    rw [he] at hx hd ⊢
    refine ToEnd.mono (n := 240 * x.depth + 240 + 240) (ToEnd.ofC (tree58neg _ c1 c2 c3 c4 c5 c6 c7 c8 sz es cap _) (worthR_of hd hx (by omega) (fun v hv => ?_) fun hv => by rw [hv]; rfl)) (by simp only [XT.depth]; omega)
    rw [hv]
    refine bothP_of (fun h1 => bothP_of (fun h2 => ?_) fun h2 => ?_) fun h1 => ?_ <;> (unfold numV; simp [*]; rfl)
  | .not x, h => by
    have hx := worth_all hB x h
    have hd := x.data
    obtain ⟨c1, c2, c3, c4, c5, c6, c7, c8, he⟩ := x.cells8
    simp only [XT.cells, wv]
    rw [he] at hx hd ⊢
    refine ToEnd.mono (n := 240 * x.depth + 240 + 240) (ToEnd.ofC (tree58not _ c1 c2 c3 c4 c5 c6 c7 c8 sz es cap _) (worthR_of hd hx (by omega) (fun v hv => ?_) fun hv => by rw [hv]; rfl)) (by simp only [XT.depth]; omega)
    rw [hv]
    refine bothP_of (fun h1 => bothP_of (fun h2 => ?_) fun h2 => ?_) fun h1 => ?_ <;> (simp only [*]; rfl)
  | .and x y, h => by
    have hx := worth_all hB x h.1
    have hd := x.data
    have hy := worth_all hB y h.2
    have hd' := y.data
    obtain ⟨c1, c2, c3, c4, c5, c6, c7, c8, he⟩ := x.cells8
    obtain ⟨d1, d2, d3, d4, d5, d6, d7, d8, hf⟩ := y.cells8
    simp only [XT.cells, wv]
    rw [he] at hx hd ⊢
    rw [hf] at hy hd' ⊢
    refine ToEnd.mono (n := 240 * max x.depth y.depth + 240 + 240) (ToEnd.ofC (tree58and _ c1 c2 c3 c4 c5 c6 c7 c8 d1 d2 d3 d4 d5 d6 d7 d8 sz es cap _) (worthR_of hd hx (by omega) (fun v hv => ?_) fun hv => by rw [hv]; rfl)) (by simp only [XT.depth]; omega)
    rw [hv]
    refine bothP_of (fun h1 => bothP_of (fun h2 => worthR_of hd' hy (by omega) (fun w hw => ?_) fun hw => ?_) fun h2 => ?_) fun h1 => ?_
    · rw [hw]
      refine bothP_of (fun h3 => ?_) fun h3 => ?_ <;> (simp only [*]; rfl)
    all_goals (simp only [*]; rfl)
  | .or x y, h => by
    have hx := worth_all hB x h.1
    have hd := x.data
    have hy := worth_all hB y h.2
    have hd' := y.data
    obtain ⟨c1, c2, c3, c4, c5, c6, c7, c8, he⟩ := x.cells8
    obtain ⟨d1, d2, d3, d4, d5, d6, d7, d8, hf⟩ := y.cells8
    simp only [XT.cells, wv]
    rw [he] at hx hd ⊢
    rw [hf] at hy hd' ⊢
    refine ToEnd.mono (n := 240 * max x.depth y.depth + 240 + 240) (ToEnd.ofC (tree58or _ c1 c2 c3 c4 c5 c6 c7 c8 d1 d2 d3 d4 d5 d6 d7 d8 sz es cap _) (worthR_of hd hx (by omega) (fun v hv => ?_) fun hv => by rw [hv]; rfl)) (by simp only [XT.depth]; omega)
    rw [hv]
    refine bothP_of (fun h1 => bothP_of (fun h2 => ?_) fun h2 => worthR_of hd' hy (by omega) (fun w hw => ?_) fun hw => ?_) fun h1 => ?_
    rotate_left
    · rw [hw]
      refine bothP_of (fun h3 => ?_) fun h3 => ?_ <;> (simp only [*]; rfl)
    all_goals (simp only [*]; rfl)
  | .bin o x y, h => by
    have hx := worth_all hB x h.1
    have hd := x.data
    have hy := worth_all hB y h.2
    have hd' := y.data
    have wx := wv_wf hB x h.1
    have wy := wv_wf hB y h.2
    obtain ⟨c1, c2, c3, c4, c5, c6, c7, c8, he⟩ := x.cells8
    obtain ⟨kd, i, n, op, s, v, f, b, rows, cap', hf⟩ := y.cells_form
    simp only [XT.cells, wv]
    rw [he] at hx hd ⊢
    rw [hf] at hy hd' ⊢
    have key : worthR (240 * max x.depth y.depth + 240 + 236) [c1, c2, c3, c4, c5, c6, c7, c8] (.ro sz es cap) (fun v' => worthR (240 * max x.depth y.depth + 240 + 231) (rowA kd i n op s v f b rows cap') (.ro sz es cap)
        (fun w => bothRR (240 * max x.depth y.depth + 240 + 231) o.text v' w (fun u => CRes.ret u.av = outX2 (match wv bd ct x with | some v => (match wv bd ct y with | some w => bothV o v w | none => none) | none => none)) (CRes.pan giveUp = outX2 (match wv bd ct x with | some v => (match wv bd ct y with | some w => bothV o v w | none => none) | none => none)))
        (CRes.pan giveUp = outX2 (match wv bd ct x with | some v => (match wv bd ct y with | some w => bothV o v w | none => none) | none => none)))
        (CRes.pan giveUp = outX2 (match wv bd ct x with | some v => (match wv bd ct y with | some w => bothV o v w | none => none) | none => none)) := by
      refine worthR_of hd hx (by omega) (fun v hv => worthR_of hd' hy (by omega) (fun w hw => bothRR_of (wx v hv) (wy w hw) (by omega) (fun u hu => ?_) fun hu => ?_) fun hw => ?_) fun hv => ?_
      all_goals (simp only [*]; rfl)
    refine ToEnd.mono (n := 240 * max x.depth y.depth + 240 + 240) ?_ (by simp only [XT.depth]; omega)
    cases b with
    | true => exact ToEnd.ofC (tree58bint o _ c1 c2 c3 c4 c5 c6 c7 c8 kd i n op s v f rows cap' sz es cap _) key
    | false => exact ToEnd.ofC (tree58binf o _ c1 c2 c3 c4 c5 c6 c7 c8 kd i n op s v f rows cap' sz es cap _) key
end

end Go.Ai
