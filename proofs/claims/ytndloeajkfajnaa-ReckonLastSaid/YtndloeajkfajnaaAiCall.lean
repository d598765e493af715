/-
  CALLS.
-/
import Derived.Test.YtndloeajkfajnaaAiCompact
set_option linter.unusedVariables false
set_option linter.unusedSimpArgs false
namespace Go.Ai
section
variable {P : Program} {X : Nat → Nat → Prop} {E E' : Env} {H : List Blk} {w : World} {im : Nat → Nat → Prop}

mutual
theorem V_scalar {im' : Nat → Nat → Prop} {w' : World} : ∀ {c : AV} {E E' : Env} {x : Value}, isScalar c = true → V im w c E x → V im' w' c E' x
  | .sc _, _, _, _, _, h => by simpa [V] using h
  | .agg cs, E, E', x, hd, h => by
    simp only [isScalar] at hd
    simp only [V] at h ⊢
    obtain ⟨vs, hx, hv⟩ := h
    exact ⟨vs, hx, VL_scalar hd hv⟩
  | .tup cs, E, E', x, hd, h => by
    simp only [isScalar] at hd
    simp only [V] at h ⊢
    obtain ⟨vs, hx, hv⟩ := h
    exact ⟨vs, hx, VL_scalar hd hv⟩
  | .ifc t v, E, E', x, hd, h => by
    simp only [isScalar] at hd
    simp only [V] at h ⊢
    obtain ⟨y, hx, hv⟩ := h
    exact ⟨y, hx, V_scalar hd hv⟩
  | .fn .., _, _, _, hd, _ => by simp [isScalar] at hd
  | .rp .., _, _, _, hd, _ => by simp [isScalar] at hd
  | .ro .., _, _, _, hd, _ => by simp [isScalar] at hd
  | .undef, _, _, _, hd, _ => by simp [isScalar] at hd
  | .ptr .., _, _, _, hd, _ => by simp [isScalar] at hd
  | .sl .., _, _, _, hd, _ => by simp [isScalar] at hd
  | .mp _, _, _, _, hd, _ => by simp [isScalar] at hd
theorem VL_scalar {im' : Nat → Nat → Prop} {w' : World} : ∀ {cs : List AV} {E E' : Env} {xs : List Value}, isScalarL cs = true → VL im w cs E xs → VL im' w' cs E' xs
  | [], _, _, _, _, h => by simpa [VL] using h
  | c :: cs, E, E', xs, hd, h => by
    simp only [isScalarL, Bool.and_eq_true] at hd
    simp only [VL] at h ⊢
    obtain ⟨v, r, hx, h1, h2⟩ := h
    exact ⟨v, r, hx, V_scalar hd.1 h1, VL_scalar hd.2 h2⟩
end

/-- How a call ends. -/
def Ends (X : Nat → Nat → Prop) (E : Env) (H : List Blk) (w : World) (r : CRes) (H1 : List Blk) (e : Ending) (w' : World) : Prop :=
  match r with
  | .ret v => ∃ x, e = .returned x ∧ Good X E H w v H1 x w'
  | .pan v => ∃ x, e = .panicked [{ v := x, recovered := false }] ∧ Good X E H w v H1 x w'

def CallOK (P : Program) (call : CallT) : Prop :=
  ∀ f args H r H1, call f args H = some (r, H1) → (∃ fn, P.funcs[f]? = some fn ∧ fn.body.isSome = true) ∧
    ∀ X E w vs, HRel X E H w → VL (Im X E H w) w args E vs → Calls P f vs.toArray w (Ends X E H w r H1)

/-- What is told of a function beforehand. -/
def PrimOK (P : Program) (f : FuncId) (F : List AV → Option AV) : Prop :=
  ∀ args v, F args = some v → (∃ fn, P.funcs[f]? = some fn ∧ fn.body.isSome = true) ∧
    ∀ X w vs, (∀ B off, X B off → B < w.heap.size) → VL (Im X noE [] w) w args noE vs → Calls P f vs.toArray w (Ends X noE [] w (.ret v) [])

/-- How an operation ends that calls. -/
def EndsO (X : Nat → Nat → Prop) (E : Env) (H : List Blk) (w : World) (r : ORes) (e : Ending) (w' : World) : Prop :=
  match r with
  | .val v H1 => ∃ x, e = .returned x ∧ Good X E H w v H1 x w'
  | .pan v H1 => ∃ x, e = .panicked [{ v := x, recovered := false }] ∧ Good X E H w v H1 x w'
  | _ => False

theorem HRel_empty {X : Nat → Nat → Prop} {w : World} (hx : ∀ B off, X B off → B < w.heap.size) : HRel X noE [] w :=
  ⟨fun _ _ => rfl, fun b k hk => (by simp at hk), fun _ _ _ _ h => (by cases h), fun _ _ h => (by cases h), hx⟩

theorem Wr_empty {B o : Nat} : ¬ Wr noE [] B o := by rintro ⟨b, l, h, _⟩; cases h

/-- The arguments as what is written no more, the caller's own blocks out of reach. -/
theorem args_plain (h : HRel X E H w) {args us : List AV} {vs : List Value} (hf : frzL H args = some us) (hv : VL (Im X E H w) w args E vs) : VL (Im X noE [] w) w us noE vs :=
  frzL_sound h (fun B o ⟨h1, h2, h3⟩ => ⟨h1, h2, Wr_empty⟩) hf (fun b hb l size g es fz hE hl hk off ho => ⟨h.lt hE hl, h.xs b l hE hl off, Wr_empty⟩) hv

def Xc (X : Nat → Nat → Prop) (E : Env) (H : List Blk) : Nat → Nat → Prop := fun B o => X B o ∨ Wr E H B o

theorem Xc_lt (h : HRel X E H w) : ∀ B off, Xc X E H B off → B < w.heap.size := by
  rintro B off (hx | ⟨b, l, hb, hl, hB, _⟩)
  · exact h.xlt B off hx
  · rw [← hB]; exact h.lt hb hl

theorem args_marked (h : HRel X E H w) {args us : List AV} {vs : List Value} (hf : frzL H args = some us) (hv : VL (Im X E H w) w args E vs) :
    VL (Im (Xc X E (mark H (slIdsL args))) noE [] w) w us noE vs := by
  obtain ⟨hm, hms⟩ := HRel.mark (slIdsL args) h
  have key : ∀ B o, Im X E (mark H (slIdsL args)) w B o → Im (Xc X E (mark H (slIdsL args))) noE [] w B o := by
    rintro B o ⟨h1, h2, h3⟩
    refine ⟨h1, ?_, Wr_empty⟩
    rintro (hx | hx)
    · exact h2 hx
    · exact h3 hx
  exact frzL_sound h (fun B o hi => key B o (hms.im B o hi).1) hf (fun b hb l size g es fz hE hl hk off ho => key _ _ (zone_mark h _ b hb l size g es fz hE hl hk off ho)) hv

/-- Back from a call that saw nothing of ours: nothing of ours has turned. -/
theorem back_idle (h : HRel X E H w) {X' : Nat → Nat → Prop} {E1 : Env} {H1 : List Blk} {w' : World} (hs : Step X' noE [] w E1 H1 w') : HRel X E H w' ∧ Step X E H w E H w' :=
  h.idle hs.still hs.size fun B hB => hs.obj B hB fun b l hb => by cases hb

theorem back_sub {w' : World} {B o : Nat} {E1 : Env} {H1 : List Blk} (hi : Im (Xc X E H) E1 H1 w' B o) : Im X E H w' B o :=
  ⟨hi.1, fun hx => hi.2.1 (.inl hx), fun hx => hi.2.1 (.inr hx)⟩

theorem back_data (h : HRel X E H w) {E1 : Env} {H1 : List Blk} {w' : World} (h1 : HRel (Xc X E H) E1 H1 w') (hs : Step (Xc X E H) noE [] w E1 H1 w') {v v' : AV} {x : Value}
    (hv : V (Im (Xc X E H) E1 H1 w') w' v E1 x) (hf : frz H1 v = some v') : V (Im X E H w') w' v' E x := by
  refine V_mono (w := w') (fun B o hb => ⟨hb, rfl⟩) _ (Le.none E) (frz_sound h1 (fun B o hi => back_sub hi) hf (fun b hb l size g es fz hE hl hk off ho => ?_) hv)
  have hge : w.heap.size ≤ l.B := by
    rcases hs.new b l hE hl with ⟨_, _, h7, _⟩ | h7
    · cases h7
    · exact h7
  refine ⟨h1.lt hE hl, fun hx => ?_, ?_⟩
  · have := h.xlt _ _ hx
    omega
  · rintro ⟨b', l', hb', hl', hB, _⟩
    have := h.lt hb' hl'
    omega

theorem doCall_sound {C : Ctx} {call : CallT} (hc : CallOK C.P call) (hp : ∀ f F, C.prims f = some F → PrimOK C.P f F) (h : HRel X E H w) {f : FuncId} {args : List AV} {vs : List Value} {r : ORes}
    (hv : VL (Im X E H w) w args E vs) (hd : doCall C call none f args H = some r) :
    (∃ fn, C.P.funcs[f]? = some fn ∧ fn.body.isSome = true) ∧ Calls C.P f vs.toArray w (EndsO X E H w r) := by
  unfold doCall at hd
  split at hd
  · -- told beforehand
    rename_i F hF
    split at hd
    case h_2 => cases hd
    rename_i us hus
    split at hd
    case h_2 => cases hd
    rename_i v hFv
    obtain ⟨hb, hcall⟩ := hp f F hF us v hFv
    refine ⟨hb, ?_⟩
    split at hd
    · rename_i hsc
      cases hd
      refine (hcall X w vs h.xlt (args_plain h hus hv)).mono ?_
      rintro e w' ⟨x, rfl, E1, h1, hs, hx⟩
      obtain ⟨h2, h3⟩ := back_idle h hs
      exact ⟨x, rfl, E, h2, h3, V_scalar hsc hx⟩
    · split at hd
      · rename_i hdt
        cases hd
        obtain ⟨hm, hms⟩ := HRel.mark (slIdsL args) h
        refine (hcall (Xc X E (mark H (slIdsL args))) w vs (Xc_lt hm) (args_marked h hus hv)).mono ?_
        rintro e w' ⟨x, rfl, E1, h1, hs, hx⟩
        obtain ⟨h2, h3⟩ := back_idle hm hs
        exact ⟨x, rfl, E, h2, hms.trans h3, V_mono (w := w') (fun B o hi => ⟨back_sub hi, rfl⟩) _ (Le.none E) (V_data hdt hx)⟩
      · cases hd
  · split at hd
    · -- on its own
      rename_i us hus
      have hus : frzL H args = some us := by
        split at hus
        · cases hus
        · exact hus
      split at hd
      · rename_i v H1 hcl
        obtain ⟨hb, hcall⟩ := hc f us [] _ _ hcl
        refine ⟨hb, ?_⟩
        split at hd
        · rename_i hsc
          cases hd
          refine (hcall X noE w vs (HRel_empty h.xlt) (args_plain h hus hv)).mono ?_
          rintro e w' ⟨x, rfl, E1, h1, hs, hx⟩
          obtain ⟨h2, h3⟩ := back_idle h hs
          exact ⟨x, rfl, E, h2, h3, V_scalar hsc hx⟩
        · obtain ⟨hm, hms⟩ := HRel.mark (slIdsL args) h
          refine (hcall (Xc X E (mark H (slIdsL args))) noE w vs (HRel_empty (Xc_lt hm)) (args_marked h hus hv)).mono ?_
          rintro e w' ⟨x, rfl, E1, h1, hs, hx⟩
          simp only at hd
          split at hd
          · rename_i v' hfz
            cases hd
            have hfz : frz H1 v = some v' := by
              split at hfz
              · cases hfz
              · exact hfz
            obtain ⟨h2, h3⟩ := back_idle hm hs
            exact ⟨x, rfl, E, h2, hms.trans h3, back_data hm h1 hs hx hfz⟩
          · simp only [Option.map_eq_some_iff] at hd
            obtain ⟨⟨v', H'⟩, had, rfl⟩ := hd
            obtain ⟨E', h2, h3, h4⟩ := adopt_sound hm h1 hs (fun B o hb => hb) hx had
            exact ⟨x, rfl, E', h2, hms.trans h3, h4⟩
      · rename_i v H1 hcl
        obtain ⟨hb, hcall⟩ := hc f us [] _ _ hcl
        refine ⟨hb, ?_⟩
        simp only [Option.map_eq_some_iff] at hd
        obtain ⟨v', hfz, rfl⟩ := hd
        obtain ⟨hm, hms⟩ := HRel.mark (slIdsL args) h
        refine (hcall (Xc X E (mark H (slIdsL args))) noE w vs (HRel_empty (Xc_lt hm)) (args_marked h hus hv)).mono ?_
        rintro e w' ⟨x, rfl, E1, h1, hs, hx⟩
        obtain ⟨h2, h3⟩ := back_idle hm hs
        exact ⟨x, rfl, E, h2, hms.trans h3, back_data hm h1 hs hx hfz⟩
      · cases hd
    · -- with our blocks
      split at hd
      · rename_i v H1 _ hcl
        cases hd
        obtain ⟨hb, hcall⟩ := hc f args H _ _ hcl
        refine ⟨hb, (hcall X E w vs h hv).mono ?_⟩
        rintro e w' ⟨x, rfl, hg⟩
        exact ⟨x, rfl, hg⟩
      · rename_i v H1 _ hcl
        cases hd
        obtain ⟨hb, hcall⟩ := hc f args H _ _ hcl
        refine ⟨hb, (hcall X E w vs h hv).mono ?_⟩
        rintro e w' ⟨x, rfl, hg⟩
        exact ⟨x, rfl, hg⟩
      · cases hd

end
end Go.Ai
