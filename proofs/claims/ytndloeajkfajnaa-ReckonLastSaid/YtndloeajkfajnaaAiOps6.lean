/-
  LENGTHS, OPERATIONS OF TWO, RANGES OVER TEXTS.
-/
import Derived.Test.YtndloeajkfajnaaAiOps5
import Derived.Laws.Strings
set_option linter.unusedVariables false
set_option linter.unusedSimpArgs false
namespace Go.Ai
section
variable {P : Program} {X : Nat → Nat → Prop} {E : Env} {H : List Blk} {w : World} {im : Nat → Nat → Prop}

theorem EntsIn_length {im : Nat → Nat → Prop} : ∀ {es : List (Value × AV × Nat)} {ms : List MapEntry}, EntsIn im w E es ms → ms.length = es.length
  | [], ms, h => by
    have h : ms = [] := h
    simp [h]
  | e :: es, ms, h => by
    obtain ⟨m, r, h1, h2, h3, h4, h5⟩ := h
    simp [h1, EntsIn_length h5]

theorem HRel.map (h : HRel X E H w) {b clock : Nat} {es : List (Value × AV × Nat)} (hb : H[b]? = some (.map es clock)) :
    ∃ l ms, E b = some l ∧ l.live = true ∧ l.g = 0 ∧ w.heap[l.B]? = some (.map ms clock) ∧ EntsIn (Im X E H w) w E es ms.toList := h.blk b _ hb

theorem V_mp {b : Nat} {x : Value} (hv : V im w (.mp b) E x) {l : LB} (hE : E b = some l) (hl : l.live = true) (hg : l.g = 0) : x = .map (some l.B) := by
  simp only [V] at hv
  obtain ⟨l', r, hE', rfl, hr⟩ := hv
  rw [hE] at hE'
  cases hE'
  rw [hr hl hg]

theorem lenA_sound (h : HRel X E H w) {argTypes : Array TypeId} {ty t : TypeId} {a v : AV} {x : Value} (ht : argTypes[0]? = some t) (ha : V (Im X E H w) w a E x) (hv : lenA P H t a = some v) :
    ∃ y, (Builtin.len_ argTypes ty #[x]).run P w = .ok y w ∧ V (Im X E H w) w v E y := by
  unfold lenA at hv
  split at hv
  · rename_i e size es cap hu
    cases hv
    simp only [V] at ha
    obtain ⟨p, c, rfl, _⟩ := ha
    exact ⟨_, by simp [Builtin.len_, ht, run_underlying hu]; rfl, by simp [V]⟩
  · rename_i e b g start len cap hu
    cases hv
    simp only [V] at ha
    obtain ⟨_, p, c, _, _, rfl, _⟩ := ha
    exact ⟨_, by simp [Builtin.len_, ht, run_underlying hu]; rfl, by simp [V]⟩
  · rename_i k e b hu
    split at hv
    · rename_i es clock hk
      cases hv
      obtain ⟨l, ms, hE, hl, hg, hh, hes⟩ := h.map hk
      have := V_mp ha hE hl hg
      subst this
      refine ⟨.int .i64 es.length, ?_, by simp [V, goInt]⟩
      have := EntsIn_length hes
      simp only [Array.length_toList] at this
      have hget : (getObj l.B).run P w = .ok (.map ms clock) w := by simp only [getObj, Sem.run, hh]
      simp [Builtin.len_, ht, run_underlying hu, hget, goInt, this]
    · cases hv
  · simp only [Option.map_eq_some_iff, Option.bind_eq_some_iff] at hv
    obtain ⟨u, ⟨y, hy, hu⟩, rfl⟩ := hv
    have := V_conc hy ha
    subst this
    have hr := pureRun_run P _ _ hu w
    refine ⟨u, ?_, V_absV E u⟩
    unfold Builtin.len_ at hr ⊢
    simpa [ht] using hr

theorem eqBytes_eq : ∀ (a b : List UInt8), eqBytes a b = (a == b)
  | [], [] => rfl
  | [], _ :: _ => rfl
  | _ :: _, [] => rfl
  | a :: x, b :: y => by
    simp only [eqBytes, List.cons_beq_cons]
    split
    · rename_i h
      have : a = b := UInt8.toNat_inj.1 (by simpa using Nat.beq_eq.mp h)
      subst this
      simp [eqBytes_eq x y]
    · rename_i h
      have : a ≠ b := by rintro rfl; simp at h
      have : (a == b) = false := by simpa using this
      simp [this]

theorem eqKind_eq {k k' : IntKind} (h : eqKind k k' = true) : k = k' := by cases k <;> cases k' <;> simp [eqKind] at h ⊢

theorem fastA_sound {op : BinOp} {a b v : AV} {x y : Value} (ha : V im w a E x) (hb : V im w b E y) (t : TypeId) (ox oy : Operand) (hv : fastA op a b = some v) :
    ∃ r, (do eqGuard op t ox oy x y; binOp op t x y).run P w = .ok r w ∧ V im w v E r := by
  unfold fastA at hv
  split at hv
  · rename_i k m k' n
    simp only [V] at ha hb
    subst ha; subst hb
    split at hv
    · rename_i hk
      have := eqKind_eq hk
      subst this
      have hg : (eqGuard op t ox oy (.int k m) (.int k n)).run P w = .ok () w := by
        unfold eqGuard
        split <;> simp
      unfold intA at hv
      split at hv <;> first
        | (cases hv; done)
        | (cases hv; exact ⟨_, by simp only [Sem.run_bind, hg, Result.andThen_ok]; simp [binOp, Op.intArith, Op.intCmp]; rfl, by simp [V]⟩)
    · cases hv
  · rename_i s r
    simp only [V] at ha hb
    subst ha; subst hb
    have hg : (eqGuard op t ox oy (.string s) (.string r)).run P w = .ok () w := by
      unfold eqGuard
      split <;> simp
    unfold strA at hv
    split at hv
    · cases hv
      refine ⟨_, by simp only [Sem.run_bind, hg, Result.andThen_ok]; rw [binOp_string_eql]; rfl, ?_⟩
      simp [V, eqBytes_eq, ByteArray.toList_eq]
    · cases hv
      refine ⟨_, by simp only [Sem.run_bind, hg, Result.andThen_ok]; rw [binOp_string_neq]; rfl, ?_⟩
      simp [V, eqBytes_eq, ByteArray.toList_eq]
    · cases hv
  · cases hv

theorem nil_fin {t : TypeId} {x z : Value} (he1 : (Op.equal t x z).run P w = .ok false w) (he2 : (Op.equal t z x).run P w = .ok false w)
    (hb1 : ∀ op, op = .eql ∨ op = .neq → ∀ ox oy, (eqGuard op t ox oy x z).run P w = .ok () w ∧ (eqGuard op t ox oy z x).run P w = .ok () w)
    (hc1 : (binOp .eql t x z = do { let b ← Op.equal t x z; pure (.bool b) }) ∧ (binOp .eql t z x = do { let b ← Op.equal t z x; pure (.bool b) }) ∧
      (binOp .neq t x z = do { let b ← Op.equal t x z; pure (.bool (!b)) }) ∧ (binOp .neq t z x = do { let b ← Op.equal t z x; pure (.bool (!b)) }))
    (op : BinOp) (v : AV) (ho : nilA op = some v) (ox oy : Operand) :
    (∃ r, (do eqGuard op t ox oy x z; binOp op t x z).run P w = .ok r w ∧ V im w v E r) ∧ (∃ r, (do eqGuard op t ox oy z x; binOp op t z x).run P w = .ok r w ∧ V im w v E r) := by
  have hop : (op = .eql ∧ v = .sc (.bool false)) ∨ (op = .neq ∧ v = .sc (.bool true)) := by
    unfold nilA at ho
    split at ho <;> simp_all
  rcases hop with ⟨rfl, rfl⟩ | ⟨rfl, rfl⟩
  · obtain ⟨h1, h2⟩ := hb1 .eql (.inl rfl) ox oy
    obtain ⟨h3, h4, _, _⟩ := hc1
    rw [h3, h4]
    exact ⟨⟨.bool false, by simp [h1, he1], by simp [V]⟩, ⟨.bool false, by simp [h2, he2], by simp [V]⟩⟩
  · obtain ⟨h1, h2⟩ := hb1 .neq (.inr rfl) ox oy
    obtain ⟨_, _, h3, h4⟩ := hc1
    rw [h3, h4]
    exact ⟨⟨.bool true, by simp [h1, he1], by simp [V]⟩, ⟨.bool true, by simp [h2, he2], by simp [V]⟩⟩

/-- What is no nil, against nil. -/
theorem fits_eql {t : TypeId} {d : TypeDesc} {a c : AV} {x z : Value} (hd : P.underlying t = some d) (hx : V im w a E x) (hz : V im w c E z) (hf : fitsT d a = true) (hn : nilT d c = true)
    (op : BinOp) (v : AV) (ho : nilA op = some v) (ox oy : Operand) :
    (∃ r, (do eqGuard op t ox oy x z; binOp op t x z).run P w = .ok r w ∧ V im w v E r) ∧ (∃ r, (do eqGuard op t ox oy z x; binOp op t z x).run P w = .ok r w ∧ V im w v E r) := by
  unfold nilT at hn
  split at hn
  · simp only [V] at hz
    subst hz
    have : ∃ p n c, x = .slice (some p) n c := by
      cases a <;> simp only [fitsT, Bool.false_eq_true] at hf <;> simp only [V] at hx
      · obtain ⟨_, p, c, _, _, rfl, _⟩ := hx; exact ⟨p, _, c, rfl⟩
      · obtain ⟨p, c, rfl, _⟩ := hx; exact ⟨p, _, c, rfl⟩
    obtain ⟨p, n, c, rfl⟩ := this
    have he : ∀ k, (Op.equalIn (k + 1) t (.slice (some p) n c) (.slice none 0 0)).run P w = .ok false w ∧ (Op.equalIn (k + 1) t (.slice none 0 0) (.slice (some p) n c)).run P w = .ok false w := fun k => by
      simp [Op.equalIn, run_underlying hd]
    refine nil_fin (he 9999).1 (he 9999).2 (fun op h => ?_) (by simp [binOp]) op v ho ox oy
    rcases h with rfl | rfl <;> simp [eqGuard]
  · simp only [V] at hz
    subst hz
    have : ∃ p, x = .pointer (some p) := by
      cases a <;> simp only [fitsT, Bool.false_eq_true] at hf <;> simp only [V] at hx
      · obtain ⟨_, p, _, _, rfl, _⟩ := hx; exact ⟨p, rfl⟩
      · obtain ⟨p, o, rfl, _⟩ := hx; exact ⟨_, rfl⟩
    obtain ⟨p, rfl⟩ := this
    have he : ∀ k, (Op.equalIn (k + 1) t (.pointer (some p)) (.pointer none)).run P w = .ok false w ∧ (Op.equalIn (k + 1) t (.pointer none) (.pointer (some p))).run P w = .ok false w := fun k => by
      simp [Op.equalIn, run_underlying hd]
    refine nil_fin (he 9999).1 (he 9999).2 (fun op h => ?_) (by simp [binOp]) op v ho ox oy
    rcases h with rfl | rfl <;> simp [eqGuard]
  · simp only [V] at hz
    subst hz
    have : ∃ p, x = .map (some p) := by
      cases a <;> simp only [fitsT, Bool.false_eq_true] at hf <;> simp only [V] at hx
      obtain ⟨_, p, _, rfl, _⟩ := hx; exact ⟨p, rfl⟩
    obtain ⟨p, rfl⟩ := this
    have he : ∀ k, (Op.equalIn (k + 1) t (.map (some p)) (.map none)).run P w = .ok false w ∧ (Op.equalIn (k + 1) t (.map none) (.map (some p))).run P w = .ok false w := fun k => by
      simp [Op.equalIn, run_underlying hd]
    refine nil_fin (he 9999).1 (he 9999).2 (fun op h => ?_) (by simp [binOp]) op v ho ox oy
    rcases h with rfl | rfl <;> simp [eqGuard]
  · simp only [V] at hz
    subst hz
    have : ∃ f a b, x = .func f a b := by
      cases a <;> simp only [fitsT, Bool.false_eq_true] at hf <;> simp only [V] at hx
      obtain ⟨p, rfl, _⟩ := hx; exact ⟨_, _, _, rfl⟩
    obtain ⟨f, a1, b1, rfl⟩ := this
    have he : ∀ k, (Op.equalIn (k + 1) t (.func f a1 b1) .nilFunc).run P w = .ok false w ∧ (Op.equalIn (k + 1) t .nilFunc (.func f a1 b1)).run P w = .ok false w := fun k => by
      simp [Op.equalIn, run_underlying hd]
    refine nil_fin (he 9999).1 (he 9999).2 (fun op h => ?_) (by simp [binOp]) op v ho ox oy
    rcases h with rfl | rfl <;> simp [eqGuard]
  · simp only [V] at hz
    subst hz
    have : ∃ t u, x = .iface t u := by
      cases a <;> simp only [fitsT, Bool.false_eq_true] at hf <;> simp only [V] at hx
      obtain ⟨p, rfl, _⟩ := hx; exact ⟨_, _, rfl⟩
    obtain ⟨t1, u1, rfl⟩ := this
    have he : ∀ k, (Op.equalIn (k + 1) t (.iface t1 u1) .nilIface).run P w = .ok false w ∧ (Op.equalIn (k + 1) t .nilIface (.iface t1 u1)).run P w = .ok false w := fun k => by
      simp [Op.equalIn, run_underlying hd]
    refine nil_fin (he 9999).1 (he 9999).2 (fun op h => ?_) (by simp [binOp]) op v ho ox oy
    rcases h with rfl | rfl <;> simp [eqGuard]
  · cases hn

theorem slowA_sound {op : BinOp} {a b v : AV} {x y : Value} (ha : V im w a E x) (hb : V im w b E y) (t : TypeId) (ox oy : Operand) (hv : slowA P op t ox oy a b = some v) :
    ∃ r, (do eqGuard op t ox oy x y; binOp op t x y).run P w = .ok r w ∧ V im w v E r := by
  unfold slowA at hv
  split at hv
  · rename_i m n h1 h2
    simp only [Option.map_eq_some_iff] at hv
    obtain ⟨u, hu, rfl⟩ := hv
    have := V_conc h1 ha
    subst this
    have := V_conc h2 hb
    subst this
    exact ⟨u, pureRun_run P _ _ hu w, V_absV E u⟩
  · split at hv
    · rename_i d hd
      split at hv
      · rename_i hc
        simp only [Bool.or_eq_true, Bool.and_eq_true] at hc
        rcases hc with ⟨h1, h2⟩ | ⟨h1, h2⟩
        · exact (fits_eql (P := P) hd ha hb h1 h2 op v hv ox oy).1
        · exact (fits_eql (P := P) hd hb ha h2 h1 op v hv ox oy).2
      · cases hv
    · cases hv

theorem binA_sound {op : BinOp} {a b v : AV} {x y : Value} (ha : V im w a E x) (hb : V im w b E y) (t : TypeId) (ox oy : Operand) (hv : binA P op t ox oy a b = some v) :
    ∃ r, (do eqGuard op t ox oy x y; binOp op t x y).run P w = .ok r w ∧ V im w v E r := by
  unfold binA at hv
  split at hv
  · rename_i u hu
    cases hv
    exact fastA_sound ha hb t ox oy hu
  · exact slowA_sound ha hb t ox oy hv

theorem rangeA_sound (h : HRel X E H w) {at_ : Option Nat} {t : TypeId} {a v : AV} {x : Value} {H' : List Blk} (ha : V (Im X E H w) w a E x) (hv : rangeA P H at_ t a = some (v, H')) :
    ∃ y w', (Instr.range t x).run P w = .ok y w' ∧ Good X E H w v H' y w' := by
  unfold rangeA at hv
  split at hv
  · rename_i s ht
    simp only [V] at ha
    subst ha
    simp only [Option.map_eq_some_iff] at hv
    obtain ⟨⟨b, H1⟩, hnew, he⟩ := hv
    cases he
    refine ⟨.pointer (some ⟨w.heap.size, 0, none⟩), w.alloc (.stringIter s 0), by simp [Instr.range, run_underlying ht], ?_⟩
    obtain ⟨h1, h2⟩ := h.lay hnew (o := .stringIter s 0) (w' := w.alloc (.stringIter s 0)) rfl
      (l := { live := true, g := 0, B := w.heap.size, o := 0, K := 0, size := 0 }) rfl rfl (fun im' him hle ho => ⟨_, rfl, rfl, rfl, rfl, rfl, ho⟩)
    refine ⟨_, h1, h2, ?_⟩
    simp only [V]
    exact ⟨_, _, upd_same _ _ _, Nat.le_refl _, rfl, fun _ _ => by simp⟩
  · cases hv

theorem nextA_sound (h : HRel X E H w) {str : Bool} {ty : TypeId} {a v : AV} {x : Value} {H' : List Blk} (ha : V (Im X E H w) w a E x) (hv : nextA H a str = some (v, H')) :
    ∃ y w', (Instr.next x str ty).run P w = .ok y w' ∧ Good X E H w v H' y w' := by
  unfold nextA at hv
  split at hv
  · rename_i b
    split at hv
    · rename_i s pos hk
      obtain ⟨l, hE, hl, hg, ho, hs, hh⟩ := h.blk b _ hk
      have hx : x = .pointer (some ⟨l.B, 0, none⟩) := by
        simp only [V] at ha
        obtain ⟨l', p, hE', _, rfl, hp⟩ := ha
        rw [hE] at hE'
        cases hE'
        rw [hp hl hg, ho, hs]
      subst hx
      have hget : (getObj l.B).run P w = .ok (.stringIter s pos) w := by
        simp only [getObj, Sem.run, hh]
      split at hv
      · rename_i hlt
        cases hv
        have hset : (setObj l.B (.stringIter s (pos + (Utf8.decode s pos).2))).run P w = .ok () { w with heap := w.heap.setIfInBounds l.B (.stringIter s (pos + (Utf8.decode s pos).2)) } := by
          simp only [setObj, Sem.run, hh]
        have hB := h.lt hE hl
        have hT : Turn X E H w b (.siter s (pos + (Utf8.decode s pos).2)) l { w with heap := w.heap.setIfInBounds l.B (.stringIter s (pos + (Utf8.decode s pos).2)) } :=
          { live := hl, still := Still.of_one ⟨rfl, rfl⟩ rfl (B := l.B) (fun x hx => by show (w.heap.setIfInBounds l.B _)[x]? = _; rw [Array.getElem?_setIfInBounds_ne (Ne.symm hx)]) (by rw [hh]; rfl) (by show frzO (w.heap.setIfInBounds l.B _)[l.B]? = _; rw [Array.getElem?_setIfInBounds_self_of_lt hB]; rfl), size := by simp, place := .inr ⟨l, hE, hl, rfl⟩,
            other := fun B hB hn => by
              show (w.heap.setIfInBounds l.B _)[B]? = _
              rw [Array.getElem?_setIfInBounds_ne (fun e => hn l hE hl e)],
            ed := fun l0 h0 => (by rw [hE] at h0; cases h0; exact ⟨Nat.le_refl _, fun _ => ⟨hl, rfl, rfl, rfl, rfl⟩⟩),
            zone := fun l0 h0 _ size' g' es' hk' => (by rw [hk] at hk'; cases hk'),
            cell := fun l0 h0 _ size' g' es' hk' => (by rw [hk] at hk'; cases hk') }
        have hP : Put H b (.siter s (pos + (Utf8.decode s pos).2)) (H.set b (.siter s (pos + (Utf8.decode s pos).2))) := Put.set hk
        have hres := h.turn hP hT (h.xs b l hE hl) ⟨l, rfl, hl, hg, ho, hs, by
          show (w.heap.setIfInBounds l.B _)[l.B]? = _
          rw [Array.getElem?_setIfInBounds_self_of_lt hB]⟩
        rw [upd_self hE] at hres
        refine ⟨.tuple #[.bool true, goInt pos, .int .i32 (Utf8.decode s pos).1], _, ?_, E, hres.1, hres.2, ?_⟩
        · simp [Instr.next, hget, hlt, hset]
        · simp [V, VL]
      · rename_i hlt
        cases hv
        refine ⟨.tuple #[.bool false], w, ?_, Good.here h ?_⟩
        · simp [Instr.next, hget, hlt]
        · simp [V, VL]
    · cases hv
  · cases hv

end
end Go.Ai
