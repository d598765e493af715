/-
  WHAT A MOVE LEAVES ALONE.
-/
import Derived.Test.YtndloeajkfajnaaAiLocal
import Derived.Test.YtndloeajkfajnaaAiMark
set_option linter.unusedVariables false
set_option linter.unusedSimpArgs false
namespace Go.Ai

mutual
theorem frz_data {H : List Blk} : ∀ {c : AV}, isData c = true → frz H c = some c ∧ slIds c = []
  | .sc _, _ => ⟨rfl, rfl⟩
  | .rp .., _ => ⟨rfl, rfl⟩
  | .ro .., _ => ⟨rfl, rfl⟩
  | .agg cs, h => by
    simp only [isData] at h
    obtain ⟨h1, h2⟩ := frzL_data (H := H) h
    exact ⟨by simp only [frz, h1, Option.map_some], by simp only [slIds, h2]⟩
  | .tup cs, h => by
    simp only [isData] at h
    obtain ⟨h1, h2⟩ := frzL_data (H := H) h
    exact ⟨by simp only [frz, h1, Option.map_some], by simp only [slIds, h2]⟩
  | .fn f cs, h => by
    simp only [isData] at h
    obtain ⟨h1, h2⟩ := frzL_data (H := H) h
    exact ⟨by simp only [frz, h1, Option.map_some], by simp only [slIds, h2]⟩
  | .ifc t v, h => by
    simp only [isData] at h
    obtain ⟨h1, h2⟩ := frz_data (H := H) h
    exact ⟨by simp only [frz, h1, Option.map_some], by simp only [slIds, h2]⟩
  | .undef, h => by simp [isData] at h
  | .ptr .., h => by simp [isData] at h
  | .sl .., h => by simp [isData] at h
  | .mp _, h => by simp [isData] at h
theorem frzL_data {H : List Blk} : ∀ {cs : List AV}, isDataL cs = true → frzL H cs = some cs ∧ slIdsL cs = []
  | [], _ => ⟨rfl, rfl⟩
  | c :: cs, h => by
    simp only [isDataL, Bool.and_eq_true] at h
    obtain ⟨h1, h2⟩ := frz_data (H := H) h.1
    obtain ⟨h3, h4⟩ := frzL_data (H := H) h.2
    exact ⟨by simp only [frzL, h1, h3], by simp only [slIdsL, h2, h4, List.append_nil]⟩
end

theorem frzRows_data {H : List Blk} : ∀ {rows : List (List AV)}, (∀ r ∈ rows, isDataL r = true) → frzRows H rows = some rows ∧ rows.flatMap slIdsL = []
  | [], _ => ⟨rfl, rfl⟩
  | r :: rows, h => by
    obtain ⟨h1, h2⟩ := frzL_data (H := H) (h r (by simp))
    obtain ⟨h3, h4⟩ := frzRows_data (H := H) (rows := rows) fun x hx => h x (by simp [hx])
    exact ⟨by simp only [frzRows, h1, h3], by simp only [List.flatMap_cons, h2, h4, List.append_nil]⟩

theorem isDataL_mem : ∀ {cs : List AV}, isDataL cs = true ↔ ∀ c ∈ cs, isData c = true
  | [] => by simp [isDataL]
  | c :: cs => by simp [isDataL, isDataL_mem (cs := cs)]

theorem cellsA_data {v : AV} {cs : List AV} (h : cellsA v = some cs) (hd : isData v = true) : isDataL cs = true := by
  have one : ∀ {u : AV}, isData u = true → isDataL [u] = true := fun hu => by simp [isDataL, hu]
  unfold cellsA at h
  split at h
  · rename_i l
    split at h
    · cases h; simpa [isData] using hd
    · cases h
  · rename_i l
    simp only at h
    split at h
    · cases h
      rw [isDataL_mem]
      intro c hc
      rw [List.mem_map] at hc
      obtain ⟨y, _, rfl⟩ := hc
      rfl
    · cases h
  · split at h
    · cases h; exact one hd
    · cases h

theorem cellsA_absV {z : Value} {cs : List AV} (h : cellsA (absV z) = some cs) : isDataL cs = true := by
  refine cellsA_data h ?_
  have h1 : ∀ v, isData (abs1 v) = true := by
    intro v
    cases v <;> simp only [abs1, isData]
    rw [isDataL_mem]
    intro c hc
    rw [List.mem_map] at hc
    obtain ⟨y, _, rfl⟩ := hc
    rfl
  cases z with
  | tuple vs =>
    simp only [absV]
    split
    · rfl
    · simp only [isData]
      rw [isDataL_mem]
      intro c hc
      rw [List.mem_map] at hc
      obtain ⟨y, _, rfl⟩ := hc
      exact h1 y
  | _ => simp only [absV]; exact h1 _

theorem setRows_data {size : Nat} : ∀ {ps : List (Nat × AV)} {rows rows' : List (List AV)}, setRows size rows ps = some rows' → (∀ r ∈ rows, isDataL r = true) → (∀ p ∈ ps, isData p.2 = true) →
    ∀ r ∈ rows', isDataL r = true
  | [], rows, rows', h, hr, hp => by simp only [setRows, Option.some.injEq] at h; subst h; exact hr
  | (i, v) :: ps, rows, rows', h, hr, hp => by
    simp only [setRows] at h
    split at h
    · rename_i cs hcs
      split at h
      · refine setRows_data h ?_ fun p hq => hp p (by simp [hq])
        intro r hx
        rcases List.mem_or_eq_of_mem_set hx with hx | rfl
        · exact hr r hx
        · exact cellsA_data hcs (hp (i, v) (by simp))
      · cases h
    · cases h

theorem evalOp_lit {C : Ctx} {call : CallT} {tmps : Tm} {H H1 : List Blk} {o : Oper} {v : AV} {us : List AV} (hk : kindOf o.op = .lit) (hu : evL tmps o.op.operands.toList = some us) (hd : isDataL us = true) (hl : litOK C o.op = true)
    (h : evalOp C call none tmps H o = some (.val v H1)) : H1 = H ∧ ∀ H2, evalOp C call none tmps H2 o = some (.val v H2) := by
  obtain ⟨dst, op, ty, pos, after, guard⟩ := o
  simp only at hk hu hl
  cases op
  case call c =>
    obtain ⟨cal, args, tys⟩ := c
    cases cal with
    | value f => simp only [kindOf] at hk; cases hk
    | invoke r m => simp only [kindOf] at hk; cases hk
    | builtin b => cases b <;> simp only [kindOf] at hk <;> cases hk
  case buildSlice t n ps =>
    have ho : C.own t = false := by simpa [litOK] using hl
    simp only [evalOp, valOf, Option.bind_eq_some_iff, Option.map_eq_some_iff] at h ⊢
    obtain ⟨us', hx, ⟨v', H'⟩, hb, he⟩ := h
    have : us' = us := by
      have h2 : evL tmps (ps.toList.map (·.2)) = some us := by simpa [Op.operands] using hu
      rw [hx] at h2
      cases h2
      rfl
    subst this
    simp only [ORes.val.injEq] at he
    obtain ⟨rfl, rfl⟩ := he
    have key : H' = H ∧ ∀ H2, buildSliceA (C.own t) C.P H2 none t n ((ps.toList.map (·.1)).zip us') = some (v', H2) := by
      rw [ho] at hb ⊢
      unfold buildSliceA at hb ⊢
      split at hb
      · rename_i elem ht
        split at hb
        · rename_i size zero hsz hz
          split at hb
          · rename_i hc
            split at hb
            · rename_i rows hr
              have hrows : ∀ r ∈ rows, isDataL r = true := by
                refine setRows_data hr ?_ ?_
                · intro r hr'
                  rw [List.mem_replicate] at hr'
                  rw [hr'.2]
                  simp only [Option.bind_eq_some_iff] at hz
                  obtain ⟨z, _, hz⟩ := hz
                  exact cellsA_absV hz
                · intro p hp
                  have := (List.of_mem_zip hp).2
                  exact isDataL_mem.1 hd _ this
              obtain ⟨f1, f2⟩ := frzRows_data (H := H) hrows
              simp only [f1, f2, mark, List.foldl_nil, Option.some.injEq, Prod.mk.injEq] at hb
              obtain ⟨rfl, rfl⟩ := hb
              refine ⟨rfl, fun H2 => ?_⟩
              obtain ⟨f3, f4⟩ := frzRows_data (H := H2) hrows
              simp only [hsz, hz, hc, and_self, ne_eq, not_false_eq_true, if_true, hr, f3, f4, mark, List.foldl_nil]
            · cases hb
          · cases hb
        · cases hb
      · cases hb
    exact ⟨key.1, fun H2 => ⟨us', hx, (v', H2), key.2 H2, rfl⟩⟩
  all_goals (simp only [kindOf] at hk; cases hk)

/-! ### moves -/

/-- From H to H2 the blocks are alike but those of D. -/
def Kept (D : List Nat) (H H2 : List Blk) : Prop := H.length ≤ H2.length ∧ ∀ b, b < H.length → b ∉ D → sameB H[b]? H2[b]?

theorem Kept.refl (D : List Nat) (H : List Blk) : Kept D H H := ⟨Nat.le_refl _, fun _ _ _ => .refl _⟩
theorem Kept.append (D : List Nat) (H L : List Blk) : Kept D H (H ++ L) :=
  ⟨by simp, fun b hb _ => .inl (by rw [List.getElem?_append_left hb])⟩
theorem Kept.set {H : List Blk} {b : Nat} {k : Blk} : Kept [b] H (H.set b k) :=
  ⟨by simp, fun x hx hn => .inl (by rw [List.getElem?_set_ne (by rintro rfl; simp at hn)])⟩
theorem Kept.mark (D : List Nat) (H : List Blk) (ids : List Nat) : Kept D H (mark H ids) := by
  refine ⟨?_, fun b hb _ => ?_⟩
  · rcases Nat.lt_or_ge (Ai.mark H ids).length H.length with h1 | h1
    · have h2 := mark_get ids H (Ai.mark H ids).length
      rw [List.getElem?_eq_none (Nat.le_refl _), List.getElem?_eq_getElem h1] at h2
      split at h2
      · cases h2
      · cases h2
    · exact h1
  · rw [mark_get]
    cases hk : H[b]? with
    | none => exact .refl _
    | some k => cases k <;> first | exact .refl _ | exact .inr ⟨_, _, _, _, _, rfl, rfl⟩
theorem Kept.trans {D : List Nat} {H H1 H2 : List Blk} (h : Kept D H H1) (h' : Kept D H1 H2) : Kept D H H2 :=
  ⟨Nat.le_trans h.1 h'.1, fun b hb hn => (h.2 b hb hn).trans (h'.2 b (Nat.lt_of_lt_of_le hb h.1) hn)⟩
theorem Kept.markOne (D : List Nat) (H : List Blk) (b : Nat) : Kept D H (markOne H b) := Kept.mark D H [b]
theorem Kept.new {D : List Nat} {H H' : List Blk} {k : Blk} {b : Nat} (h : newAt H none k = some (b, H')) : Kept D H H' := by
  simp only [newAt, Option.some.injEq, Prod.mk.injEq] at h
  rw [← h.2]
  exact Kept.append D H _

theorem appendA_kept {P : Program} {H H' : List Blk} {tys : Array TypeId} {s x v : AV} (h : appendA P H none tys s x = some (v, H')) : Kept (blkOf s) H H' := by
  have hnew : ∀ {k : Blk} {f : Nat × List Blk → AV × List Blk}, (∀ r, (f r).2 = r.2) → (newAt H none k).map f = some (v, H') → Kept (blkOf s) H H' := by
    intro k f hf hm
    simp only [Option.map_eq_some_iff] at hm
    obtain ⟨⟨b, H1⟩, hn, he⟩ := hm
    have h2 := hf (b, H1)
    rw [he] at h2
    simp only at h2
    rw [h2]
    exact Kept.new hn
  unfold appendA at h
  split at h
  · split at h
    · split at h
      · cases h
      · split at h
        · split at h
          · cases h
          · split at h
            · simp only at h
              split at h
              · split at h
                · cases h; exact Kept.refl _ _
                · split at h
                  · exact hnew (fun _ => rfl) h
                  · cases h
              · split at h
                · cases h; exact Kept.refl _ _
                · split at h
                  · split at h
                    · exact hnew (fun _ => rfl) h
                    · cases h
                  · cases h
              · split at h
                · split at h
                  · split at h
                    · cases h; exact Kept.refl _ _
                    · split at h
                      · split at h
                        · cases h; exact Kept.set
                        · cases h
                      · split at h
                        · split at h
                          · cases h; exact Kept.set
                          · cases h
                        · split at h
                          · exact hnew (fun _ => rfl) h
                          · cases h
                  · cases h
                · cases h
              · cases h
            · cases h
        · cases h
    · cases h
  · cases h

theorem sliceA_kept {P : Program} {H H' : List Blk} {D : List Nat} {t : TypeId} {x v : AV} {lo hi mx : Option AV} (h : sliceA P H t x lo hi mx = some (v, H')) : Kept D H H' := by
  unfold sliceA at h
  split at h
  · split at h
    · simp only [Option.map_eq_some_iff] at h
      obtain ⟨_, _, he⟩ := h
      cases he
      exact Kept.refl _ _
    · cases h
  · split at h
    · cases h; exact Kept.refl _ _
    · cases h
  · split at h
    · split at h
      · cases h; exact Kept.refl _ _
      · cases h
    · cases h
  · split at h
    · split at h
      · cases h; exact Kept.refl _ _
      · cases h
    · cases h
  · split at h
    · split at h
      · simp only at h
        split at h
        · cases h; exact Kept.markOne _ _ _
        · cases h
      · cases h
    · cases h
  · cases h

theorem doCall_kept {C : Ctx} {call : CallT} {f : FuncId} {args : List AV} {H H' : List Blk} {D : List Nat} {v : AV} (hi : ((C.prims f).isSome || (!C.byRef f && (frzL H args).isSome)) = true)
    (h : doCall C call none f args H = some (.val v H')) : Kept D H H' := by
  unfold doCall at h
  split at h
  · split at h
    · split at h
      · split at h
        · cases h; exact Kept.refl _ _
        · split at h
          · cases h; exact Kept.mark _ _ _
          · cases h
      · cases h
    · cases h
  · rename_i hp
    simp only [hp, Option.isSome_none, Bool.false_or, Bool.and_eq_true, Bool.not_eq_true'] at hi
    obtain ⟨us, hus⟩ := Option.isSome_iff_exists.1 hi.2
    simp only [hi.1, Bool.false_eq_true, if_false, hus] at h
    split at h
    · split at h
      · cases h; exact Kept.refl _ _
      · split at h
        · cases h; exact Kept.mark _ _ _
        · simp only [Option.map_eq_some_iff] at h
          obtain ⟨⟨v', H1⟩, ha, he⟩ := h
          cases he
          simp only [adopt, Option.some.injEq, Prod.mk.injEq] at ha
          rw [← ha.2]
          exact (Kept.mark _ _ _).trans (Kept.append _ _ _)
    · simp only [Option.map_eq_some_iff] at h
      obtain ⟨_, _, he⟩ := h
      cases he
    · cases h

theorem buildSliceA_kept {own : Bool} {P : Program} {H H' : List Blk} {D : List Nat} {t n : Nat} {ps : List (Nat × AV)} {v : AV} (h : buildSliceA own P H none t n ps = some (v, H')) : Kept D H H' := by
  unfold buildSliceA at h
  split at h
  · split at h
    · split at h
      · split at h
        · split at h
          · cases h; exact Kept.mark _ _ _
          · simp only [Option.map_eq_some_iff] at h
            obtain ⟨⟨b, H1⟩, hn, he⟩ := h
            cases he
            exact Kept.new hn
        · cases h
      · cases h
    · cases h
  · cases h

theorem makeSliceA_kept {P : Program} {H H' : List Blk} {D : List Nat} {t : TypeId} {l c v : AV} (h : makeSliceA P H none t l c = some (v, H')) : Kept D H H' := by
  unfold makeSliceA at h
  split at h
  · split at h
    · split at h
      · simp only [Option.map_eq_some_iff] at h
        obtain ⟨⟨b, H1⟩, hn, he⟩ := h
        cases he
        exact Kept.new hn
      · cases h
    · cases h
  · cases h

theorem storeA_kept {P : Program} {H H' : List Blk} {t : TypeId} {a v : AV} (h : storeA P H t a v = some H') : Kept (blkOf a) H H' := by
  unfold storeA at h
  split at h
  · split at h
    · split at h
      · split at h
        · cases h; exact Kept.set
        · cases h
      · cases h
    · cases h
  · cases h

theorem dirt_kept {C : Ctx} {call : CallT} {tmps : Tm} {H H' : List Blk} {o : Oper} {D : List Nat} {r : ORes} (hd : dirtOf C tmps H o = some (some D)) (h : evalOp C call none tmps H o = some r)
    (hr : (∃ v, r = .val v H') ∨ r = .skip H') : Kept D H H' := by
  obtain ⟨dst, op, ty, pos, after, guard⟩ := o
  cases op
  case store t a x =>
    simp only [dirtOf, Option.map_eq_some_iff, Option.some.injEq] at hd
    obtain ⟨u, hu, rfl⟩ := hd
    simp only [evalOp, hu] at h
    split at h
    · rename_i a' v' e1 e2
      cases e1
      simp only [Option.map_eq_some_iff] at h
      obtain ⟨H1, hs, rfl⟩ := h
      rcases hr with ⟨v, hr⟩ | hr <;> cases hr
      exact storeA_kept hs
    · cases h
  case makeSlice t l c =>
    simp only [dirtOf, Option.some.injEq] at hd
    subst hd
    simp only [evalOp] at h
    split at h
    · simp only [valOf, Option.map_eq_some_iff] at h
      obtain ⟨⟨v', H1⟩, hs, rfl⟩ := h
      rcases hr with ⟨v, hr⟩ | hr <;> cases hr
      exact makeSliceA_kept hs
    · cases h
  case slice t x lo hi mx =>
    simp only [dirtOf, Option.some.injEq] at hd
    subst hd
    simp only [evalOp] at h
    split at h
    · simp only [valOf, Option.map_eq_some_iff] at h
      obtain ⟨⟨v', H1⟩, hs, rfl⟩ := h
      rcases hr with ⟨v, hr⟩ | hr <;> cases hr
      exact sliceA_kept hs
    · cases h
  case buildSlice t n ps =>
    simp only [dirtOf, Option.some.injEq] at hd
    subst hd
    simp only [evalOp, valOf, Option.bind_eq_some_iff, Option.map_eq_some_iff] at h
    obtain ⟨us, hu, ⟨v', H1⟩, hs, rfl⟩ := h
    rcases hr with ⟨v, hr⟩ | hr <;> cases hr
    exact buildSliceA_kept hs
  case call c =>
    obtain ⟨cal, args, tys⟩ := c
    cases cal with
    | invoke r m => simp only [dirtOf] at hd; cases hd
    | builtin b =>
      cases b <;> simp only [dirtOf] at hd <;> try cases hd
      split at hd
      · rename_i s us hu
        cases hd
        simp only [evalOp, hu] at h
        split at h
        · rename_i s' x e
          cases e
          simp only [valOf, Option.map_eq_some_iff] at h
          obtain ⟨⟨v', H1⟩, hs, rfl⟩ := h
          rcases hr with ⟨v, hr⟩ | hr <;> cases hr
          exact appendA_kept hs
        · cases h
      · cases hd
    | value f =>
      simp only [dirtOf] at hd
      split at hd
      · rename_i g cs us hf hu
        split at hd
        · rename_i hi
          cases hd
          simp only [evalOp, hf, hu] at h
          unfold callA at h
          split at h
          · simp only [Option.map_eq_some_iff] at h
            obtain ⟨v1, _, rfl⟩ := h
            rcases hr with ⟨v, hr⟩ | hr <;> cases hr
            exact Kept.refl _ _
          rename_i hext
          simp only [hext, Bool.false_or, Bool.and_eq_true, Bool.not_eq_true'] at hi
          unfold preCall at h
          rw [hi.1] at h
          replace hi := hi.2
          rcases hr with ⟨v, rfl⟩ | rfl
          · exact doCall_kept hi h
          · unfold doCall at h
            exfalso
            revert h
            repeat' split
            all_goals first
              | (intro h; cases h; done)
              | (intro h; simp only [Option.map_eq_some_iff] at h; obtain ⟨_, _, h⟩ := h; cases h)
        · cases hd
      · cases hd
  all_goals (simp only [dirtOf] at hd; cases hd)

end Go.Ai
