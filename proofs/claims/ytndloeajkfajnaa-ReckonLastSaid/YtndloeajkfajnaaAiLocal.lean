/-
  WHAT AN OPERATION'S ABSTRACT RESULT HANGS ON: its operands, and the blocks they name.
-/
import Derived.Test.YtndloeajkfajnaaAiLit
set_option linter.unusedVariables false
set_option linter.unusedSimpArgs false
namespace Go.Ai

/-- Two blocks alike, but for what is told of later writes. -/
def sameB (k k' : Option Blk) : Prop := k' = k ∨ ∃ size g es fz fz', k = some (.cells size g es fz) ∧ k' = some (.cells size g es fz')

theorem sameB.refl (k : Option Blk) : sameB k k := .inl rfl
theorem sameB.symm {k k' : Option Blk} (h : sameB k k') : sameB k' k := by
  rcases h with h | ⟨s, g, es, fz, fz', h1, h2⟩
  · exact .inl h.symm
  · exact .inr ⟨s, g, es, fz', fz, h2, h1⟩
theorem sameB.trans {k k' k'' : Option Blk} (h : sameB k k') (h' : sameB k' k'') : sameB k k'' := by
  rcases h with h | ⟨s, g, es, fz, fz', h1, h2⟩
  · subst h; exact h'
  · rcases h' with h' | ⟨s', g', es', f, f', h3, h4⟩
    · subst h'; exact .inr ⟨s, g, es, fz, fz', h1, h2⟩
    · rw [h2] at h3
      cases h3
      exact .inr ⟨s, g, es, fz, f', h1, h4⟩
theorem sameB.cells {k k' : Option Blk} (h : sameB k k') {size g : Nat} {es : List (List AV)} {fz : Bool} (hk : k = some (.cells size g es fz)) : ∃ fz', k' = some (.cells size g es fz') := by
  rcases h with h | ⟨s, g', es', f, f', h1, h2⟩
  · exact ⟨fz, h.trans hk⟩
  · rw [hk] at h1; cases h1; exact ⟨f', h2⟩
theorem sameB.map {k k' : Option Blk} (h : sameB k k') {es : List (Value × AV × Nat)} {c : Nat} (hk : k = some (.map es c)) : k' = some (.map es c) := by
  rcases h with h | ⟨s, g', es', f, f', h1, h2⟩
  · exact h.trans hk
  · rw [hk] at h1; cases h1

theorem evL_congr {tmps tmps' : Tm} : ∀ {xs : List Operand}, (∀ x ∈ xs, ev tmps x = ev tmps' x) → evL tmps xs = evL tmps' xs
  | [], _ => rfl
  | x :: xs, h => by
    simp only [evL]
    rw [h x (by simp), evL_congr (xs := xs) fun y hy => h y (by simp [hy])]

theorem evO_congr {tmps tmps' : Tm} {x : Option Operand} (h : ∀ y ∈ x, ev tmps y = ev tmps' y) : x.mapM (ev tmps) = x.mapM (ev tmps') := by
  cases x with
  | none => rfl
  | some x => simp only [Option.mapM_some, h x (by simp)]

theorem evalOp_congr {C : Ctx} {call : CallT} {tmps tmps' : Tm} {H : List Blk} {o : Oper} (h : ∀ x ∈ o.op.operands.toList, ev tmps x = ev tmps' x) :
    evalOp C call none tmps H o = evalOp C call none tmps' H o := by
  obtain ⟨dst, op, ty, pos, after, guard⟩ := o
  simp only at h
  cases op
  case call c =>
    obtain ⟨cal, args, tys⟩ := c
    simp only [Op.operands, Call.operands] at h
    cases cal with
    | value f =>
      have h1 : ev tmps f = ev tmps' f := h f (by simp)
      have h2 : evL tmps args.toList = evL tmps' args.toList := evL_congr fun y hy => h y (by simp; simp at hy; simp [hy])
      simp only [evalOp, h1, h2]
    | invoke r m => rfl
    | builtin b =>
      have h2 : evL tmps args.toList = evL tmps' args.toList := evL_congr fun y hy => h y (by simpa using hy)
      cases b <;> simp only [evalOp, h2]
  case defer c =>
    obtain ⟨cal, args, tys⟩ := c
    simp only [Op.operands, Call.operands] at h
    cases cal with
    | value f =>
      have h1 : ev tmps f = ev tmps' f := h f (by simp)
      simp only [evalOp, h1]
    | invoke r m => rfl
    | builtin b => rfl
  case build t ps =>
    simp only [Op.operands] at h
    have h2 : evL tmps (ps.toList.map (·.2)) = evL tmps' (ps.toList.map (·.2)) := evL_congr fun y hy => h y (by simpa using hy)
    simp only [evalOp, h2]
  case buildSlice t n ps =>
    simp only [Op.operands] at h
    have h2 : evL tmps (ps.toList.map (·.2)) = evL tmps' (ps.toList.map (·.2)) := evL_congr fun y hy => h y (by simpa using hy)
    simp only [evalOp, h2]
  case makeFunc fn fs cs =>
    simp only [Op.operands] at h
    have h2 : evL tmps cs.toList = evL tmps' cs.toList := evL_congr fun y hy => h y (by simp; right; simpa using hy)
    cases fn <;> simp only [evalOp, h2]
  case slice t x lo hi mx =>
    simp only [Op.operands] at h
    have h1 : ev tmps x = ev tmps' x := h x (by simp)
    have h2 : lo.mapM (ev tmps) = lo.mapM (ev tmps') := evO_congr fun y hy => h y (by simp_all)
    have h3 : hi.mapM (ev tmps) = hi.mapM (ev tmps') := evO_congr fun y hy => h y (by simp_all)
    have h4 : mx.mapM (ev tmps) = mx.mapM (ev tmps') := evO_congr fun y hy => h y (by simp_all)
    simp only [evalOp, h1, h2, h3, h4]
  case makeMap t r => cases r <;> simp only [evalOp]
  all_goals first
    | rfl
    | (simp only [Op.operands, List.mem_cons, List.not_mem_nil, or_false, forall_eq_or_imp, forall_eq] at h; simp only [evalOp, h])

/-! ### what looks at no memory -/

theorem pure1_spec {e : Option AV} {H H1 : List Blk} {v : AV} (h : e.map (fun v => ORes.val v H) = some (.val v H1)) : H1 = H ∧ e = some v := by
  cases e with
  | none => cases h
  | some u => simp only [Option.map_some, Option.some.injEq, ORes.val.injEq] at h; exact ⟨h.2.symm, by rw [h.1]⟩

theorem evalOp_pure {C : Ctx} {call : CallT} {tmps : Tm} {H H1 : List Blk} {o : Oper} {v : AV} (hk : kindOf o.op = .pure) (h : evalOp C call none tmps H o = some (.val v H1)) :
    H1 = H ∧ ∀ H2, evalOp C call none tmps H2 o = some (.val v H2) := by
  obtain ⟨dst, op, ty, pos, after, guard⟩ := o
  simp only at hk
  cases op
  case call c =>
    obtain ⟨cal, args, tys⟩ := c
    cases cal with
    | value f => simp only [kindOf] at hk; cases hk
    | invoke r m => simp only [kindOf] at hk; cases hk
    | builtin b =>
      cases b <;> simp only [kindOf] at hk <;> try cases hk
      all_goals
        simp only [evalOp] at h ⊢
        split at h
        · rename_i vs hvs
          obtain ⟨rfl, he⟩ := pure1_spec h
          exact ⟨rfl, fun H2 => by simp only [hvs, he, Option.map_some]⟩
        · cases h
  case pick c a b =>
    simp only [evalOp] at h ⊢
    split at h
    · rename_i t ht
      obtain ⟨rfl, he⟩ := pure1_spec h
      exact ⟨rfl, fun H2 => by simp only [ht, he, Option.map_some]⟩
    · cases h
  case build t ps =>
    simp only [evalOp, Option.bind_eq_some_iff] at h ⊢
    obtain ⟨us, hu, h⟩ := h
    obtain ⟨rfl, he⟩ := pure1_spec h
    exact ⟨rfl, fun H2 => ⟨us, hu, by simp only [he, Option.map_some]⟩⟩
  case nilCheck x =>
    simp only [evalOp] at h ⊢
    split at h
    · rename_i hx
      obtain ⟨rfl, he⟩ := pure1_spec h
      exact ⟨rfl, fun H2 => by simp only [hx, he, Option.map_some]⟩
    · rename_i hx
      obtain ⟨rfl, he⟩ := pure1_spec h
      exact ⟨rfl, fun H2 => by simp only [hx, he, Option.map_some]⟩
    · rename_i hx
      obtain ⟨rfl, he⟩ := pure1_spec h
      exact ⟨rfl, fun H2 => by simp only [hx, he, Option.map_some]⟩
    · cases h
  case binOp op t x y k =>
    simp only [evalOp] at h ⊢
    split at h
    · rename_i a b ha hb
      obtain ⟨rfl, he⟩ := pure1_spec h
      exact ⟨rfl, fun H2 => by simp only [ha, hb, he, Option.map_some]⟩
    · cases h
  case index t x y =>
    simp only [evalOp] at h ⊢
    split at h
    · rename_i a b ha hb
      obtain ⟨rfl, he⟩ := pure1_spec h
      exact ⟨rfl, fun H2 => by simp only [ha, hb, he, Option.map_some]⟩
    · cases h
  case makeInterface t x =>
    simp only [evalOp] at h ⊢
    split at h
    · cases h
    · cases h
    · obtain ⟨rfl, he⟩ := pure1_spec h
      refine ⟨rfl, fun H2 => ?_⟩
      simp only [he, Option.map_some]
  case extract t i =>
    simp only [evalOp] at h ⊢
    split at h
    · rename_i a ha
      obtain ⟨rfl, he⟩ := pure1_spec h
      exact ⟨rfl, fun H2 => by simp only [ha, he, Option.map_some]⟩
    · cases h
  case unOp op k x =>
    simp only [evalOp] at h ⊢
    obtain ⟨rfl, he⟩ := pure1_spec h
    exact ⟨rfl, fun H2 => by simp only [he, Option.map_some]⟩
  case fieldAddr s x f =>
    simp only [evalOp, Option.bind_eq_some_iff] at h ⊢
    obtain ⟨us, hu, h⟩ := h
    obtain ⟨rfl, he⟩ := pure1_spec h
    exact ⟨rfl, fun H2 => ⟨us, hu, by simp only [he, Option.map_some]⟩⟩
  case field s x f =>
    simp only [evalOp, Option.bind_eq_some_iff] at h ⊢
    obtain ⟨us, hu, h⟩ := h
    obtain ⟨rfl, he⟩ := pure1_spec h
    exact ⟨rfl, fun H2 => ⟨us, hu, by simp only [he, Option.map_some]⟩⟩
  case move x =>
    simp only [evalOp] at h ⊢
    obtain ⟨rfl, he⟩ := pure1_spec h
    exact ⟨rfl, fun H2 => by simp only [he, Option.map_some]⟩
  case assign x =>
    simp only [evalOp] at h ⊢
    obtain ⟨rfl, he⟩ := pure1_spec h
    exact ⟨rfl, fun H2 => by simp only [he, Option.map_some]⟩
  all_goals (simp only [kindOf] at hk; cases hk)

/-! ### what looks at the blocks of its operands -/

def Alike (T : List Nat) (H H2 : List Blk) : Prop := ∀ b ∈ T, sameB H[b]? H2[b]?

theorem loadA_local {P : Program} {H H2 : List Blk} {t : TypeId} {a v : AV} (hs : Alike (refs 0 a) H H2) (h : loadA P H t a = some v) : loadA P H2 t a = some v := by
  unfold loadA at h ⊢
  split at h
  · rename_i b g i off
    split at h
    · rename_i size g' es fz hk
      obtain ⟨fz', hk'⟩ := (hs b (by simp [refs])).cells hk
      simp only [hk']
      exact h
    · cases h
  · exact h
  · cases h

theorem indexAddrA_local {P : Program} {H H2 : List Blk} {t : TypeId} {a ix v : AV} (hs : Alike (refs 0 a) H H2) (h : indexAddrA P H t a ix = some v) : indexAddrA P H2 t a ix = some v := by
  unfold indexAddrA at h ⊢
  split at h
  · rename_i k i
    split at h
    · cases h
    · rename_i hi
      simp only [hi, if_false]
      split at h
      · rename_i elem ht
        split at h
        · rename_i size hsz
          split at h
          · exact h
          · rename_i b g start len cap
            split at h
            · rename_i size g' es fz hk
              obtain ⟨fz', hk'⟩ := (hs b (by simp [refs])).cells hk
              simp only [hk', hsz]
              exact h
            · cases h
          · cases h
        · cases h
      · exact h
      · cases h
  · cases h

theorem elemsA_local {H H2 : List Blk} {size : Nat} {a : AV} {es : List (List AV)} (hs : Alike (refs 0 a) H H2) (h : elemsA H size a = some es) : elemsA H2 size a = some es := by
  unfold elemsA at h ⊢
  split at h
  · exact h
  · exact h
  · exact h
  · rename_i b g start len cap
    split at h
    · rename_i sz g' es' fz hk
      obtain ⟨fz', hk'⟩ := (hs b (by simp [refs])).cells hk
      simp only [hk']
      exact h
    · cases h
  · cases h

theorem convertA_local {P : Program} {H H2 : List Blk} {src dst : TypeId} {a v : AV} (hs : Alike (refs 0 a) H H2) (h : convertA P H src dst a = some v) : convertA P H2 src dst a = some v := by
  have key : ∀ {e : Option AV}, (match P.underlying src, P.underlying dst with
      | some (.slice e), some .string => match P.underlying e with
        | some (.int .u8) => ((elemsA H 1 a).bind bytesA).map fun l => AV.sc (.string ⟨l.toArray⟩)
        | _ => none
      | _, _ => none) = some v → (match P.underlying src, P.underlying dst with
      | some (.slice e), some .string => match P.underlying e with
        | some (.int .u8) => ((elemsA H2 1 a).bind bytesA).map fun l => AV.sc (.string ⟨l.toArray⟩)
        | _ => none
      | _, _ => none) = some v := by
    intro _ h
    split at h
    · split at h
      · rename_i hq
        simp only [Option.map_eq_some_iff, Option.bind_eq_some_iff] at h ⊢
        obtain ⟨l, ⟨es, he, hl⟩, hv⟩ := h
        exact ⟨l, ⟨es, elemsA_local hs he, hl⟩, hv⟩
      · cases h
    · cases h
  unfold convertA at h ⊢
  cases a with
  | sc x => cases x <;> exact h
  | ro s es c => exact key (e := none) h
  | sl b g s l c => exact key (e := none) h
  | _ => exact h

theorem lenA_local {P : Program} {H H2 : List Blk} {t : TypeId} {a v : AV} (hs : Alike (refs 0 a) H H2) (h : lenA P H t a = some v) : lenA P H2 t a = some v := by
  unfold lenA at h ⊢
  split at h
  · exact h
  · exact h
  · rename_i b ht
    split at h
    · rename_i es c hk
      have hk' := (hs b (by simp [refs])).map hk
      simp only [hk']
      exact h
    · cases h
  · exact h

theorem lookupA_local {P : Program} {H H2 : List Blk} {t : TypeId} {a ix v : AV} {ok : Bool} (hs : Alike (refs 0 a) H H2) (h : lookupA P H t a ix ok = some v) : lookupA P H2 t a ix ok = some v := by
  have he : ∀ es, entsA H a = some es → entsA H2 a = some es := by
    intro es he
    unfold entsA at he ⊢
    split at he
    · exact he
    · rename_i b
      split at he
      · rename_i es' c hk
        have hk' := (hs b (by simp [refs])).map hk
        simp only [hk']
        exact he
      · cases he
    · cases he
  unfold lookupA at h ⊢
  split at h
  · split at h
    · rename_i k es z hk hes hz
      simp only [hk, he es hes, hz]
      exact h
    · cases h
  · cases h

theorem evalOp_looks {C : Ctx} {call : CallT} {tmps : Tm} {H H1 : List Blk} {o : Oper} {v : AV} {us : List AV} (hk : kindOf o.op = .looks) (hu : evL tmps o.op.operands.toList = some us)
    (h : evalOp C call none tmps H o = some (.val v H1)) : H1 = H ∧ ∀ H2, Alike (refsL 0 us) H H2 → evalOp C call none tmps H2 o = some (.val v H2) := by
  obtain ⟨dst, op, ty, pos, after, guard⟩ := o
  simp only at hk hu
  cases op
  case call c =>
    obtain ⟨cal, args, tys⟩ := c
    cases cal with
    | value f => simp only [kindOf] at hk; cases hk
    | invoke r m => simp only [kindOf] at hk; cases hk
    | builtin b =>
      cases b <;> simp only [kindOf] at hk <;> try cases hk
      simp only [Op.operands, Call.operands] at hu
      simp only [evalOp] at h ⊢
      split at h
      · rename_i x t hx ht
        obtain ⟨rfl, he⟩ := pure1_spec h
        refine ⟨rfl, fun H2 hs => ?_⟩
        have : us = [x] := by
          have h2 : evL tmps args.toList = some us := by simpa using hu
          rw [hx] at h2
          cases h2
          rfl
        subst this
        simp only [hx, ht, lenA_local (fun b hb => hs b (by simpa [refsL] using hb)) he, Option.map_some]
      · cases h
  case load t x =>
    simp only [evalOp, Option.bind_eq_some_iff] at h ⊢
    obtain ⟨u, hx, h⟩ := h
    obtain ⟨rfl, he⟩ := pure1_spec h
    simp only [Op.operands, evL, hx] at hu
    cases hu
    exact ⟨rfl, fun H2 hs => ⟨u, hx, by simp only [loadA_local (fun b hb => hs b (by simpa [refsL] using hb)) he, Option.map_some]⟩⟩
  case convert s d x =>
    simp only [evalOp, Option.bind_eq_some_iff] at h ⊢
    obtain ⟨u, hx, h⟩ := h
    obtain ⟨rfl, he⟩ := pure1_spec h
    simp only [Op.operands, evL, hx] at hu
    cases hu
    exact ⟨rfl, fun H2 hs => ⟨u, hx, by simp only [convertA_local (fun b hb => hs b (by simpa [refsL] using hb)) he, Option.map_some]⟩⟩
  case indexAddr t x y =>
    simp only [evalOp] at h ⊢
    split at h
    · rename_i a b ha hb
      obtain ⟨rfl, he⟩ := pure1_spec h
      simp only [Op.operands, evL, ha, hb] at hu
      cases hu
      exact ⟨rfl, fun H2 hs => by simp only [ha, hb, indexAddrA_local (fun b hb => hs b (by simp [refsL, hb])) he, Option.map_some]⟩
    · cases h
  case lookup t x y ok =>
    simp only [evalOp] at h ⊢
    split at h
    · rename_i a b ha hb
      obtain ⟨rfl, he⟩ := pure1_spec h
      simp only [Op.operands, evL, ha, hb] at hu
      cases hu
      exact ⟨rfl, fun H2 hs => by simp only [ha, hb, lookupA_local (fun b hb => hs b (by simp [refsL, hb])) he, Option.map_some]⟩
    · cases h
  all_goals (simp only [kindOf] at hk; cases hk)

end Go.Ai
