/-
  MORE FUEL TELLS THE SAME.
-/
import Derived.Test.YtndloeajkfajnaaAiMa
set_option linter.unusedVariables false
set_option linter.unusedSimpArgs false
namespace Go.Ai

def CallLe (call call' : CallT) : Prop := ∀ f args H r, call f args H = some r → call' f args H = some r

section
variable {C : Ctx} {call call' : CallT}

theorem doCall_mono (h : CallLe call call') {at_ : Option Nat} {f : FuncId} {args : List AV} {H : List Blk} {r : ORes} (hr : doCall C call at_ f args H = some r) : doCall C call' at_ f args H = some r := by
  unfold doCall at hr ⊢
  split at hr
  · exact hr
  · split at hr
    · rename_i us hu
      cases hc : call f us [] with
      | none => rw [hc] at hr; cases hr
      | some p =>
        rw [hc] at hr
        rw [h _ _ _ _ hc]
        exact hr
    · cases hc : call f args H with
      | none =>
        rw [hc] at hr
        exfalso
        revert hr
        split <;> intro hr <;> simp_all
      | some p =>
        rw [hc] at hr
        rw [h _ _ _ _ hc]
        exact hr

theorem callA_mono (h : CallLe call call') {at_ : Option Nat} {f : FuncId} {args : List AV} {H : List Blk} {r : ORes} (hr : callA C call at_ f args H = some r) : callA C call' at_ f args H = some r := by
  unfold callA at hr ⊢
  split at hr
  · rename_i he
    rw [if_pos he]
    exact hr
  · rename_i he
    rw [if_neg he]
    exact doCall_mono h hr

theorem evalOp_mono (h : CallLe call call') {at_ : Option Nat} {tmps : Tm} {H : List Blk} {o : Oper} {r : ORes} (hr : evalOp C call at_ tmps H o = some r) : evalOp C call' at_ tmps H o = some r := by
  obtain ⟨dst, op, ty, pos, after, guard⟩ := o
  cases op
  case call c =>
    obtain ⟨cal, args, tys⟩ := c
    cases cal with
    | value f =>
      simp only [evalOp] at hr ⊢
      split at hr
      · exact callA_mono h hr
      · split at hr
        · rename_i hs
          rw [if_pos hs]
          exact callA_mono h hr
        · cases hr
      · cases hr
    | builtin b => cases b <;> exact hr
    | invoke r m => exact hr
  case makeFunc fn first captured => cases fn <;> exact hr
  case makeMap t reserve => cases reserve <;> exact hr
  case defer c =>
    obtain ⟨cal, args, tys⟩ := c
    cases cal <;> exact hr
  all_goals exact hr

theorem runList_mono (h : CallLe call call') {ops : Array Oper} : ∀ (l : List Nat) (st : St) (r : Ex × St), runList C call ops l st = some r → runList C call' ops l st = some r
  | [], st, r, hr => hr
  | i :: rest, st, r, hr => by
    simp only [runList] at hr ⊢
    split at hr
    · exact runList_mono h rest st r hr
    · split at hr
      · cases he : evalOp C call none st.tmps st.heap (by assumption) with
        | none => simp only [he] at hr; cases hr
        | some q =>
          simp only [he, evalOp_mono h he] at hr ⊢
          cases q with
          | val v H =>
            simp only [seqV_eq] at hr ⊢
            split at hr
            · simp only [seqL_eq] at hr ⊢
              exact runList_mono h rest _ r hr
            · cases hr
          | skip H =>
            simp only at hr ⊢
            split at hr
            · simp only [seqL_eq] at hr ⊢
              exact runList_mono h rest _ r hr
            · cases hr
          | dfr f cs =>
            simp only at hr ⊢
            split at hr
            · exact runList_mono h rest _ r hr
            · cases hr
          | pan v H => exact hr
      · split at hr
        · exact runList_mono h rest _ r hr
        · cases hr
      · cases hr

theorem drawMove_mono (h : CallLe call call') {Bi : Nat} {sp : Moved} {fl : Seen} {tmps : Tm} {H : List Blk} {o : Oper} {q : DRes} (hr : drawMove C call Bi sp fl tmps H o = some q) : drawMove C call' Bi sp fl tmps H o = some q := by
  unfold drawMove at hr ⊢
  split at hr
  · cases hr
  · split at hr
    · rename_i hm
      rw [if_pos hm]
      cases he : evalOp C call none tmps H o with
      | none => rw [he] at hr; cases hr
      | some p =>
        rw [he] at hr
        rw [evalOp_mono h he]
        exact hr
    · cases hr

theorem drawOp_mono (h : CallLe call call') {ops : Array Oper} {Bi : Nat} {pan : Option Nat} {k : Nat} {sp : Moved} {fl : Seen} {tmps : Tm} {H : List Blk} {o : Oper} {q : DRes}
    (hr : drawOp C call ops Bi pan k sp fl tmps H o = some q) : drawOp C call' ops Bi pan k sp fl tmps H o = some q := by
  have key : ∀ (F : Option ORes → Option DRes), F none = none → F (evalOp C call none tmps H o) = some q → F (evalOp C call' none tmps H o) = some q := by
    intro F h0 hF
    cases he : evalOp C call none tmps H o with
    | none => rw [he, h0] at hF; cases hF
    | some p =>
      rw [he] at hF
      rw [evalOp_mono h he]
      exact hF
  unfold drawOp at hr ⊢
  split at hr
  · exact hr
  · split at hr
    · cases hr
    · exact hr
    · split at hr
      · exact hr
      · exact key (fun r => match r with | some (.val v _) => some (.val v []) | _ => none) rfl hr
      · split at hr
        · split at hr
          · rename_i us hu hl
            simp only [hl, if_true]
            exact key (fun r => match r with | some (.val v _) => some (.val v (refsL 0 us)) | _ => none) rfl hr
          · cases hr
        · cases hr
      · split at hr
        · split at hr
          · rename_i us hu hl
            rw [if_pos hl]
            exact key (fun r => match r with | some (.val v _) => some (.val v []) | _ => none) rfl hr
          · rename_i us hu hl
            rw [if_neg hl]
            split at hr
            · exact drawMove_mono h hr
            · cases hr
        · cases hr
      · split at hr
        · exact drawMove_mono h hr
        · cases hr

theorem drawList_mono (h : CallLe call call') {ops : Array Oper} {B : List Nat} {n : Nat} : ∀ (l : List Nat) (k : Nat) (sp : Moved) (fl : Seen) (pan : Option (Nat × AV × List Blk)) (tmps : Tm) (H : List Blk) (r : DSt),
    drawList C call ops B n l k sp fl pan tmps H = some r → drawList C call' ops B n l k sp fl pan tmps H = some r
  | [], _, _, _, _, _, _, _, hr => hr
  | i :: rest, k, sp, fl, pan, tmps, H, r, hr => by
    simp only [drawList] at hr ⊢
    split at hr
    · cases hr
    · rename_i o ho
      cases he : drawOp C call ops (B.getD i 0) (pan.map (·.1)) k sp fl tmps H o with
      | none => simp only [he] at hr; cases hr
      | some q =>
        simp only [he, drawOp_mono h he] at hr ⊢
        cases q with
        | dead => exact drawList_mono h rest _ _ _ _ _ _ _ hr
        | val v T =>
          simp only [seqV_eq] at hr ⊢
          split at hr
          · exact drawList_mono h rest _ _ _ _ _ _ _ hr
          · cases hr
        | mov v H' D =>
          simp only [seqV_eq] at hr ⊢
          split at hr
          · simp only [seqL_eq] at hr ⊢
            exact drawList_mono h rest _ _ _ _ _ _ _ hr
          · cases hr
        | pan v H' => exact drawList_mono h rest _ _ _ _ _ _ _ hr

theorem regionW_mono (h : CallLe call call') {draw : Bool} {ops : Array Oper} {st : St} {r : Ex × St} (hr : regionW C call draw ops st = some r) : regionW C call' draw ops st = some r := by
  unfold regionW at hr ⊢
  split at hr
  · rename_i hdr
    rw [if_pos hdr]
    unfold drawW at hr ⊢
    simp only at hr ⊢
    split at hr
    · rename_i hd
      rw [if_pos hd]
      split at hr
      · rename_i bs hb
        cases he : drawList C call ops (befs ops.toList []) st.n (List.range ops.size) st.heap.length [] [] none st.tmps (st.heap ++ bs) with
        | none => rw [he] at hr; cases hr
        | some p =>
          rw [he] at hr
          rw [drawList_mono h _ _ _ _ _ _ _ _ he]
          exact hr
      · cases hr
    · cases hr
  · rename_i hdr
    rw [if_neg hdr]
    exact runList_mono h _ _ _ hr

theorem loopW_mono {ex ex' : St → Option (Ex × St)} {W : List Nat} {entry : St} (he : ∀ st r, ex st = some r → ex' st = some r) : ∀ (k k' : Nat), k ≤ k' → ∀ (st : St) (r : Ex × St), loopW ex (nrmK W entry) k st = some r → loopW ex' (nrmK W entry) k' st = some r
  | 0, _, _, st, r, hr => by cases hr
  | k + 1, 0, hk, _, _, _ => by omega
  | k + 1, k' + 1, hk, st, r, hr => by
    simp only [loopW] at hr ⊢
    cases hx : ex st with
    | none => rw [hx] at hr; cases hr
    | some p =>
      rw [hx] at hr
      rw [he _ _ hx]
      obtain ⟨e, st'⟩ := p
      cases e with
      | normal =>
        simp only [nrmK_eq] at hr ⊢
        exact loopW_mono he k k' (by omega) _ r hr
      | exit j => exact hr
      | ret => exact hr
      | pan v => exact hr

end

theorem runW_mono {C : Ctx} {ex ex' : Code → St → Option (Ex × St)} (h : ∀ c st r, ex c st = some r → ex' c st = some r) : CallLe (runW C ex) (runW C ex') := by
  intro f args H r hr
  unfold runW at hr ⊢
  cases hf : C.P.funcs[f]? with
  | none => rw [hf] at hr; cases hr
  | some fn =>
    rw [hf] at hr
    simp only at hr ⊢
    cases hb : fn.body with
    | none => rw [hb] at hr; cases hr
    | some body =>
      rw [hb] at hr
      simp only at hr ⊢
      cases hx : ex body ⟨args.length + (fn.ntmps - args.length), initT 0 args, H, []⟩ with
      | none => rw [hx] at hr; cases hr
      | some p =>
        rw [hx] at hr
        rw [h _ _ _ hx]
        exact hr

theorem loneW_mono {call call' : CallT} (h : CallLe call call') : CallLe (loneW call) (loneW call') := by
  intro f args H r hr
  unfold loneW at hr ⊢
  split at hr
  case h_2 => cases hr
  split at hr
  case h_2 => cases hr
  rename_i hk
  try simp only [hk]
  split at hr
  case h_2 => cases hr
  rename_i e1 e2 e3
  try simp only [e1, e2, e3]
  split at hr
  case h_2 => cases hr
  rename_i hcl
  try simp only [h _ _ _ _ hcl]
  exact hr

theorem callW_mono {C : Ctx} {ex ex' : Code → St → Option (Ex × St)} (h : ∀ c st r, ex c st = some r → ex' c st = some r) : CallLe (callW C ex) (callW C ex') := by
  intro f args H r hr
  unfold callW at hr ⊢
  split at hr
  · exact loneW_mono (runW_mono h) _ _ _ _ hr
  · exact runW_mono h _ _ _ _ hr

theorem exec_succ {C : Ctx} : ∀ (n : Nat) (c : Code) (st : St) (r : Ex × St), exec C n c st = some r → exec C (n + 1) c st = some r
  | 0, c, st, r, hr => by cases hr
  | n + 1, c, st, r, hr => by
    have ih := exec_succ (C := C) n
    simp only [exec] at hr ⊢
    rw [show execW C (callW C (execW C (callW C (exec C n)) (exec C n) n)) (execW C (callW C (exec C n)) (exec C n) n) (n + 1) c st = execW C (callW C (exec C (n + 1))) (exec C (n + 1)) (n + 1) c st from rfl]
    have hc : CallLe (callW C (exec C n)) (callW C (exec C (n + 1))) := callW_mono ih
    cases c with
    | skip => exact hr
    | label _ => exact hr
    | region i ops draw => exact regionW_mono hc hr
    | seq a b =>
      simp only [execW] at hr ⊢
      cases hx : exec C n a st with
      | none => rw [hx] at hr; cases hr
      | some p =>
        rw [hx] at hr
        rw [ih _ _ _ hx]
        obtain ⟨e, st'⟩ := p
        cases e with
        | normal => exact ih _ _ _ hr
        | exit j => exact hr
        | ret => exact hr
        | pan v => exact hr
    | cond c a b =>
      simp only [execW] at hr ⊢
      split at hr
      · exact ih _ _ _ hr
      · exact ih _ _ _ hr
      · cases hr
    | block id b =>
      simp only [execW] at hr ⊢
      cases hx : exec C n b st with
      | none => rw [hx] at hr; cases hr
      | some p =>
        rw [hx] at hr
        rw [ih _ _ _ hx]
        exact hr
    | loop b =>
      simp only [execW] at hr ⊢
      exact loopW_mono (fun st r h => ih b st r h) n (n + 1) (by omega) st r hr
    | scope b => exact ih _ _ _ hr
    | exit id => exact hr
    | ret => exact hr
    | _ => exact hr

theorem exec_mono {C : Ctx} {n m : Nat} (hm : n ≤ m) {c : Code} {st : St} {r : Ex × St} (hr : exec C n c st = some r) : exec C m c st = some r := by
  induction hm with
  | refl => exact hr
  | step _ ih => exact exec_succ _ _ _ _ ih

theorem call_mono {C : Ctx} {n m : Nat} (hm : n ≤ m) {f : FuncId} {args : List AV} {H : List Blk} {r : CRes × List Blk} (hr : call C n f args H = some r) : call C m f args H = some r :=
  callW_mono (fun _ _ _ h => exec_mono hm h) _ _ _ _ hr

end Go.Ai
