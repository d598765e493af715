/-
  A RUN WITH UNKNOWNS: where a test's outcome is not known both ways are gone; what is told of an operation beforehand is asked for. What is left is a plain proposition; if it holds the evaluator tells what it says.
-/
import Derived.Test.YtndloeajkfajnaaAiMd
set_option linter.unusedVariables false
set_option linter.unusedSimpArgs false
namespace Go.Ai

/-- What is told of an operation's result: it is this truth, number, value; the operation goes so. -/
inductive Hint where
  | bit (b : Bool)
  | int (i : Int)
  | av (v : AV)
  | res (q : Tm → List Blk → ORes)
  | dres (q : Tm → List Blk → DRes)
  | keep
  | force
  | anyI (P : Int → Prop)
  | exI (P : Int → Prop) (T : List Nat)
  | exS (P : ByteArray → Prop) (T : List Nat)
  | idxI
  | idxS
  | eqv (b : Bool)
  | intT (q : Tm → Int)
  | idxIP (P : Int → Prop)
  | idxSP (P : ByteArray → Prop)
  | idxIs (row : List AV)
  | idxN (slot : Nat) (g : Nat → List AV)
  | bitN (slot : Nat) (g : Nat → Bool)
  | eqvF (f : AV → AV → Bool)

/-- Told by an operation's slot, by the first slot that a loop writes. -/
structure Script where
  op : Nat → Option Hint := fun _ => none
  loop : Nat → Option (St → (Ex → St → Prop) → Prop) := fun _ => none
  subl : FuncId → Nat → Option (St → (Ex → St → Prop) → Prop) := fun _ _ => none
  inl : FuncId → Bool := fun _ => false
  sub : FuncId → Nat → Option Hint := fun _ _ => none

/-- What is told inside a function that is gone into. -/
def Script.into (S : Script) (f : FuncId) : Script := ⟨S.sub f, S.subl f, S.subl, S.inl, S.sub⟩

def hintOf (S : Script) (o : Oper) : Option Hint := match o.dst with
  | some d => S.op d
  | none => match o.op with
    | .store _ (.tmp t) _ => S.op (10000 + t)
    | _ => none

/-- Both ways. -/
def bothP (c : Bool) (p q : Prop) : Prop := match c with
  | true => p
  | false => q

/-- A value, as it is told; a truth of which nothing is told is parted. -/
def valP (h : Option Hint) (v : AV) (K : AV → Prop) : Prop := match h with
  | some (.bit b) => match v with
    | .sc (.bool c) => c = b ∧ K (.sc (.bool b))
    | _ => False
  | some (.int i) => match v with
    | .sc (.int d x) => x = i ∧ K (.sc (.int d i))
    | _ => False
  | some (.av u) => v = u ∧ K u
  | some .keep => K v
  | some .force => seqV v K
  | some (.anyI P) => match v with
    | .sc (.int d x) => P x ∧ ∀ z, P z → K (.sc (.int d z))
    | _ => False
  | _ => match v with
    | .sc (.bool c) => bothP c (K (.sc (.bool true))) (K (.sc (.bool false)))
    | v => K v

theorem valP_sound {h : Option Hint} {v : AV} {K : AV → Prop} (hk : valP h v K) : K v := by
  unfold valP at hk
  split at hk
  · split at hk
    · obtain ⟨rfl, h1⟩ := hk; exact h1
    · exact hk.elim
  · split at hk
    · obtain ⟨rfl, h1⟩ := hk; exact h1
    · exact hk.elim
  · obtain ⟨rfl, h1⟩ := hk; exact h1
  · exact hk
  · rw [seqV_eq] at hk; exact hk
  · split at hk
    · exact hk.2 _ hk.1
    · exact hk.elim
  · split at hk
    · rename_i c
      cases c <;> exact hk
    · exact hk

/-- A slot's whole number. -/
def natAt (tmps : Tm) (slot : Nat) : Nat := match getT tmps slot with
  | .sc (.int _ (.ofNat i)) => i
  | _ => 0

def opP (h : Option Hint) (tmps : Tm) (H : List Blk) (r : Option ORes) (K : ORes → Prop) : Prop := match h with
  | some (.res q) => r = some (q tmps H) ∧ K (q tmps H)
  | some (.exI P _) => (∃ z, r = some (.val (.sc (.int .i64 z)) H) ∧ P z) ∧ ∀ z, P z → K (.val (.sc (.int .i64 z)) H)
  | some (.exS P _) => (∃ z, r = some (.val (.sc (.string z)) H) ∧ P z) ∧ ∀ z, P z → K (.val (.sc (.string z)) H)
  | some (.intT q) => match r with
    | some (.val (.sc (.int d x)) H) => x = q tmps ∧ seqV (.sc (.int d (q tmps))) fun v => K (.val v H)
    | _ => False
  | some (.bitN slot g) => match r with
    | some (.val (.sc (.bool c)) H) => (match seqN (natAt tmps slot) g with
      | true => c = true ∧ K (.val (.sc (.bool true)) H)
      | false => c = false ∧ K (.val (.sc (.bool false)) H))
    | _ => False
  | _ => match r with
    | some (.val v H) => valP h v fun v => K (.val v H)
    | some r => K r
    | none => False

theorem opP_sound {h : Option Hint} {tmps : Tm} {H : List Blk} {r : Option ORes} {K : ORes → Prop} (hk : opP h tmps H r K) : ∃ q, r = some q ∧ K q := by
  unfold opP at hk
  split at hk
  · exact ⟨_, hk⟩
  · obtain ⟨⟨z, h1, h2⟩, h3⟩ := hk
    exact ⟨_, h1, h3 z h2⟩
  · obtain ⟨⟨z, h1, h2⟩, h3⟩ := hk
    exact ⟨_, h1, h3 z h2⟩
  · split at hk
    · obtain ⟨rfl, hk⟩ := hk
      rw [seqV_eq] at hk
      exact ⟨_, rfl, hk⟩
    · exact hk.elim
  · split at hk
    · split at hk
      · obtain ⟨rfl, hk⟩ := hk
        exact ⟨_, rfl, hk⟩
      · obtain ⟨rfl, hk⟩ := hk
        exact ⟨_, rfl, hk⟩
    · exact hk.elim
  · split at hk
    · exact ⟨_, rfl, valP_sound hk⟩
    · exact ⟨_, rfl, hk⟩
    · exact hk.elim

def dopP (h : Option Hint) (tmps : Tm) (H : List Blk) (r : Option DRes) (K : DRes → Prop) : Prop := match h with
  | some (.dres q) => r = some (q tmps H) ∧ K (q tmps H)
  | some (.exI P T) => (∃ z, r = some (.val (.sc (.int .i64 z)) T) ∧ P z) ∧ ∀ z, P z → K (.val (.sc (.int .i64 z)) T)
  | some (.exS P T) => (∃ z, r = some (.val (.sc (.string z)) T) ∧ P z) ∧ ∀ z, P z → K (.val (.sc (.string z)) T)
  | some (.intT q) => match r with
    | some (.val (.sc (.int d x)) T) => x = q tmps ∧ seqV (.sc (.int d (q tmps))) fun v => K (.val v T)
    | _ => False
  | some (.bitN slot g) => match r with
    | some (.val (.sc (.bool c)) T) => (match seqN (natAt tmps slot) g with
      | true => c = true ∧ K (.val (.sc (.bool true)) T)
      | false => c = false ∧ K (.val (.sc (.bool false)) T))
    | _ => False
  | _ => match r with
    | some (.val v T) => valP h v fun v => K (.val v T)
    | some (.mov v H D) => valP h v fun v => K (.mov v H D)
    | some r => K r
    | none => False

theorem dopP_sound {h : Option Hint} {tmps : Tm} {H : List Blk} {r : Option DRes} {K : DRes → Prop} (hk : dopP h tmps H r K) : ∃ q, r = some q ∧ K q := by
  unfold dopP at hk
  split at hk
  · exact ⟨_, hk⟩
  · obtain ⟨⟨z, h1, h2⟩, h3⟩ := hk
    exact ⟨_, h1, h3 z h2⟩
  · obtain ⟨⟨z, h1, h2⟩, h3⟩ := hk
    exact ⟨_, h1, h3 z h2⟩
  · split at hk
    · obtain ⟨rfl, hk⟩ := hk
      rw [seqV_eq] at hk
      exact ⟨_, rfl, hk⟩
    · exact hk.elim
  · split at hk
    · split at hk
      · obtain ⟨rfl, hk⟩ := hk
        exact ⟨_, rfl, hk⟩
      · obtain ⟨rfl, hk⟩ := hk
        exact ⟨_, rfl, hk⟩
    · exact hk.elim
  · split at hk
    · exact ⟨_, rfl, valP_sound hk⟩
    · exact ⟨_, rfl, valP_sound hk⟩
    · exact ⟨_, rfl, hk⟩
    · exact hk.elim

def wantP (ops : Array Oper) (tmps : Tm) (o : Oper) (p q : Prop) : Prop := match o.guard with
  | none => p
  | some (j, want) => match (ops[j]?).bind (·.dst) with
    | none => q
    | some d => match getT tmps d with
      | .sc (.bool b) => match want with
        | true => bothP b p q
        | false => bothP b q p
      | .sc (.tuple _) => q
      | _ => False

theorem wantP_sound {ops : Array Oper} {tmps : Tm} {o : Oper} {p q : Prop} (h : wantP ops tmps o p q) : (wantedA ops tmps o = some true ∧ p) ∨ (wantedA ops tmps o = some false ∧ q) := by
  unfold wantP at h
  unfold wantedA
  split at h
  · rename_i hg; rw [hg]; exact .inl ⟨rfl, h⟩
  · rename_i j want hg
    simp only [hg]
    split at h
    · rename_i hd; rw [hd]; exact .inr ⟨rfl, h⟩
    · rename_i d hd
      rw [hd]
      simp only
      split at h
      · rename_i b hb
        rw [hb]
        cases b <;> cases want <;> first | exact .inl ⟨rfl, h⟩ | exact .inr ⟨rfl, h⟩
      · rename_i b hb; rw [hb]; exact .inr ⟨rfl, h⟩
      · exact h.elim

/-- Calls that are gone into. -/
abbrev InlT := FuncId → List AV → List Blk → (CRes → List Blk → Prop) → Prop

def doCallP0 (C : Ctx) (inl : InlT) (f : FuncId) (args : List AV) (H : List Blk) (K : ORes → Prop) : Prop :=
  match C.ext f with
  | true => False
  | false => match C.prims f with
    | some _ => False
    | none => match (if C.byRef f then none else frzL H args) with
      | some us => inl f us [] fun r H1 => match r with
        | .ret v => match isScalar v with
          | true => K (.val v H)
          | false => match (if C.keep f then none else frz H1 v) with
            | some v' => K (.val v' (mark H (slIdsL args)))
            | none => match adopt (mark H (slIdsL args)) none H1 v with
              | some p => K (.val p.1 p.2)
              | none => False
        | .pan v => match frz H1 v with
          | some v' => K (.pan v' (mark H (slIdsL args)))
          | none => False
      | none => inl f args H fun r H1 => match r with
        | .ret v => K (.val v H1)
        | .pan v => K (.pan v H1)

def InlOK (call : CallT) (inl : InlT) : Prop := ∀ f args H K, inl f args H K → ∃ r, call f args H = some r ∧ K r.1 r.2

/-- A call that is gone into. -/
def doCallP (C : Ctx) (inl : InlT) (f : FuncId) (args : List AV) (H : List Blk) (K : ORes → Prop) : Prop := doCallP0 C inl f args (preCall C f args H) K

theorem doCallP_sound {C : Ctx} {call : CallT} {inl : InlT} (hi : InlOK call inl) {f : FuncId} {args : List AV} {H : List Blk} {K : ORes → Prop} (h : doCallP C inl f args H K) :
    ∃ q, callA C call none f args H = some q ∧ K q := by
  unfold doCallP at h
  generalize hH : preCall C f args H = H0 at h
  unfold doCallP0 at h
  unfold callA
  rw [hH]
  split at h
  · exact h.elim
  · rename_i he
    rw [he]
    simp only [Bool.false_eq_true, if_false]
    unfold doCall
    split at h
    · exact h.elim
    · rename_i hp
      rw [hp]
      simp only
      split at h
      · rename_i us hu
        rw [hu]
        simp only
        obtain ⟨⟨r, H1⟩, hr, h⟩ := hi _ _ _ _ h
        rw [hr]
        cases r with
        | ret v =>
          simp only at h ⊢
          split at h
          · rename_i hs
            rw [hs]
            exact ⟨_, rfl, h⟩
          · rename_i hs
            rw [hs]
            simp only [Bool.false_eq_true, if_false]
            split at h
            · rename_i v' hv
              rw [hv]
              exact ⟨_, rfl, h⟩
            · rename_i hv
              rw [hv]
              simp only
              split at h
              · rename_i p hq
                rw [hq]
                exact ⟨_, rfl, h⟩
              · exact h.elim
        | pan v =>
          simp only at h ⊢
          split at h
          · rename_i v' hv
            rw [hv]
            exact ⟨_, rfl, h⟩
          · exact h.elim
      · rename_i hu
        rw [hu]
        simp only
        obtain ⟨⟨r, H1⟩, hr, h⟩ := hi _ _ _ _ h
        rw [hr]
        cases r with
        | ret v => exact ⟨_, rfl, h⟩
        | pan v => exact ⟨_, rfl, h⟩

/-- Who is called, with what. -/
def callee (tmps : Tm) (o : Oper) : Option (FuncId × List AV) := match o.op with
  | .call { callee := .value f, args, .. } => match ev tmps f, evL tmps args.toList with
    | some (.fn f cs), some us => some (f, us ++ cs)
    | some (.sc (.func (.func f) fs cs)), some us => if fs.size = 0 ∧ cs.size = 0 then some (f, us) else none
    | _, _ => none
  | _ => none

theorem callee_spec {C : Ctx} {call : CallT} {tmps : Tm} {H : List Blk} {o : Oper} {f : FuncId} {us : List AV} (h : callee tmps o = some (f, us)) : evalOp C call none tmps H o = callA C call none f us H := by
  unfold callee at h
  split at h
  · rename_i x args ats q ho
    unfold evalOp
    rw [ho]
    simp only
    split at h
    · rename_i hf hu
      cases h
      rw [hf, hu]
    · rename_i hf hu
      rw [hf, hu]
      simp only
      split at h
      · rename_i hs
        cases h
        rw [if_pos hs]
      · cases h
    · cases h
  · cases h

/-- What is told of calls: enough for a call to come to an end that is as wanted. -/
abbrev ConT := FuncId → Option (List AV → List Blk → (ORes → Prop) → Prop)

def ConOK (C : Ctx) (call : CallT) (con : ConT) : Prop := ∀ f T, con f = some T → ∀ args H K, T args H K → ∃ q, callA C call none f args H = some q ∧ K q

/-- Is a call told of, or gone into? -/
def wayP (C : Ctx) (con : ConT) (inl : InlT) (S : Script) (tmps : Tm) (H : List Blk) (o : Oper) : Option ((ORes → Prop) → Prop) := match o.op with
  | .call { callee := .value _, .. } => match callee tmps o with
    | some (f, us) => match con f with
      | some T => some (T us H)
      | none => match S.inl f with
        | true => some (doCallP C inl f us H)
        | false => none
    | none => none
  | _ => none

theorem wayP_sound {C : Ctx} {call : CallT} {con : ConT} {inl : InlT} (hc : ConOK C call con) (hi : InlOK call inl) {S : Script} {tmps : Tm} {H : List Blk} {o : Oper} {R : (ORes → Prop) → Prop} (h : wayP C con inl S tmps H o = some R) {K : ORes → Prop}
    (hk : R K) : ∃ q, evalOp C call none tmps H o = some q ∧ K q := by
  unfold wayP at h
  split at h
  · split at h
    · rename_i f us hf
      rw [callee_spec hf]
      split at h
      · rename_i T hT
        cases h
        exact hc f T hT us H K hk
      · split at h
        · cases h
          exact doCallP_sound hi hk
        · cases h
    · cases h
  · cases h

/-- What an operation's result is taken for, its own terms alone: a row of an unknown place, of one number or text; a test's outcome. -/
inductive Own where
  | num
  | txt
  | bin (b : Bool)
  | numP (P : Int → Prop)
  | txtP (P : ByteArray → Prop)
  | row (r : List AV)
  | rowN (slot : Nat) (g : Nat → List AV)
  | fn (f : AV → AV → Bool)

def idxP (C : Ctx) (k : Own) (tmps : Tm) (H : List Blk) (o : Oper) (K : AV → Prop) : Prop := match o.op with
  | .indexAddr t x i => match ev tmps x, ev tmps i with
    | some x, some i => match k with
      | .num => (∃ z, indexAddrA C.P H t x i = some (.rp [.sc (.int .i64 z)] 0)) ∧ ∀ z, K (.rp [.sc (.int .i64 z)] 0)
      | .txt => (∃ z, indexAddrA C.P H t x i = some (.rp [.sc (.string z)] 0)) ∧ ∀ z, K (.rp [.sc (.string z)] 0)
      | .bin _ => False
      | .fn _ => False
      | .numP P => (∃ z, indexAddrA C.P H t x i = some (.rp [.sc (.int .i64 z)] 0) ∧ P z) ∧ ∀ z, P z → K (.rp [.sc (.int .i64 z)] 0)
      | .txtP P => (∃ z, indexAddrA C.P H t x i = some (.rp [.sc (.string z)] 0) ∧ P z) ∧ ∀ z, P z → K (.rp [.sc (.string z)] 0)
      | .row r => indexAddrA C.P H t x i = some (.rp r 0) ∧ K (.rp r 0)
      | .rowN slot g => seqN (natAt tmps slot) fun n => indexAddrA C.P H t x i = some (.rp (g n) 0) ∧ K (.rp (g n) 0)
    | _, _ => False
  | .binOp op t x y _ => match ev tmps x, ev tmps y with
    | some a, some b => match k with
      | .bin r => binA C.P op t x y a b = some (.sc (.bool r)) ∧ K (.sc (.bool r))
      | .fn f => binA C.P op t x y a b = some (.sc (.bool (f a b))) ∧ bothP (f a b) (K (.sc (.bool true))) (K (.sc (.bool false)))
      | _ => False
    | _, _ => False
  | _ => False

theorem idxP_sound {C : Ctx} {call : CallT} {k : Own} {tmps : Tm} {H : List Blk} {o : Oper} {K : AV → Prop} (h : idxP C k tmps H o K) : ∃ v, evalOp C call none tmps H o = some (.val v H) ∧ K v := by
  unfold idxP at h
  split at h
  · rename_i t x i ho
    split at h
    · rename_i x' i' hx hi
      have e : ∀ v, indexAddrA C.P H t x' i' = some v → evalOp C call none tmps H o = some (.val v H) := by
        intro v hv
        unfold evalOp
        rw [ho]
        simp only [hx, hi, hv]
        rfl
      split at h
      · obtain ⟨⟨z, h1⟩, h2⟩ := h
        exact ⟨_, e _ h1, h2 z⟩
      · obtain ⟨⟨z, h1⟩, h2⟩ := h
        exact ⟨_, e _ h1, h2 z⟩
      · exact h.elim
      · exact h.elim
      · obtain ⟨⟨z, h1, h3⟩, h2⟩ := h
        exact ⟨_, e _ h1, h2 z h3⟩
      · obtain ⟨⟨z, h1, h3⟩, h2⟩ := h
        exact ⟨_, e _ h1, h2 z h3⟩
      · exact ⟨_, e _ h.1, h.2⟩
      · rw [seqN_eq] at h
        exact ⟨_, e _ h.1, h.2⟩
    · exact h.elim
  · rename_i op t x y t' ho
    split at h
    · rename_i a b ha hb
      split at h
      · obtain ⟨h1, h2⟩ := h
        refine ⟨_, ?_, h2⟩
        unfold evalOp
        rw [ho]
        simp only [ha, hb, h1]
        rfl
      · rename_i f
        obtain ⟨h1, h2⟩ := h
        have e : evalOp C call none tmps H o = some (.val (.sc (.bool (f a b))) H) := by
          unfold evalOp
          rw [ho]
          simp only [ha, hb, h1]
          rfl
        refine ⟨_, e, ?_⟩
        cases hf : f a b with
        | true => rw [hf] at h2; exact h2
        | false => rw [hf] at h2; exact h2
      · exact h.elim
    · exact h.elim
  · exact h.elim

def isIdx : Option Hint → Option Own
  | some .idxI => some .num
  | some .idxS => some .txt
  | some (.eqv b) => some (.bin b)
  | some (.idxIP P) => some (.numP P)
  | some (.idxSP P) => some (.txtP P)
  | some (.idxIs r) => some (.row r)
  | some (.idxN s g) => some (.rowN s g)
  | some (.eqvF f) => some (.fn f)
  | _ => none

/-- One operation: told of, gone into, or run. -/
def oneP (C : Ctx) (call : CallT) (con : ConT) (inl : InlT) (S : Script) (tmps : Tm) (H : List Blk) (o : Oper) (K : ORes → Prop) : Prop :=
  match isIdx (hintOf S o) with
  | some ow => idxP C ow tmps H o fun v => K (.val v H)
  | none => match wayP C con inl S tmps H o with
    | some R => R fun q => opP (hintOf S o) tmps H (some q) K
    | none => opP (hintOf S o) tmps H (evalOp C call none tmps H o) K

theorem oneP_sound {C : Ctx} {call : CallT} {con : ConT} {inl : InlT} (hc : ConOK C call con) (hi : InlOK call inl) {S : Script} {tmps : Tm} {H : List Blk} {o : Oper} {K : ORes → Prop} (h : oneP C call con inl S tmps H o K) :
    ∃ q, evalOp C call none tmps H o = some q ∧ K q := by
  unfold oneP at h
  split at h
  · obtain ⟨v, h1, h2⟩ := idxP_sound (call := call) h
    exact ⟨_, h1, h2⟩
  · split at h
    · rename_i R hR
      obtain ⟨q, hq, h⟩ := wayP_sound hc hi hR h
      obtain ⟨q', hq', h⟩ := opP_sound h
      cases hq'
      exact ⟨q, hq, h⟩
    · exact opP_sound h

def runListP (C : Ctx) (call : CallT) (con : ConT) (inl : InlT) (S : Script) (ops : Array Oper) : List Nat → St → (Ex → St → Prop) → Prop
  | [], st, K => K .normal st
  | i :: rest, st, K => match ops[i]? with
    | none => runListP C call con inl S ops rest st K
    | some o => wantP ops st.tmps o
      (oneP C call con inl S st.tmps st.heap o fun
        | .val v H => match putA st.n st.tmps o.dst v with
          | some t => runListP C call con inl S ops rest ⟨st.n, t, H, st.defers⟩ K
          | none => False
        | .skip H => match putA st.n st.tmps o.dst unit with
          | some t => runListP C call con inl S ops rest ⟨st.n, t, H, st.defers⟩ K
          | none => False
        | .dfr f cs => match putA st.n st.tmps o.dst unit with
          | some t => runListP C call con inl S ops rest ⟨st.n, t, st.heap, (f, cs) :: st.defers⟩ K
          | none => False
        | .pan v H => K (.pan v) ⟨st.n, st.tmps, H, st.defers⟩)
      (match putA st.n st.tmps o.dst unit with
        | some t => runListP C call con inl S ops rest ⟨st.n, t, st.heap, st.defers⟩ K
        | none => False)

theorem runListP_sound {C : Ctx} {call : CallT} {con : ConT} {inl : InlT} (hc : ConOK C call con) (hi : InlOK call inl) {S : Script} {ops : Array Oper} : ∀ (l : List Nat) (st : St) (K : Ex → St → Prop), runListP C call con inl S ops l st K →
    ∃ r, runList C call ops l st = some r ∧ K r.1 r.2
  | [], st, K, h => ⟨_, rfl, h⟩
  | i :: rest, st, K, h => by
    simp only [runListP] at h
    simp only [runList]
    split at h
    · rename_i ho
      rw [ho]
      exact runListP_sound hc hi rest st K h
    · rename_i o ho
      rw [ho]
      simp only
      rcases wantP_sound h with ⟨hw, h⟩ | ⟨hw, h⟩
      · rw [hw]
        simp only
        obtain ⟨q, hq, h⟩ := oneP_sound hc hi h
        rw [hq]
        cases q with
        | val v H =>
          simp only [seqV_eq] at h ⊢
          split at h
          · rename_i t ht
            rw [ht]
            simp only [seqL_eq] at h ⊢
            exact runListP_sound hc hi rest _ K h
          · exact h.elim
        | skip H =>
          simp only at h ⊢
          split at h
          · rename_i t ht
            rw [ht]
            simp only [seqL_eq] at h ⊢
            exact runListP_sound hc hi rest _ K h
          · exact h.elim
        | dfr f cs =>
          simp only at h ⊢
          split at h
          · rename_i t ht
            rw [ht]
            exact runListP_sound hc hi rest _ K h
          · exact h.elim
        | pan v H => exact ⟨_, rfl, h⟩
      · rw [hw]
        simp only
        split at h
        · rename_i t ht
          rw [ht]
          exact runListP_sound hc hi rest _ K h
        · exact h.elim

/-- A call of a drawn region that is told of, or gone into. -/
def drawInP (C : Ctx) (Bi : Nat) (pan : Option Nat) (sp : Moved) (fl : Seen) (tmps : Tm) (H : List Blk) (o : Oper) (R : (ORes → Prop) → Prop) (K : DRes → Prop) : Prop :=
  match pan with
  | some _ => False
  | none => match kindOf o.op with
    | .spine => match dirtOf C tmps H o with
      | none => False
      | some D => match movesOK Bi sp fl D with
        | false => False
        | true => R fun
          | .val v H' => K (.mov v H' D)
          | .skip H' => K (.mov unit H' D)
          | .pan v H' => K (.pan v H')
          | .dfr _ _ => False
    | _ => False

/-- A row of an unknown place in a drawn region. -/
def drawIdxP (C : Ctx) (ow : Own) (Bi : Nat) (sp : Moved) (tmps : Tm) (H : List Blk) (o : Oper) (K : DRes → Prop) : Prop :=
  match kindOf o.op, evL tmps o.op.operands.toList with
  | .looks, some us => match looksOK Bi sp (refsL 0 us) H.length with
    | true => idxP C ow tmps H o fun v => K (.val v (refsL 0 us))
    | false => False
  | .pure, _ => idxP C ow tmps H o fun v => K (.val v [])
  | _, _ => False

/-- What comes of an operation of a drawn region that is wanted. -/
def drawOneP (C : Ctx) (call : CallT) (con : ConT) (inl : InlT) (S : Script) (ops : Array Oper) (Bi : Nat) (pan : Option Nat) (k : Nat) (sp : Moved) (fl : Seen) (tmps : Tm) (H : List Blk) (o : Oper) (K : DRes → Prop) : Prop :=
  match isIdx (hintOf S o) with
  | some ow => match pan with
    | some _ => False
    | none => drawIdxP C ow Bi sp tmps H o K
  | none => match wayP C con inl S tmps H o with
    | some R => drawInP C Bi pan sp fl tmps H o R fun q => dopP (hintOf S o) tmps H (some q) K
    | none => dopP (hintOf S o) tmps H (drawOp C call ops Bi pan k sp fl tmps H ⟨o.dst, o.op, o.type, o.pos, o.after, none⟩) K

/-- An operation of a drawn region. -/
def drawOpP (C : Ctx) (call : CallT) (con : ConT) (inl : InlT) (S : Script) (ops : Array Oper) (Bi : Nat) (pan : Option Nat) (k : Nat) (sp : Moved) (fl : Seen) (tmps : Tm) (H : List Blk) (o : Oper) (K : DRes → Prop) : Prop :=
  match (match pan with | some j => Nat.testBit Bi j | none => false) with
  | true => K .dead
  | false => wantP ops tmps o (drawOneP C call con inl S ops Bi pan k sp fl tmps H o K) (K (.val unit []))

theorem drawInP_sound {C : Ctx} {call : CallT} {ops : Array Oper} {Bi : Nat} {pan : Option Nat} {k : Nat} {sp : Moved} {fl : Seen} {tmps : Tm} {H : List Blk} {o : Oper} {R : (ORes → Prop) → Prop} {K : DRes → Prop}
    (hR : ∀ K, R K → ∃ q, evalOp C call none tmps H o = some q ∧ K q) (hw : wantedA ops tmps o = some true) (h : drawInP C Bi pan sp fl tmps H o R K) : ∃ q, drawOp C call ops Bi pan k sp fl tmps H o = some q ∧ K q := by
  unfold drawInP at h
  split at h
  · exact h.elim
  · split at h
    · rename_i hk
      split at h
      · exact h.elim
      · rename_i D hD
        split at h
        · exact h.elim
        · rename_i hm
          obtain ⟨q, hq, h⟩ := hR _ h
          unfold drawOp
          simp only [hw, hk]
          unfold drawMove
          rw [hD]
          simp only [hm, if_true, hq]
          cases q with
          | val v H' => exact ⟨_, rfl, h⟩
          | skip H' => exact ⟨_, rfl, h⟩
          | pan v H' => exact ⟨_, rfl, h⟩
          | dfr _ _ => exact h.elim
    · exact h.elim

theorem drawOp_free {C : Ctx} {call : CallT} {ops : Array Oper} {Bi : Nat} {pan : Option Nat} {k : Nat} {sp : Moved} {fl : Seen} {tmps : Tm} {H : List Blk} {o : Oper} (h : wantedA ops tmps o = some true) :
    drawOp C call ops Bi pan k sp fl tmps H ⟨o.dst, o.op, o.type, o.pos, o.after, none⟩ = drawOp C call ops Bi pan k sp fl tmps H o := by
  unfold drawOp
  rw [h]
  rfl

theorem drawIdxP_sound {C : Ctx} {call : CallT} {ow : Own} {ops : Array Oper} {Bi : Nat} {k : Nat} {sp : Moved} {fl : Seen} {tmps : Tm} {H : List Blk} {o : Oper} {K : DRes → Prop}
    (hw : wantedA ops tmps o = some true) (h : drawIdxP C ow Bi sp tmps H o K) : ∃ q, drawOp C call ops Bi none k sp fl tmps H o = some q ∧ K q := by
  unfold drawIdxP at h
  split at h
  · rename_i us hk hu
    split at h
    · rename_i hl
      obtain ⟨v, hv, h⟩ := idxP_sound (call := call) h
      refine ⟨_, ?_, h⟩
      unfold drawOp
      simp only [hw, hk, hu, hl, if_true, hv]
    · exact h.elim
  · rename_i hk
    obtain ⟨v, hv, h⟩ := idxP_sound (call := call) h
    refine ⟨_, ?_, h⟩
    unfold drawOp
    simp only [hw, hk, hv]
  · exact h.elim

theorem drawOneP_sound {C : Ctx} {call : CallT} {con : ConT} {inl : InlT} (hc : ConOK C call con) (hi : InlOK call inl) {S : Script} {ops : Array Oper} {Bi : Nat} {p : Option Nat} {k : Nat} {sp : Moved} {fl : Seen} {tmps : Tm} {H : List Blk} {o : Oper} {K : DRes → Prop}
    (hw : wantedA ops tmps o = some true) (h : drawOneP C call con inl S ops Bi p k sp fl tmps H o K) : ∃ q, drawOp C call ops Bi p k sp fl tmps H o = some q ∧ K q := by
  unfold drawOneP at h
  split at h
  · split at h
    · exact h.elim
    · exact drawIdxP_sound hw h
  · split at h
    · rename_i R hR
      obtain ⟨q, hq, h⟩ := drawInP_sound (k := k) (fun K hk => wayP_sound hc hi hR hk) hw h
      obtain ⟨q', hq', h⟩ := dopP_sound h
      cases hq'
      exact ⟨q, hq, h⟩
    · obtain ⟨q, hq, h⟩ := dopP_sound h
      rw [drawOp_free hw] at hq
      exact ⟨q, hq, h⟩

theorem drawOpP_sound {C : Ctx} {call : CallT} {con : ConT} {inl : InlT} (hc : ConOK C call con) (hi : InlOK call inl) {S : Script} {ops : Array Oper} {Bi : Nat} {pan : Option Nat} {k : Nat} {sp : Moved} {fl : Seen} {tmps : Tm} {H : List Blk} {o : Oper} {K : DRes → Prop}
    (h : drawOpP C call con inl S ops Bi pan k sp fl tmps H o K) : ∃ q, drawOp C call ops Bi pan k sp fl tmps H o = some q ∧ K q := by
  have main : ∀ {p : Option Nat}, wantP ops tmps o (drawOneP C call con inl S ops Bi p k sp fl tmps H o K) (K (.val unit [])) →
      (wantedA ops tmps o = some false → drawOp C call ops Bi p k sp fl tmps H o = some (.val unit [])) → ∃ q, drawOp C call ops Bi p k sp fl tmps H o = some q ∧ K q := by
    intro p h hf
    rcases wantP_sound h with ⟨hw, h⟩ | ⟨hw, h⟩
    · exact drawOneP_sound hc hi hw h
    · exact ⟨_, hf hw, h⟩
  unfold drawOpP at h
  cases pan with
  | none =>
    refine main h fun hw => ?_
    unfold drawOp
    rw [hw]
  | some j =>
    simp only at h
    cases hj : Nat.testBit Bi j with
    | true =>
      rw [hj] at h
      refine ⟨_, ?_, h⟩
      unfold drawOp
      simp only [hj]
    | false =>
      rw [hj] at h
      refine main h fun hw => ?_
      unfold drawOp
      simp only [hj]
      rw [hw]

def drawListP (C : Ctx) (call : CallT) (con : ConT) (inl : InlT) (S : Script) (ops : Array Oper) (B : List Nat) (n : Nat) : List Nat → Nat → Moved → Seen → Option (Nat × AV × List Blk) → Tm → List Blk → (DSt → Prop) → Prop
  | [], _, _, _, pan, tmps, H, K => K ⟨tmps, H, pan⟩
  | i :: rest, k, sp, fl, pan, tmps, H, K => match ops[i]? with
    | none => False
    | some o => drawOpP C call con inl S ops (B.getD i 0) (pan.map (·.1)) k sp fl tmps H o fun
      | .dead => drawListP C call con inl S ops B n rest (nextK o k) sp fl pan tmps H K
      | .val v T => match putA n tmps o.dst v with
        | some t => drawListP C call con inl S ops B n rest (nextK o k) sp ((i, T) :: fl) pan t H K
        | none => False
      | .mov v H' D => match putA n tmps o.dst v with
        | some t => drawListP C call con inl S ops B n rest (nextK o k) ((i, D) :: sp) fl pan t H' K
        | none => False
      | .pan v H' => drawListP C call con inl S ops B n rest (nextK o k) sp fl (some (i, v, H')) tmps H K

theorem drawListP_sound {C : Ctx} {call : CallT} {con : ConT} {inl : InlT} (hc : ConOK C call con) (hi : InlOK call inl) {S : Script} {ops : Array Oper} {B : List Nat} {n : Nat} : ∀ (l : List Nat) (k : Nat) (sp : Moved) (fl : Seen) (pan : Option (Nat × AV × List Blk)) (tmps : Tm) (H : List Blk)
    (K : DSt → Prop), drawListP C call con inl S ops B n l k sp fl pan tmps H K → ∃ r, drawList C call ops B n l k sp fl pan tmps H = some r ∧ K r
  | [], _, _, _, _, _, _, _, h => ⟨_, rfl, h⟩
  | i :: rest, k, sp, fl, pan, tmps, H, K, h => by
    simp only [drawListP] at h
    simp only [drawList]
    split at h
    · exact h.elim
    · rename_i o ho
      rw [ho]
      simp only
      obtain ⟨q, hq, h⟩ := drawOpP_sound hc hi h
      rw [hq]
      cases q with
      | dead => exact drawListP_sound hc hi rest _ _ _ _ _ _ _ h
      | val v T =>
        simp only [seqV_eq] at h ⊢
        split at h
        · rename_i t ht
          rw [ht]
          exact drawListP_sound hc hi rest _ _ _ _ _ _ _ h
        · exact h.elim
      | mov v H' D =>
        simp only [seqV_eq] at h ⊢
        split at h
        · rename_i t ht
          rw [ht]
          simp only [seqL_eq] at h ⊢
          exact drawListP_sound hc hi rest _ _ _ _ _ _ _ h
        · exact h.elim
      | pan v H' => exact drawListP_sound hc hi rest _ _ _ _ _ _ _ h

def drawP (C : Ctx) (call : CallT) (con : ConT) (inl : InlT) (S : Script) (ops : Array Oper) (st : St) (K : Ex → St → Prop) : Prop :=
  match drawOK ops (befs ops.toList []) with
  | true => match layAllocs C.P ops.toList with
    | some bs => drawListP C call con inl S ops (befs ops.toList []) st.n (List.range ops.size) st.heap.length [] [] none st.tmps (st.heap ++ bs) fun r => match r.pan with
      | none => K .normal ⟨st.n, r.tmps, r.heap, st.defers⟩
      | some (_, v, H) => K (.pan v) ⟨st.n, undefs ops.toList st.tmps, H, st.defers⟩
    | none => False
  | false => False

theorem drawP_sound {C : Ctx} {call : CallT} {con : ConT} {inl : InlT} (hc : ConOK C call con) (hi : InlOK call inl) {S : Script} {ops : Array Oper} {st : St} {K : Ex → St → Prop} (h : drawP C call con inl S ops st K) : ∃ r, drawW C call ops st = some r ∧ K r.1 r.2 := by
  unfold drawP at h
  unfold drawW
  split at h
  · rename_i hd
    simp only [hd, if_true]
    split at h
    · rename_i bs hb
      rw [hb]
      simp only
      obtain ⟨⟨t, H, pan⟩, hr, h⟩ := drawListP_sound hc hi _ _ _ _ _ _ _ _ h
      rw [hr]
      cases pan with
      | none => exact ⟨_, rfl, h⟩
      | some p => obtain ⟨j, v, H1⟩ := p; exact ⟨_, rfl, h⟩
    · exact h.elim
  · exact h.elim

def regionP (C : Ctx) (call : CallT) (con : ConT) (inl : InlT) (S : Script) (draw : Bool) (ops : Array Oper) (st : St) (K : Ex → St → Prop) : Prop :=
  match draw with
  | true => drawP C call con inl S ops st K
  | false => runListP C call con inl S ops (List.range ops.size) st K

theorem regionP_sound {C : Ctx} {call : CallT} {con : ConT} {inl : InlT} (hc : ConOK C call con) (hi : InlOK call inl) {S : Script} {draw : Bool} {ops : Array Oper} {st : St} {K : Ex → St → Prop} (h : regionP C call con inl S draw ops st K) : ∃ r, regionW C call draw ops st = some r ∧ K r.1 r.2 := by
  unfold regionP at h
  unfold regionW
  split at h
  · exact drawP_sound hc hi h
  · exact runListP_sound hc hi _ _ _ h

def loopP (ex : St → (Ex → St → Prop) → Prop) (nx : St → (St → Prop) → Prop) : Nat → St → (Ex → St → Prop) → Prop
  | 0, _, _ => False
  | k + 1, st, K => ex st fun e st' => match e with
    | .normal => nx st' fun st'' => loopP ex nx k st'' K
    | e => K e st'

def nrmP (W : List Nat) (entry : St) (st : St) (k : St → Prop) : Prop :=
  match compact entry.heap.length ⟨st.n, takeTm st.tmps W entry.tmps, st.heap, st.defers⟩ with
    | ⟨n, t, H, d⟩ => seqL H fun H => k ⟨n, t, H, d⟩

theorem nrmP_eq (W : List Nat) (entry : St) (st : St) (k : St → Prop) : nrmP W entry st k = k (nrm W entry st) := by
  simp only [nrmP, seqL_eq, nrm]

theorem loopP_sound {ex : St → Option (Ex × St)} {exP : St → (Ex → St → Prop) → Prop} {W : List Nat} {entry : St} (hex : ∀ st K, exP st K → ∃ r, ex st = some r ∧ K r.1 r.2) :
    ∀ (k : Nat) (st : St) (K : Ex → St → Prop), loopP exP (nrmP W entry) k st K → ∃ r, loopW ex (nrmK W entry) k st = some r ∧ K r.1 r.2
  | 0, _, _, h => h.elim
  | k + 1, st, K, h => by
    simp only [loopP] at h
    obtain ⟨⟨e, st'⟩, hr, h⟩ := hex _ _ h
    simp only [loopW, hr]
    cases e with
    | normal =>
      simp only [nrmK_eq]
      simp only [nrmP_eq] at h
      exact loopP_sound hex k _ K h
    | exit j => exact ⟨_, rfl, h⟩
    | ret => exact ⟨_, rfl, h⟩
    | pan v => exact ⟨_, rfl, h⟩

def runWP (C : Ctx) (ex : Code → St → (Ex → St → Prop) → Prop) (f : FuncId) (args : List AV) (H : List Blk) (K : CRes → List Blk → Prop) : Prop :=
  match C.P.funcs[f]? with
  | none => False
  | some fn => match fn.body with
    | none => False
    | some body => ex body { n := args.length + (fn.ntmps - args.length), tmps := initT 0 args, heap := H, defers := [] } fun e st => match e with
      | .normal | .ret => match leaveA C fn none st with
        | some r => K r.1 r.2
        | none => False
      | .pan v => match leaveA C fn (some v) st with
        | some r => K r.1 r.2
        | none => False
      | _ => False

theorem runWP_sound {C : Ctx} {ex : Code → St → Option (Ex × St)} {exP : Code → St → (Ex → St → Prop) → Prop} (he : ∀ c st K, exP c st K → ∃ r, ex c st = some r ∧ K r.1 r.2)
    {f : FuncId} {args : List AV} {H : List Blk} {K : CRes → List Blk → Prop} (h : runWP C exP f args H K) : ∃ r, runW C ex f args H = some r ∧ K r.1 r.2 := by
  unfold runWP at h
  unfold runW
  split at h
  · exact h.elim
  · rename_i fn hf
    rw [hf]
    simp only
    split at h
    · exact h.elim
    · rename_i body hb
      rw [hb]
      simp only
      obtain ⟨⟨e, st⟩, hr, h⟩ := he body _ _ h
      rw [hr]
      cases e with
      | normal =>
        simp only at h ⊢
        split at h
        · rename_i r hl; exact ⟨r, hl, h⟩
        · exact h.elim
      | exit j => exact h.elim
      | ret =>
        simp only at h ⊢
        split at h
        · rename_i r hl; exact ⟨r, hl, h⟩
        · exact h.elim
      | pan v =>
        simp only at h ⊢
        split at h
        · rename_i r hl; exact ⟨r, hl, h⟩
        · exact h.elim

def loneP (run : InlT) (f : FuncId) (args : List AV) (H : List Blk) (K : CRes → List Blk → Prop) : Prop := match args with
  | .ptr b g 0 0 :: rest => match H[b]? with
    | some (.cells size g' [row] false) => match Nat.beq g g', isDataL row, isDataL rest with
      | true, true, true => run f (.ptr 0 0 0 0 :: rest) [.cells size 0 [row] false] fun r H1 => match r, H1 with
        | .ret v, .cells size' g1 [row'] false :: _ => match isData v, isDataL row', Nat.beq size size', Nat.beq g1 0 with
          | true, true, true, true => K (.ret v) (H.set b (.cells size g [row'] false))
          | _, _, _, _ => False
        | _, _ => False
      | _, _, _ => False
    | _ => False
  | _ => False

theorem loneP_sound {call : CallT} {run : InlT} (hi : InlOK call run) {f : FuncId} {args : List AV} {H : List Blk} {K : CRes → List Blk → Prop} (h : loneP run f args H K) : ∃ r, loneW call f args H = some r ∧ K r.1 r.2 := by
  unfold loneP at h
  split at h
  case h_2 => exact h.elim
  split at h
  case h_2 => exact h.elim
  rename_i hk
  split at h
  case h_2 => exact h.elim
  rename_i e1 e2 e3
  obtain ⟨⟨r, H1⟩, hr, h⟩ := hi _ _ _ _ h
  simp only at h
  split at h
  case h_2 => exact h.elim
  split at h
  case h_2 => exact h.elim
  rename_i d1 d2 d3 d4
  refine ⟨(_, _), ?_, h⟩
  unfold loneW
  simp only [hk, e1, e2, e3, hr, d1, d2, d3, d4]

def callWP (C : Ctx) (ex : Code → St → (Ex → St → Prop) → Prop) (f : FuncId) (args : List AV) (H : List Blk) (K : CRes → List Blk → Prop) : Prop := match C.lone f with
  | true => loneP (runWP C ex) f args H K
  | false => runWP C ex f args H K

theorem callWP_sound {C : Ctx} {ex : Code → St → Option (Ex × St)} {exP : Code → St → (Ex → St → Prop) → Prop} (he : ∀ c st K, exP c st K → ∃ r, ex c st = some r ∧ K r.1 r.2)
    {f : FuncId} {args : List AV} {H : List Blk} {K : CRes → List Blk → Prop} (h : callWP C exP f args H K) : ∃ r, callW C ex f args H = some r ∧ K r.1 r.2 := by
  unfold callWP at h
  unfold callW
  split at h
  · rename_i hl
    simp only [hl]
    exact loneP_sound (fun f args H K h => runWP_sound he h) h
  · rename_i hl
    simp only [hl]
    exact runWP_sound he h

/-- What is told of calls, with its proof. -/
structure Con (C : Ctx) where
  T : Nat → ConT
  ok : ∀ n, ConOK C (callW C (exec C n)) (T n)

def noCon (C : Ctx) : Con C := ⟨fun _ _ => none, fun _ _ _ h => by cases h⟩

/-- What is told of a loop. -/
def LoopOK (C : Ctx) (n : Nat) (b : Code) (T : St → (Ex → St → Prop) → Prop) : Prop := ∀ st K, T st K → ∃ r, exec C (n + 1) (.loop b) st = some r ∧ K r.1 r.2

def execP (C : Ctx) (D : Con C) : Nat → Script → Code → St → (Ex → St → Prop) → Prop
  | 0, _, _, _, _ => False
  | n + 1, S, c, st, K => match c with
    | .skip => K .normal st
    | .label _ => K .normal st
    | .region _ ops draw => regionP C (callW C (exec C n)) (D.T n) (fun g => callWP C (execP C D n (S.into g)) g) S draw ops st K
    | .seq a b => execP C D n S a st fun e st' => match e with
      | .normal => execP C D n S b st' K
      | e => K e st'
    | .cond c a b => match ev st.tmps c with
      | some (.sc (.bool t)) => bothP t (execP C D n S a st K) (execP C D n S b st K)
      | _ => False
    | .block id b => execP C D n S b st fun e st' => match e with
      | .exit j => match Nat.beq j id with
        | true => K .normal st'
        | false => K (.exit j) st'
      | e => K e st'
    | .loop b => match S.loop ((writes b).headD 0) with
      | some T => LoopOK C n b T ∧ T st K
      | none => loopP (execP C D n S b) (nrmP (carried st.tmps (writes b) []) st) n st K
    | .scope b => execP C D n S b st K
    | .exit id => K (.exit id) st
    | .ret => K .ret st
    | _ => False

theorem execP_sound {C : Ctx} {D : Con C} : ∀ (n : Nat) (S : Script) (c : Code) (st : St) (K : Ex → St → Prop), execP C D n S c st K → ∃ r, exec C n c st = some r ∧ K r.1 r.2
  | 0, _, _, _, _, h => h.elim
  | n + 1, S, c, st, K, h => by
    simp only [exec]
    unfold execP at h
    cases c with
    | skip => exact ⟨_, rfl, h⟩
    | label _ => exact ⟨_, rfl, h⟩
    | region i ops draw => exact regionP_sound (D.ok n) (fun f args H K h => callWP_sound (fun c st K h => execP_sound n (S.into f) c st K h) h) h
    | seq a b =>
      obtain ⟨⟨e, st'⟩, hr, h⟩ := execP_sound n S a st _ h
      simp only [execW, hr]
      cases e with
      | normal => exact execP_sound n S b st' K h
      | exit j => exact ⟨_, rfl, h⟩
      | ret => exact ⟨_, rfl, h⟩
      | pan v => exact ⟨_, rfl, h⟩
    | cond c a b =>
      simp only at h
      simp only [execW]
      split at h
      · rename_i t ht
        rw [ht]
        cases t with
        | true => exact execP_sound n S a st K h
        | false => exact execP_sound n S b st K h
      · exact h.elim
    | block id b =>
      obtain ⟨⟨e, st'⟩, hr, h⟩ := execP_sound n S b st _ h
      simp only [execW, hr]
      cases e with
      | normal => exact ⟨_, rfl, h⟩
      | exit j =>
        simp only at h ⊢
        split at h
        · rename_i hj
          rw [if_pos (Nat.eq_of_beq_eq_true hj)]
          exact ⟨_, rfl, h⟩
        · rename_i hj
          rw [if_neg (fun e => by rw [e] at hj; simp at hj)]
          exact ⟨_, rfl, h⟩
      | ret => exact ⟨_, rfl, h⟩
      | pan v => exact ⟨_, rfl, h⟩
    | loop b =>
      simp only at h
      split at h
      · obtain ⟨r, hr, h⟩ := h.1 _ _ h.2
        simp only [exec] at hr
        exact ⟨r, hr, h⟩
      · simp only [execW]
        exact loopP_sound (fun st K h => execP_sound n S b st K h) n st K h
    | scope b => exact execP_sound n S b st K h
    | exit id => exact ⟨_, rfl, h⟩
    | ret => exact ⟨_, rfl, h⟩
    | _ => exact h.elim

def callPC (C : Ctx) (D : Con C) (S : Script) (n : Nat) (f : FuncId) (args : List AV) (H : List Blk) (K : CRes → List Blk → Prop) : Prop := callWP C (execP C D n S) f args H K

theorem callPC_sound {C : Ctx} {D : Con C} {S : Script} {n : Nat} {f : FuncId} {args : List AV} {H : List Blk} {K : CRes → List Blk → Prop} (h : callPC C D S n f args H K) : ∃ r, call C n f args H = some r ∧ K r.1 r.2 :=
  callWP_sound (fun c st K h => execP_sound n S c st K h) h

def callP (C : Ctx) (S : Script) (n : Nat) (f : FuncId) (args : List AV) (H : List Blk) (K : CRes → List Blk → Prop) : Prop := callPC C (noCon C) S n f args H K

theorem callP_sound {C : Ctx} {S : Script} {n : Nat} {f : FuncId} {args : List AV} {H : List Blk} {K : CRes → List Blk → Prop} (h : callP C S n f args H K) : ∃ r, call C n f args H = some r ∧ K r.1 r.2 :=
  callPC_sound h

end Go.Ai
