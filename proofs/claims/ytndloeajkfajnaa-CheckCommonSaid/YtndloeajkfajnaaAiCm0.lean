/-
  CheckCommon: the context; what is told of calls.
-/
import Derived.Test.YtndloeajkfajnaaAiXp1
import Derived.Test.YtndloeajkfajnaaAiBelow
import Derived.Test.YtndloeajkfajnaaAiEx11b
set_option linter.unusedVariables false
set_option linter.unusedSimpArgs false
namespace Go.Ai.Cm
open Go.Proofs Go.RowKit

noncomputable def CV : Ctx := { C2 with prims := told12, keep := fun f => f == 69, snap := fun f => f == 134 || f == 70 || f == 72 || f == 75 }

theorem toldCV : Told CV := ⟨try_mix, try_name, told12_ok, told2.recs⟩

theorem CV_P : CV.P = Try.prog := rfl

def inlV : FuncId → Bool := fun f => (told12 f).isNone && !(f == 140 || f == 145)

/-- A call over plain data comes, with so much fuel, to this end. -/
structure ToEndV (n : Nat) (f : FuncId) (args : List AV) (r : CRes) : Prop where
  ex : ∃ H1, call CV n f args [] = some (r, H1)

def resOV (r : CRes) (H : List Blk) : ORes := match r with
  | .ret v => .val v H
  | .pan v => .pan v H

def isDataRV : CRes → Bool
  | .ret v => isData v
  | .pan v => isData v

/-- A function of which contracts are told: nothing else is told of it. -/
def plainV (f : FuncId) : Prop := CV.ext f = false ∧ CV.prims f = none ∧ CV.settle f = false ∧ CV.byRef f = false ∧ CV.keep f = false

theorem callA_endsV {n : Nat} {f : FuncId} {args : List AV} {r : CRes} {H : List Blk} (hf : plainV f) (hd : isDataL args = true) (hr : isDataRV r = true) (h : ToEndV n f args r) :
    callA CV (callW CV (exec CV n)) none f args H = some (resOV r H) := by
  obtain ⟨he, hp, hs, hb, hk⟩ := hf
  obtain ⟨H1, h⟩ := h
  obtain ⟨h1, h2⟩ := frzL_data (H := H) hd
  have e : callW CV (exec CV n) = call CV n := rfl
  unfold callA
  rw [he]
  simp only [Bool.false_eq_true, if_false]
  unfold preCall
  rw [hs]
  simp only
  unfold doCall
  rw [hp]
  simp only [hb, Bool.false_eq_true, if_false, h1, e, h, h2, hk]
  cases r with
  | ret v =>
    simp only [isDataRV] at hr
    obtain ⟨h3, _⟩ := frz_data (H := H1) hr
    simp only [h3, mark, List.foldl_nil]
    split <;> rfl
  | pan v =>
    simp only [isDataRV] at hr
    obtain ⟨h3, _⟩ := frz_data (H := H1) hr
    simp only [h3, Option.map_some, mark, List.foldl_nil]
    rfl

theorem ToEndV.mono {n m : Nat} {f : FuncId} {args : List AV} {r : CRes} (h : ToEndV n f args r) (hm : n ≤ m) : ToEndV m f args r := by
  obtain ⟨H1, h⟩ := h
  exact ⟨H1, call_mono hm h⟩

theorem ToEndV.of {S : Script} {n : Nat} {f : FuncId} {args : List AV} {r : CRes} {p : Prop} (h : callP CV S n f args [] (fun r' _ => r' = r) = p) (hp : p) : ToEndV n f args r := by
  obtain ⟨⟨r', H1⟩, hr, hk⟩ := callP_tree h hp
  simp only at hk
  subst hk
  exact ⟨H1, hr⟩

theorem ToEndV.ofC {D : Con CV} {S : Script} {n : Nat} {f : FuncId} {args : List AV} {r : CRes} {p : Prop} (h : callPC CV D S n f args [] (fun r' _ => r' = r) = p) (hp : p) : ToEndV n f args r := by
  obtain ⟨⟨r', H1⟩, hr, hk⟩ := byTree h hp
  simp only at hk
  subst hk
  exact ⟨H1, hr⟩

/-- A contract for one function. -/
def oneConV (f : FuncId) (T : Nat → List AV → List Blk → (ORes → Prop) → Prop) (h : ∀ n args H K, T n args H K → ∃ q, callA CV (callW CV (exec CV n)) none f args H = some q ∧ K q) : Con CV where
  T := fun n g => match Nat.beq g f with
    | true => some (T n)
    | false => none
  ok := fun n g T' h' args H K hk => by
    simp only at h'
    split at h'
    · rename_i e
      cases h'
      rw [Nat.eq_of_beq_eq_true e]
      exact h n args H K hk
    · cases h'

/-- One more. -/
def addConV (f : FuncId) (T : Nat → List AV → List Blk → (ORes → Prop) → Prop) (h : ∀ n args H K, T n args H K → ∃ q, callA CV (callW CV (exec CV n)) none f args H = some q ∧ K q) (D : Con CV) : Con CV where
  T := fun n g => match Nat.beq g f with
    | true => some (T n)
    | false => D.T n g
  ok := fun n g T' h' args H K hk => by
    simp only at h'
    split at h'
    · rename_i e
      cases h'
      rw [Nat.eq_of_beq_eq_true e]
      exact h n args H K hk
    · exact D.ok n g T' h' args H K hk


/-- A call over plain data comes to this, once its slices are written no more. -/
structure ToEndZ (n : Nat) (f : FuncId) (args : List AV) (v : AV) : Prop where
  ex : ∃ u H1, call CV n f args [] = some (.ret u, H1) ∧ frz H1 u = some v ∧ isScalar u = false

theorem ToEndZ.mono {n m : Nat} {f : FuncId} {args : List AV} {v : AV} (h : ToEndZ n f args v) (hm : n ≤ m) : ToEndZ m f args v := by
  obtain ⟨u, H1, h, h2⟩ := h
  exact ⟨u, H1, call_mono hm h, h2⟩

/-- What a run comes to, its slices frozen. -/
def resZ (K : AV → Prop) (r : CRes) (H : List Blk) : Prop := match r with
  | .ret u => match isScalar u, frz H u with
    | false, some v => K v
    | _, _ => False
  | .pan _ => False

theorem ToEndZ.ofC {D : Con CV} {S : Script} {n : Nat} {f : FuncId} {args : List AV} {v : AV} {p : Prop} (h : callPC CV D S n f args [] (resZ fun v' => v' = v) = p) (hp : p) : ToEndZ n f args v := by
  obtain ⟨⟨r', H1⟩, hr, hk⟩ := byTree h hp
  unfold resZ at hk
  simp only at hk
  split at hk
  · rename_i u
    split at hk
    · rename_i v' hs hf
      subst hk
      exact ⟨u, H1, hr, hf, hs⟩
    · exact hk.elim
  · exact hk.elim

theorem ToEndZ.ofQ {D : Con CV} {S : Script} {n : Nat} {f : FuncId} {args : List AV} {Q : AV → Prop} {p : Prop} (h : callPC CV D S n f args [] (resZ Q) = p) (hp : p) : ∃ v, Q v ∧ ToEndZ n f args v := by
  obtain ⟨⟨r', H1⟩, hr, hk⟩ := byTree h hp
  unfold resZ at hk
  simp only at hk
  split at hk
  · rename_i u
    split at hk
    · rename_i v' hs hf
      exact ⟨v', hk, u, H1, hr, hf, hs⟩
    · exact hk.elim
  · exact hk.elim

/-- A call over what may be frozen: its slices are written no more. -/
theorem callA_frz {n : Nat} {f : FuncId} {args us : List AV} {v : AV} {H : List Blk} (hf : plainV f) (hu : frzL H args = some us) (h : ToEndZ n f us v) :
    callA CV (callW CV (exec CV n)) none f args H = some (.val v (mark H (slIdsL args))) := by
  obtain ⟨he, hp, hs, hb, hk⟩ := hf
  obtain ⟨u, H1, h, h3, h4⟩ := h
  have e : callW CV (exec CV n) = call CV n := rfl
  unfold callA
  rw [he]
  simp only [Bool.false_eq_true, if_false]
  unfold preCall
  rw [hs]
  simp only
  unfold doCall
  rw [hp]
  simp only [hb, Bool.false_eq_true, if_false, hu, e, h, hk, h3, h4]

theorem bin_notequalV (k n k' n' : Int) (s s' : ByteArray) (o1 o2 : Operand) : binA Try.prog .neq 23 o1 o2 (valA k n s) (valA k' n' s') = some (.sc (.bool (!((k == k') && ((n == n') && (s == s')))))) := by
  have e : binA Try.prog .neq 23 o1 o2 (valA k n s) (valA k' n' s') = (pureRun Try.prog (do eqGuard .neq 23 o1 o2 (valV k n s) (valV k' n' s'); binOp .neq 23 (valV k n s) (valV k' n' s'))).map absV := by kernel_rfl
  rw [e, pureRun_bind', show pureRun Try.prog (eqGuard .neq 23 o1 o2 (valV k n s) (valV k' n' s')) = some () by kernel_rfl]
  simp only [Option.bind_some]
  have e2 : binOp .neq 23 (valV k n s) (valV k' n' s') = Sem.bind (Op.equal 23 (valV k n s) (valV k' n' s')) fun r => Sem.pure (.bool (!r)) := by kernel_rfl
  rw [e2, pureRun_bind, val_equal]
  rfl

theorem data_ofV {bs : List Int} {m : AV} (hm : IsM bs m) : isData m = true := by
  rcases hm.form with ⟨cap, rfl⟩ | ⟨_, rfl⟩ <;> rfl

theorem isM_rowV {w : World} {a : Option Addr} {len cap : Nat} {zs : List Int} (h : (a = none ∧ len = 0 ∧ cap = 0 ∧ zs = []) ∨
    ∃ x, a = some x ∧ len ≤ cap ∧ cap ≤ maxLen ∧ zs.length = cap ∧ (∀ i, i < zs.length → w.cell? (x.add i) = some (.int .u8 (zs.getD i 0))) ∧ ∀ n ∈ zs, (Lit.int .u8 n).wf = true) :
    ∃ v, V (Im noX noE [] w) w v noE (.slice a len cap) ∧ IsM (zs.take len) v := by
  obtain ⟨v, hv, hf, hw, hl⟩ := V_row h
  refine ⟨v, hv, ?_, fun b hb => u8_wf (hw b hb), ?_⟩
  · rcases hf with ⟨h1, h2⟩ | h1
    · exact .inr ⟨h2, h1⟩
    · exact .inl ⟨_, h1⟩
  · have : maxLen = 9223372036854775807 := rfl
    omega

/-! ### words -/

def strN (s : List UInt8) : AV := .sc (.string ⟨⟨s⟩⟩)
def intN (n : Int) : AV := .sc (.int .i64 n)
def streamA (nm : List UInt8) (rows : List (List AV)) (cap : Option Nat) : AV := .agg [strN nm, .ro 2 rows cap]
def eventA (t : Int) (rows : List (List AV)) (cap : Option Nat) : AV := .agg [intN t, .ro 3 rows cap]
def fieldRow (nm : List UInt8) (k : Int) : List AV := [strN nm, intN k]

/-- An open test, both ways: not to be mistaken for a step of the run. -/
def bothQ (c : Bool) (p q : Prop) : Prop := @Bool.rec (fun _ => Prop) q p c

theorem bothQ_of {b : Bool} {p q : Prop} (ht : b = true → p) (hf : b = false → q) : bothQ b p q := by
  cases b
  · exact hf rfl
  · exact ht rfl

/-! ### stream.At, check.View, event.Same, one: what is told of them -/

def T45 (n : Nat) (args : List AV) (H : List Blk) (K : ORes → Prop) : Prop := match args with
  | [.agg cs, .sc (.string ⟨⟨s⟩⟩)] => isDataL cs = true ∧ ∃ i : Int, ToEndV n 45 [.agg cs, strN s] (.ret (intN i)) ∧ K (.val (intN i) H)
  | _ => False

theorem plain45 : plainV 45 := ⟨rfl, rfl, rfl, rfl, rfl⟩
theorem T45_ok (n : Nat) (args : List AV) (H : List Blk) (K : ORes → Prop) (h : T45 n args H K) : ∃ q, callA CV (callW CV (exec CV n)) none 45 args H = some q ∧ K q := by
  unfold T45 at h
  split at h
  · obtain ⟨hd, i, he, hk⟩ := h
    exact ⟨_, callA_endsV plain45 (by simp [isDataL, isData, hd]) rfl he, hk⟩
  · exact h.elim

def con45 : Con CV := oneConV 45 T45 T45_ok

/-- A list of fields as data. -/
def rowsC (fs : List (List UInt8 × Int)) : List (List AV) := fs.map fun p => fieldRow p.1 p.2
def fieldA (p : List UInt8 × Int) : AV := .agg (fieldRow p.1 p.2)
def listC (fs : List (List UInt8 × Int)) : AV := match fs with
  | [] => .sc (.slice none 0 0)
  | f :: fs => .ro 2 (rowsC (f :: fs)) none

/-- Are two fields the same? -/
def eqF (a b : AV) : Bool := match a, b with
  | .agg [.sc (.string ⟨⟨s⟩⟩), .sc (.int _ k)], .agg [.sc (.string ⟨⟨s'⟩⟩), .sc (.int _ k')] => ((⟨⟨s⟩⟩ : ByteArray) == ⟨⟨s'⟩⟩) && (k == k')
  | _, _ => false

def eq102 (a b : AV) : Prop := binA Try.prog .eql 68 (.tmp 11) (.tmp 15) a b = some (.sc (.bool (eqF a b)))

end Go.Ai.Cm
