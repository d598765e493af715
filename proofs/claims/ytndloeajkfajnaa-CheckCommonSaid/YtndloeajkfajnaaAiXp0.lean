/-
  EXPRESSIONS THAT ARE NOT KNOWN: what is told of calls of functions of plain data.
-/
import Derived.Test.YtndloeajkfajnaaAiByte
import Derived.Test.YtndloeajkfajnaaAiLoop
set_option linter.unusedVariables false
set_option linter.unusedSimpArgs false
namespace Go.Ai
open Go.Proofs Go.RowKit

/-! ### comparisons -/

def cmpI (x y : Int) : Int := bif decide (x < y) then -1 else bif decide (x > y) then 1 else 0
def cmpS (x y : List UInt8) : Int := bif Op.bytesLess (⟨⟨x⟩⟩ : ByteArray).toList (⟨⟨y⟩⟩ : ByteArray).toList then -1 else
  bif !(Op.bytesLess (⟨⟨x⟩⟩ : ByteArray).toList (⟨⟨y⟩⟩ : ByteArray).toList || (⟨⟨x⟩⟩ : ByteArray).toList == (⟨⟨y⟩⟩ : ByteArray).toList) then 1 else 0

def sCmp : Script := { inl := fun _ => true, sub := fun f d => if d = 5 then some (.bit false) else none }

theorem tree137 (x y : Int) (K : CRes → List Blk → Prop) : callP C2 sCmp 100 137 [.sc (.int .i64 x), .sc (.int .i64 y)] [] K =
    ((x != x) = false ∧ (y != y) = false ∧ bothP (decide (x < y)) (K (.ret (.sc (.int .i64 (-1)))) []) (bothP (decide (x > y)) (K (.ret (.sc (.int .i64 1))) []) (K (.ret (.sc (.int .i64 0))) []))) := by kernel_rfl

theorem tree138 (x y : List UInt8) (K : CRes → List Blk → Prop) : callP C2 sCmp 100 138 [.sc (.string ⟨⟨x⟩⟩), .sc (.string ⟨⟨y⟩⟩)] [] K =
    ((!eqBytes x x) = false ∧ (!eqBytes y y) = false ∧ bothP (Op.bytesLess (⟨⟨x⟩⟩ : ByteArray).toList (⟨⟨y⟩⟩ : ByteArray).toList) (K (.ret (.sc (.int .i64 (-1)))) [])
      (bothP (!(Op.bytesLess (⟨⟨x⟩⟩ : ByteArray).toList (⟨⟨y⟩⟩ : ByteArray).toList || (⟨⟨x⟩⟩ : ByteArray).toList == (⟨⟨y⟩⟩ : ByteArray).toList)) (K (.ret (.sc (.int .i64 1))) []) (K (.ret (.sc (.int .i64 0))) []))) := by kernel_rfl

theorem eqBytes_same : ∀ l : List UInt8, eqBytes l l = true
  | [] => rfl
  | a :: l => by
    unfold eqBytes
    rw [show Nat.beq a.toNat a.toNat = true from Nat.beq_refl _]
    exact eqBytes_same l

def cmp137 : List AV → Option AV
  | [.sc (.int .i64 x), .sc (.int .i64 y)] => some (.sc (.int .i64 (cmpI x y)))
  | _ => none
def cmp138 : List AV → Option AV
  | [.sc (.string ⟨⟨x⟩⟩), .sc (.string ⟨⟨y⟩⟩)] => some (.sc (.int .i64 (cmpS x y)))
  | _ => none

theorem prim137 : PrimOK Try.prog 137 cmp137 := prim_scalar told2 rfl rfl fun args u h => by
  unfold cmp137 at h
  split at h
  · rename_i x y
    cases h
    refine ⟨rfl, rfl, call_of_callP (S := sCmp) (n := 100) ?_⟩
    rw [tree137]
    refine ⟨by simp, by simp, ?_⟩
    unfold cmpI
    cases decide (x < y) <;> cases decide (x > y) <;> simp [bothP]
  · cases h

theorem prim138 : PrimOK Try.prog 138 cmp138 := prim_scalar told2 rfl rfl fun args u h => by
  unfold cmp138 at h
  split at h
  · rename_i x y
    cases h
    refine ⟨rfl, rfl, call_of_callP (S := sCmp) (n := 100) ?_⟩
    rw [tree138]
    refine ⟨by rw [eqBytes_same]; rfl, by rw [eqBytes_same]; rfl, ?_⟩
    unfold cmpS
    generalize Op.bytesLess (⟨⟨x⟩⟩ : ByteArray).toList (⟨⟨y⟩⟩ : ByteArray).toList = p
    generalize ((⟨⟨x⟩⟩ : ByteArray).toList == (⟨⟨y⟩⟩ : ByteArray).toList) = q
    cases p <;> cases q <;> simp [bothP]
  · cases h

def toldS : FuncId → Option (List AV → Option AV) := fun f => if f = 104 then some contains1 else if f = 105 then some nameOne else if f = 137 then some cmp137 else if f = 138 then some cmp138 else told5 f

theorem toldS_ok (f : FuncId) (F : List AV → Option AV) (h : toldS f = some F) : PrimOK Try.prog f F := by
  unfold toldS at h
  split at h
  · rename_i e; cases h; rw [e]; exact prim104b
  split at h
  · rename_i e; cases h; rw [e]; exact prim105
  split at h
  · rename_i e; cases h; rw [e]; exact prim137
  split at h
  · rename_i e; cases h; rw [e]; exact prim138
  exact told5_ok f F h

noncomputable def CS : Ctx := { C2 with prims := toldS, keep := fun f => f == 69 || f == 46, lone := fun f => f == 51 || f == 52 || f == 53 || f == 54 || f == 77 }

theorem toldCS : Told CS := ⟨try_mix, try_name, toldS_ok, told2.recs⟩

theorem CS_P : CS.P = Try.prog := rfl

def inlS : FuncId → Bool := fun f => (toldS f).isNone && !(f == 140 || f == 145)

/-- A call over plain data comes, with so much fuel, to this end. -/
structure ToEnd (n : Nat) (f : FuncId) (args : List AV) (r : CRes) : Prop where
  ex : ∃ H1, call CS n f args [] = some (r, H1)

def resO (r : CRes) (H : List Blk) : ORes := match r with
  | .ret v => .val v H
  | .pan v => .pan v H

def isDataR : CRes → Bool
  | .ret v => isData v
  | .pan v => isData v

/-- A function of which contracts are told: nothing else is told of it. -/
def plainF (f : FuncId) : Prop := CS.ext f = false ∧ CS.prims f = none ∧ CS.settle f = false ∧ CS.byRef f = false ∧ CS.keep f = false

theorem callA_ends {n : Nat} {f : FuncId} {args : List AV} {r : CRes} {H : List Blk} (hf : plainF f) (hd : isDataL args = true) (hr : isDataR r = true) (h : ToEnd n f args r) :
    callA CS (callW CS (exec CS n)) none f args H = some (resO r H) := by
  obtain ⟨he, hp, hs, hb, hk⟩ := hf
  obtain ⟨H1, h⟩ := h
  obtain ⟨h1, h2⟩ := frzL_data (H := H) hd
  have e : callW CS (exec CS n) = call CS n := rfl
  unfold callA
  rw [he]
  simp only [Bool.false_eq_true, if_false]
  unfold preCall
  rw [hs]
  simp only
  unfold doCall
  rw [hp]
  simp only [hb, Bool.false_eq_true, if_false, h1, e, h, h2, hk]
  cases r with
  | ret v =>
    simp only [isDataR] at hr
    obtain ⟨h3, _⟩ := frz_data (H := H1) hr
    simp only [h3, mark, List.foldl_nil]
    split <;> rfl
  | pan v =>
    simp only [isDataR] at hr
    obtain ⟨h3, _⟩ := frz_data (H := H1) hr
    simp only [h3, Option.map_some, mark, List.foldl_nil]
    rfl

theorem ToEnd.mono {n m : Nat} {f : FuncId} {args : List AV} {r : CRes} (h : ToEnd n f args r) (hm : n ≤ m) : ToEnd m f args r := by
  obtain ⟨H1, h⟩ := h
  exact ⟨H1, call_mono hm h⟩

/-! ### values -/

structure Vl where
  k : Int
  n : Int
  s : List UInt8

def Vl.av (v : Vl) : AV := .agg [.sc (.int .i64 v.k), .sc (.int .i64 v.n), .sc (.string ⟨⟨v.s⟩⟩)]
def Vl.row (v : Vl) : List AV := [.sc (.int .i64 v.k), .sc (.int .i64 v.n), .sc (.string ⟨⟨v.s⟩⟩)]

/-- A value that may be. -/
def Vl.wf (v : Vl) : Prop := (v.k = 1 ∧ v.s = []) ∨ (v.k = 2 ∧ (v.n = 0 ∨ v.n = 1) ∧ v.s = []) ∨ (v.k = 3 ∧ v.n = 0 ∧ v.s.length ≤ 64)

end Go.Ai
