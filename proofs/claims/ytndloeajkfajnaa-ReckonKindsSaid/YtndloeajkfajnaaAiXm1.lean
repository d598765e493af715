/-
  EXPRESSIONS BY BYTES: a field of some kind, or what stands for it.
-/
import Derived.Test.YtndloeajkfajnaaAiXm0
set_option linter.unusedVariables false
set_option linter.unusedSimpArgs false
namespace Go.Ai
open Go.Proofs Go.RowKit

def natOf : AV → Nat
  | .sc (.int _ (.ofNat i)) => i
  | _ => 0

/-- A byte of a class: which list comes first, which field. -/
def clsP (p r : Nat) (z : Int) : Prop := byteP z ∧ z % 2 = p ∧ z / 8 % 4 = r

def h77 (p r d : Nat) : Option Hint := if d = 17 then some (.anyI (clsP p r)) else if d = 38 then some (.intT fun tmps => (((p + natOf (getT tmps 11)) % 2 : Nat) : Int)) else if d = 57 then some (.intT fun tmps => (((r + natOf (getT tmps 13)) % natOf (getT tmps 56) : Nat) : Int)) else none
def s77 (p r : Nat) : Script := { op := h77 p r }

def nameAt (l : List UInt8) (i : Nat) : UInt8 := l.getD i 0

/-- The rounds over a variable's fields. -/
def innerR (z : Int) (r : Nat) (var : UInt8) (fs : List UInt8) (hit : UInt8 → Bool) (leaf : List AV → Prop) : Nat → Nat → Prop → Prop
  | 0, k, next => next
  | m + 1, k, next => (IntKind.i64.wrap (IntKind.i64.wrap (z.tdiv 8) + k)).tmod fs.length = (((r + k) % fs.length : Nat) : Int) ∧
    (match hit (nameAt fs ((r + k) % fs.length)) with
      | true => leaf (leafC 1 0 0 [] [var] [nameAt fs ((r + k) % fs.length)])
      | false => innerR z r var fs hit leaf m (k + 1) next)

/-- One variable's. -/
def varR (z : Int) (r : Nat) (hit : UInt8 → Bool) (leaf : List AV → Prop) (which : Nat) (next : Prop) : Prop := match which with
  | 0 => innerR z r 97 [107, 120] hit leaf 2 0 next
  | _ => innerR z r 98 [107, 121, 115, 116] hit leaf 4 0 next

def outerR (z : Int) (p r : Nat) (hit : UInt8 → Bool) (other : List AV) (leaf : List AV → Prop) : Prop :=
  (IntKind.i64.wrap (z + (0 : Nat))).tmod 2 = (((p + 0) % 2 : Nat) : Int) ∧ varR z r hit leaf ((p + 0) % 2)
    ((IntKind.i64.wrap (z + (1 : Nat))).tmod 2 = (((p + 1) % 2 : Nat) : Int) ∧ varR z r hit leaf ((p + 1) % 2) (leaf other))

def hasU (c : UInt8) : List UInt8 → Bool
  | [] => false
  | d :: l => match Nat.beq c.toNat d.toNat with
    | true => true
    | false => hasU c l

def ofR (bs : List Int) (p r : Nat) (set : List UInt8) (v : Vl) (m : AV) (x : Int) (K : CRes → List Blk → Prop) : Prop :=
  (okN bs m x ∧ varsA = varsA ∧ (0 : Int) = 0) ∧ clsP p r (byteAt bs x) ∧ ∀ z, clsP p r z → outerR z p r (fun c => hasU c set) (leafC 0 v.k v.n v.s [] []) (fun cs => K (.ret (.agg cs)) [feedB m (nextAt bs x)])

theorem tree77a (bs : List Int) (n p r : Nat) (hp : p = 0 ∨ p = 1) (hr : r = 0 ∨ r = 1 ∨ r = 2 ∨ r = 3) (q : Bool) (es : List (List AV)) (cap : Option Nat) (x : Int) (v : Vl) (K : CRes → List Blk → Prop) :
    callPC CS (conM bs) (s77 p r) (n+60) 77 [.ptr 0 0 0 0, ownA, .sc (.string ⟨⟨[107, 120, 121]⟩⟩), v.av] [feedB (mF q es cap) x] K = ofR bs p r [107, 120, 121] v (mF q es cap) x K := by
  rcases hp with rfl | rfl <;> rcases hr with rfl | rfl | rfl | rfl <;> cases q <;> kernel_rfl
theorem tree77b (bs : List Int) (n p r : Nat) (hp : p = 0 ∨ p = 1) (hr : r = 0 ∨ r = 1 ∨ r = 2 ∨ r = 3) (q : Bool) (es : List (List AV)) (cap : Option Nat) (x : Int) (v : Vl) (K : CRes → List Blk → Prop) :
    callPC CS (conM bs) (s77 p r) (n+60) 77 [.ptr 0 0 0 0, ownA, .sc (.string ⟨⟨[115]⟩⟩), v.av] [feedB (mF q es cap) x] K = ofR bs p r [115] v (mF q es cap) x K := by
  rcases hp with rfl | rfl <;> rcases hr with rfl | rfl | rfl | rfl <;> cases q <;> kernel_rfl
theorem tree77c (bs : List Int) (n p r : Nat) (hp : p = 0 ∨ p = 1) (hr : r = 0 ∨ r = 1 ∨ r = 2 ∨ r = 3) (q : Bool) (es : List (List AV)) (cap : Option Nat) (x : Int) (v : Vl) (K : CRes → List Blk → Prop) :
    callPC CS (conM bs) (s77 p r) (n+60) 77 [.ptr 0 0 0 0, ownA, .sc (.string ⟨⟨[116]⟩⟩), v.av] [feedB (mF q es cap) x] K = ofR bs p r [116] v (mF q es cap) x K := by
  rcases hp with rfl | rfl <;> rcases hr with rfl | rfl | rfl | rfl <;> cases q <;> kernel_rfl

theorem innerR_of {z : Int} {r : Nat} {var : UInt8} {fs : List UInt8} {hit : UInt8 → Bool} {leaf : List AV → Prop} (hz : 0 ≤ z ∧ z < 256) (hr : z / 8 % 4 = r) (hl : fs.length = 2 ∨ fs.length = 4)
    (hf : ∀ c ∈ fs, leaf (leafC 1 0 0 [] [var] [c])) {next : Prop} (hn : next) : ∀ (m k : Nat), k + m ≤ 4 → innerR z r var fs hit leaf m k next
  | 0, k, _ => hn
  | m + 1, k, hk => by
    have hd : z.tdiv 8 = z / 8 := Int.tdiv_eq_ediv_of_nonneg hz.1
    have e : IntKind.i64.wrap (IntKind.i64.wrap (z.tdiv 8) + k) = z / 8 + k := by
      rw [hd, wrap_i64 (z / 8), show (z / 8 + 9223372036854775808) % 18446744073709551616 - 9223372036854775808 = z / 8 by omega, wrap_i64]
      omega
    have hmem : nameAt fs ((r + k) % fs.length) ∈ fs := by
      unfold nameAt
      have : (r + k) % fs.length < fs.length := Nat.mod_lt _ (by omega)
      rw [List.getD_eq_getElem?_getD, List.getElem?_eq_getElem this]
      exact List.getElem_mem _
    refine ⟨?_, by split <;> first | exact hf _ hmem | exact innerR_of hz hr hl hf hn m (k + 1) (by omega)⟩
    · rw [e, Int.tmod_eq_emod_of_nonneg (by omega)]
      rcases hl with hl | hl <;> (rw [hl]; omega)

theorem outerR_of {z : Int} {p r : Nat} {hit : UInt8 → Bool} {other : List AV} {leaf : List AV → Prop} (hz : clsP p r z) (hf : ∀ v f, (v, f) ∈ refsX → leaf (leafC 1 0 0 [] [v] [f])) (ho : leaf other) : outerR z p r hit other leaf := by
  obtain ⟨⟨h0, h1⟩, hp, hr⟩ := hz
  have var : ∀ (w : Nat) {next : Prop}, next → varR z r hit leaf w next := by
    intro w next hn
    unfold varR
    split
    · exact innerR_of ⟨h0, h1⟩ hr (.inl rfl) (fun c hc => hf _ _ (by simp [refsX] at hc ⊢; exact hc)) hn 2 0 (by omega)
    · exact innerR_of ⟨h0, h1⟩ hr (.inr rfl) (fun c hc => hf _ _ (by simp [refsX] at hc ⊢; omega)) hn 4 0 (by omega)
  refine ⟨?_, var _ ⟨?_, var _ ho⟩⟩
  · rw [show IntKind.i64.wrap (z + (0 : Nat)) = z by rw [wrap_i64]; omega, Int.tmod_eq_emod_of_nonneg h0]
    omega
  · rw [show IntKind.i64.wrap (z + (1 : Nat)) = z + 1 by rw [wrap_i64]; omega, Int.tmod_eq_emod_of_nonneg (by omega)]
    omega

/-- What 'of' gives is an expression. -/
theorem of_gives {bs : List Int} {m : AV} (hm : IsM bs m) {x : Int} (h0 : 0 ≤ x) (h1 : x ≤ bs.length) (n : Nat) (hn : 60 ≤ n) {v : Vl} (hv : (XT.lit v).wf) (set : List UInt8) (hs : set = [107, 120, 121] ∨ set = [115] ∨ set = [116]) :
    GivesX bs n 77 [ownA, .sc (.string ⟨⟨set⟩⟩), v.av] m x := by
  obtain ⟨k, rfl⟩ : ∃ k, n = k + 60 := ⟨n - 60, by omega⟩
  have hb := byteAt_range hm.byte x
  obtain ⟨p, hp⟩ : ∃ p : Nat, byteAt bs x % 2 = p := ⟨(byteAt bs x % 2).toNat, by omega⟩
  obtain ⟨r, hr⟩ : ∃ r : Nat, byteAt bs x / 8 % 4 = r := ⟨(byteAt bs x / 8 % 4).toNat, by omega⟩
  have hp2 : p = 0 ∨ p = 1 := by omega
  have hr4 : r = 0 ∨ r = 1 ∨ r = 2 ∨ r = 3 := by omega
  have hx := nextAt_range h0 h1
  let Q : CRes → List Blk → Prop := fun r H => ∃ cs, isX cs ∧ r = .ret (.agg cs) ∧ H = [feedB m (nextAt bs x)]
  have hq : ofR bs p r set v m x Q := by
    refine ⟨⟨⟨hm, h0, h1⟩, rfl, rfl⟩, ⟨hb, hp, hr⟩, fun z hz => outerR_of hz (fun a f h => ⟨_, ⟨.ref a f, h, rfl⟩, rfl, rfl⟩) ⟨_, ⟨.lit v, hv, rfl⟩, rfl, rfl⟩⟩
  have fin : ∃ r, call CS (k+60) 77 [.ptr 0 0 0 0, ownA, .sc (.string ⟨⟨set⟩⟩), v.av] [feedB m x] = some r ∧ Q r.1 r.2 := by
    have hf : ∃ q es cap, m = mF q es cap := by
      rcases hm.form with ⟨cap, rfl⟩ | ⟨_, rfl⟩
      · exact ⟨true, _, cap, rfl⟩
      · exact ⟨false, [], none, rfl⟩
    obtain ⟨q, es, cap, rfl⟩ := hf
    rcases hs with rfl | rfl | rfl
    · exact byTree (tree77a bs k p r hp2 hr4 q es cap x v Q) hq
    · exact byTree (tree77b bs k p r hp2 hr4 q es cap x v Q) hq
    · exact byTree (tree77c bs k p r hp2 hr4 q es cap x v Q) hq
  obtain ⟨⟨r', H⟩, hc, cs, hX, e1, e2⟩ := fin
  simp only at e1 e2
  subst e1 e2
  exact ⟨cs, _, hX, ⟨hm, hx.1, hx.2⟩, hc⟩

end Go.Ai
