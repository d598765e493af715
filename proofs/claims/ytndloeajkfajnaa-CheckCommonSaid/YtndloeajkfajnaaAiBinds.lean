/-
  BYTES THAT COME IN, ONE BY ONE: what the next one is.
-/
import Derived.Test.YtndloeajkfajnaaAiEx11
import Derived.Test.YtndloeajkfajnaaAiMuls
set_option linter.unusedVariables false
set_option linter.unusedSimpArgs false
namespace Go.Ai
open Go.Proofs Go.RowKit

/-- With the examples of 8 and names told. -/
def told8 : FuncId → Option (List AV → Option AV) := fun f => if f = 14 then some one8 else told11 f

theorem told8_ok (f : FuncId) (F : List AV → Option AV) (h : told8 f = some F) : PrimOK Try.prog f F := by
  unfold told8 at h
  split at h
  · rename_i e; cases h; rw [e]; exact prim14
  exact told11_ok f F h

noncomputable def C8 : Ctx := { C2 with prims := told8, own := fun t => t == 28, settle := fun f => f == 17 }

theorem toldC8 : Told C8 := ⟨try_mix, try_name, told8_ok, told2.recs⟩

theorem C8_P : C8.P = Try.prog := rfl

def mRows (bs : List Int) : List (List AV) := bs.map fun b => [AV.sc (.int .u8 b)]

/-- A slice of bytes. -/
structure IsM (bs : List Int) (m : AV) : Prop where
  form : (∃ cap, m = .ro 1 (mRows bs) cap) ∨ (bs = [] ∧ m = .sc (.slice none 0 0))
  byte : ∀ b ∈ bs, 0 ≤ b ∧ b < 256
  size : bs.length ≤ 9223372036854775807

def byteAt (bs : List Int) (x : Int) : Int := if x < bs.length then bs.getD x.toNat 0 else 0
def nextAt (bs : List Int) (x : Int) : Int := if x < bs.length then x + 1 else x

theorem byteAt_range {bs : List Int} (h : ∀ b ∈ bs, 0 ≤ b ∧ b < 256) (x : Int) : 0 ≤ byteAt bs x ∧ byteAt bs x < 256 := by
  unfold byteAt
  split
  · rw [List.getD_eq_getElem?_getD]
    cases hq : bs[x.toNat]? with
    | none => simp
    | some b => exact h b (List.mem_of_getElem? hq)
  · omega

theorem nextAt_range {bs : List Int} {x : Int} (h0 : 0 ≤ x) (h1 : x ≤ bs.length) : 0 ≤ nextAt bs x ∧ nextAt bs x ≤ bs.length := by
  unfold nextAt
  split <;> omega

theorem tree50e (k : Nat) (x : Int) (es : List (List AV)) (cap : Option Nat) (H' : List Blk) (K : CRes → List Blk → Prop) : callP C8 (scr [(6, .bit true)]) (k+20) 50 [.ptr 1 0 0 0, .ptr 0 0 0 0] (.cells 1 0 [[.ro 1 es cap]] false :: .cells 1 0 [[.sc (.int .i64 x)]] false :: H') K =
  (decide (x ≥ ↑es.length) = true ∧ K (.ret (.sc (.int .i64 0))) (.cells 1 0 [[.ro 1 es cap]] false :: .cells 1 0 [[.sc (.int .i64 x)]] false :: H')) := by kernel_rfl

theorem tree50n (k : Nat) (x : Int) (H' : List Blk) (K : CRes → List Blk → Prop) : callP C8 (scr [(6, .bit true)]) (k+20) 50 [.ptr 1 0 0 0, .ptr 0 0 0 0] (.cells 1 0 [[.sc (.slice none 0 0)]] false :: .cells 1 0 [[.sc (.int .i64 x)]] false :: H') K =
  (decide (x ≥ ((0 : Nat) : Int)) = true ∧ K (.ret (.sc (.int .i64 0))) (.cells 1 0 [[.sc (.slice none 0 0)]] false :: .cells 1 0 [[.sc (.int .i64 x)]] false :: H')) := by kernel_rfl

theorem tree50s (k : Nat) (x y z : Int) (es : List (List AV)) (cap : Option Nat) (H' : List Blk) (K : CRes → List Blk → Prop) : callP C8 (scr [(6, .bit false), (8, .int y), (11, .int x), (12, .res fun _ H => .val (.rp [.sc (.int .u8 z)] 0) H)]) (k+20) 50 [.ptr 1 0 0 0, .ptr 0 0 0 0] (.cells 1 0 [[.ro 1 es cap]] false :: .cells 1 0 [[.sc (.int .i64 x)]] false :: H') K =
  (decide (x ≥ ↑es.length) = false ∧ IntKind.i64.wrap (x + 1) = y ∧ IntKind.i64.wrap (y - 1) = x ∧
   (((if x < 0 then none else ((es[x.toNat]?).map fun row => AV.rp row 0)).map fun v => ORes.val v (.cells 1 0 [[.ro 1 es cap]] false :: .cells 1 0 [[.sc (.int .i64 y)]] false :: H')) = some (.val (.rp [.sc (.int .u8 z)] 0) (.cells 1 0 [[.ro 1 es cap]] false :: .cells 1 0 [[.sc (.int .i64 y)]] false :: H'))) ∧
   K (.ret (.sc (.int .i64 (IntKind.i64.wrap z)))) (.cells 1 0 [[.ro 1 es cap]] false :: .cells 1 0 [[.sc (.int .i64 y)]] false :: H')) := by kernel_rfl

theorem next_run {bs : List Int} {m : AV} (hm : IsM bs m) (k : Nat) {x : Int} (h0 : 0 ≤ x) (h1 : x ≤ bs.length) (H' : List Blk) :
    ∃ r, call C8 (k+20) 50 [.ptr 1 0 0 0, .ptr 0 0 0 0] (.cells 1 0 [[m]] false :: .cells 1 0 [[.sc (.int .i64 x)]] false :: H') = some r ∧
      (r.1 = .ret (.sc (.int .i64 (byteAt bs x))) ∧ r.2 = (.cells 1 0 [[m]] false :: .cells 1 0 [[.sc (.int .i64 (nextAt bs x))]] false :: H')) := by
  rcases hm.form with ⟨cap, rfl⟩ | ⟨rfl, rfl⟩
  · have hl : (mRows bs).length = bs.length := by simp [mRows]
    by_cases h : x < bs.length
    · have hb : bs[x.toNat]? = some (byteAt bs x) := by
        unfold byteAt
        rw [if_pos h, List.getD_eq_getElem?_getD]
        have : x.toNat < bs.length := by omega
        rw [List.getElem?_eq_getElem this]
        rfl
      have hy : nextAt bs x = x + 1 := by unfold nextAt; rw [if_pos h]
      have hs := hm.size
      have hr := byteAt_range hm.byte x
      refine callP_tree (tree50s k x (x + 1) (byteAt bs x) (mRows bs) cap H' (fun r H => r = .ret (.sc (.int .i64 (byteAt bs x))) ∧ H = _)) ?_
      refine ⟨by rw [hl]; exact decide_eq_false (by omega), by rw [wrap_i64]; omega, by rw [wrap_i64]; omega, ?_, ?_, ?_⟩
      · rw [if_neg (by omega)]
        unfold mRows
        rw [List.getElem?_map, hb]
        rfl
      · rw [wrap_i64, show (byteAt bs x + 9223372036854775808) % 18446744073709551616 - 9223372036854775808 = byteAt bs x by omega]
      · rw [hy]
    · have hb : byteAt bs x = 0 := by unfold byteAt; rw [if_neg h]
      have hy : nextAt bs x = x := by unfold nextAt; rw [if_neg h]
      refine callP_tree (tree50e k x (mRows bs) cap H' (fun r H => r = .ret (.sc (.int .i64 (byteAt bs x))) ∧ H = _)) ?_
      refine ⟨by rw [hl]; exact decide_eq_true (by omega), ?_, ?_⟩
      · rw [hb]
      · rw [hy]
  · have hb : byteAt [] x = 0 := by unfold byteAt; rw [if_neg (by simpa using h0)]
    have hy : nextAt [] x = x := by unfold nextAt; rw [if_neg (by simpa using h0)]
    refine callP_tree (tree50n k x H' (fun r H => r = .ret (.sc (.int .i64 (byteAt [] x))) ∧ H = _)) ?_
    refine ⟨decide_eq_true (by simpa using h0), ?_, ?_⟩
    · rw [hb]
    · rw [hy]

def okN (bs : List Int) (m : AV) (x : Int) : Prop := IsM bs m ∧ 0 ≤ x ∧ x ≤ bs.length

/-- What is told of the next byte. -/
def T50 (bs : List Int) (n : Nat) (args : List AV) (H : List Blk) (K : ORes → Prop) : Prop := match args, H with
  | [.ptr 1 0 0 0, .ptr 0 0 0 0], .cells 1 0 [[m]] false :: .cells 1 0 [[.sc (.int .i64 x)]] false :: H' => match Nat.ble 20 n with
    | true => okN bs m x ∧ K (.val (.sc (.int .i64 (byteAt bs x))) (.cells 1 0 [[m]] false :: .cells 1 0 [[.sc (.int .i64 (nextAt bs x))]] false :: H'))
    | false => False
  | _, _ => False

theorem T50_ok (bs : List Int) (n : Nat) (args : List AV) (H : List Blk) (K : ORes → Prop) (h : T50 bs n args H K) : ∃ q, callA C8 (callW C8 (exec C8 n)) none 50 args H = some q ∧ K q := by
  unfold T50 at h
  split at h
  · rename_i m x H'
    split at h
    case h_2 => exact h.elim
    rename_i hn
    obtain ⟨⟨hm, h0, h1⟩, hk⟩ := h
    obtain ⟨k, rfl⟩ : ∃ k, n = k + 20 := ⟨n - 20, by have := Nat.le_of_ble_eq_true hn; omega⟩
    obtain ⟨⟨r, H1⟩, hr, e1, e2⟩ := next_run hm k h0 h1 H'
    simp only at e1 e2
    subst e1 e2
    refine ⟨_, ?_, hk⟩
    unfold callA
    rw [show C8.ext 50 = false from rfl]
    simp only [Bool.false_eq_true, if_false]
    unfold preCall
    rw [show C8.settle 50 = false from rfl]
    unfold doCall
    rw [show C8.prims 50 = none from rfl, show C8.byRef 50 = false from rfl]
    simp only [Bool.false_eq_true, if_false]
    rw [show frzL _ [AV.ptr 1 0 0 0, AV.ptr 0 0 0 0] = none from rfl]
    simp only
    have e : callW C8 (exec C8 (k + 20)) = call C8 (k + 20) := rfl
    rw [e, hr]
  · exact h.elim

def con8 (bs : List Int) : Con C8 where
  T := fun n f => match Nat.beq f 50 with
    | true => some (T50 bs n)
    | false => none
  ok := fun n f T h args H K hk => by
    simp only at h
    split at h
    · rename_i e
      cases h
      rw [Nat.eq_of_beq_eq_true e]
      exact T50_ok bs n args H K hk
    · cases h

end Go.Ai
