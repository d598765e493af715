/-
  EXPRESSIONS BY BYTES: the bytes, and what is told of the functions that read them.
-/
import Derived.Test.YtndloeajkfajnaaAiXp8
set_option linter.unusedVariables false
set_option linter.unusedSimpArgs false
namespace Go.Ai
open Go.Proofs Go.RowKit

def varsA : AV := .ro 2 [[strA1 97, fieldsA]] (some 1)
def ownA : AV := .agg [strA1 98, fieldsB]
def feedB (m : AV) (x : Int) : Blk := .cells 4 0 [[m, .sc (.int .i64 x), varsA, .sc (.int .i64 0)]] false
def mF (q : Bool) (es : List (List AV)) (cap : Option Nat) : AV := match q with
  | true => .ro 1 es cap
  | false => .sc (.slice none 0 0)

/-! ### the next byte -/

theorem tree51e (k : Nat) (x : Int) (es : List (List AV)) (cap : Option Nat) (K : CRes → List Blk → Prop) : callP CS (scr [(12, .bit true)]) (k+20) 51 [.ptr 0 0 0 0] [feedB (.ro 1 es cap) x] K =
  (decide (x ≥ ↑es.length) = true ∧ K (.ret (.sc (.int .i64 0))) [feedB (.ro 1 es cap) x]) := by kernel_rfl

theorem tree51n (k : Nat) (x : Int) (K : CRes → List Blk → Prop) : callP CS (scr [(12, .bit true)]) (k+20) 51 [.ptr 0 0 0 0] [feedB (.sc (.slice none 0 0)) x] K =
  (decide (x ≥ ((0 : Nat) : Int)) = true ∧ K (.ret (.sc (.int .i64 0))) [feedB (.sc (.slice none 0 0)) x]) := by kernel_rfl

theorem tree51s (k : Nat) (x y z : Int) (es : List (List AV)) (cap : Option Nat) (K : CRes → List Blk → Prop) : callP CS (scr [(12, .bit false), (17, .int y), (28, .int x), (29, .idxIs [.sc (.int .u8 z)])]) (k+20) 51 [.ptr 0 0 0 0] [feedB (.ro 1 es cap) x] K =
  (decide (x ≥ ↑es.length) = false ∧ IntKind.i64.wrap (x + 1) = y ∧ IntKind.i64.wrap (y - 1) = x ∧
   (if x < 0 then none else ((es[x.toNat]?).map fun row => AV.rp row 0)) = some (.rp [.sc (.int .u8 z)] 0) ∧
   K (.ret (.sc (.int .i64 (IntKind.i64.wrap z)))) [feedB (.ro 1 es cap) y]) := by kernel_rfl

theorem next51 {bs : List Int} {m : AV} (hm : IsM bs m) (k : Nat) {x : Int} (h0 : 0 ≤ x) (h1 : x ≤ bs.length) :
    call CS (k+20) 51 [.ptr 0 0 0 0] [feedB m x] = some (.ret (.sc (.int .i64 (byteAt bs x))), [feedB m (nextAt bs x)]) := by
  have key : ∃ r, call CS (k+20) 51 [.ptr 0 0 0 0] [feedB m x] = some r ∧ (r.1 = .ret (.sc (.int .i64 (byteAt bs x))) ∧ r.2 = [feedB m (nextAt bs x)]) := by
    rcases hm.form with ⟨cap, rfl⟩ | ⟨rfl, rfl⟩
    · have hl : (mRows bs).length = bs.length := by simp [mRows]
      by_cases h : x < bs.length
      · have hb : bs[x.toNat]? = some (byteAt bs x) := by
          unfold byteAt
          rw [if_pos h, List.getD_eq_getElem?_getD]
          have : x.toNat < bs.length := by omega
          rw [List.getElem?_eq_getElem this]
          rfl
        have hy : nextAt bs x = x + 1 := by unfold nextAt; rw [if_pos h]
        have hs := hm.size
        have hr := byteAt_range hm.byte x
        refine callP_tree (tree51s k x (x + 1) (byteAt bs x) (mRows bs) cap (fun r H => r = .ret (.sc (.int .i64 (byteAt bs x))) ∧ H = _)) ?_
        refine ⟨by rw [hl]; exact decide_eq_false (by omega), by rw [wrap_i64]; omega, by rw [wrap_i64]; omega, ?_, ?_, ?_⟩
        · rw [if_neg (by omega)]
          unfold mRows
          rw [List.getElem?_map, hb]
          rfl
        · rw [wrap_i64, show (byteAt bs x + 9223372036854775808) % 18446744073709551616 - 9223372036854775808 = byteAt bs x by omega]
        · rw [hy]
      · have hb : byteAt bs x = 0 := by unfold byteAt; rw [if_neg h]
        have hy : nextAt bs x = x := by unfold nextAt; rw [if_neg h]
        refine callP_tree (tree51e k x (mRows bs) cap (fun r H => r = .ret (.sc (.int .i64 (byteAt bs x))) ∧ H = _)) ?_
        refine ⟨by rw [hl]; exact decide_eq_true (by omega), ?_, ?_⟩
        · rw [hb]
        · rw [hy]
    · have hb : byteAt [] x = 0 := by unfold byteAt; rw [if_neg (by simpa using h0)]
      have hy : nextAt [] x = x := by unfold nextAt; rw [if_neg (by simpa using h0)]
      refine callP_tree (tree51n k x (fun r H => r = .ret (.sc (.int .i64 (byteAt [] x))) ∧ H = _)) ?_
      refine ⟨decide_eq_true (by simpa using h0), ?_, ?_⟩
      · rw [hb]
      · rw [hy]
  obtain ⟨⟨r, H⟩, hc, e1, e2⟩ := key
  simp only at e1 e2
  rw [hc, e1, e2]

/-! ### a call that sees the bytes alone -/

theorem lone_lift {C : Ctx} {n : Nat} {f : FuncId} {rest : List AV} {row : List AV} {v : AV} {k : Blk} {H : List Blk} {b : Nat} (hl : C.lone f = true) (h : call C n f (.ptr 0 0 0 0 :: rest) [.cells 4 0 [row] false] = some (.ret v, [k]))
    (hk : H[b]? = some (.cells 4 0 [row] false)) : callW C (exec C n) f (.ptr b 0 0 0 :: rest) H = some (.ret v, H.set b k) := by
  have e : call C n f (.ptr 0 0 0 0 :: rest) [.cells 4 0 [row] false] = loneW (runW C (exec C n)) f (.ptr 0 0 0 0 :: rest) [.cells 4 0 [row] false] := by
    unfold call callW
    rw [hl]
  rw [e] at h
  unfold callW
  rw [hl]
  show loneW (runW C (exec C n)) f (.ptr b 0 0 0 :: rest) H = _
  unfold loneW at h ⊢
  simp only [hk]
  simp only [List.getElem?_cons_zero] at h
  split at h
  case h_2 => cases h
  rename_i e1 e2 e3
  try simp only [e1, e2, e3]
  split at h
  case h_2 => cases h
  rename_i v' size' g1 row' tl hr
  split at h
  case h_2 => cases h
  rename_i d1 d2 d3 d4
  try simp only [hr, d1, d2, d3, d4]
  simp only [List.set_cons_zero, Option.some.injEq, Prod.mk.injEq, List.cons.injEq, and_true] at h
  obtain ⟨h1, h2⟩ := h
  rw [h1, h2]

def loneF (f : FuncId) : Prop := CS.ext f = false ∧ CS.prims f = none ∧ CS.settle f = false ∧ CS.byRef f = false ∧ CS.lone f = true

theorem callA_lone {n : Nat} {f : FuncId} {rest row : List AV} {v : AV} {k : Blk} {H : List Blk} {b : Nat} (hf : loneF f) (h : call CS n f (.ptr 0 0 0 0 :: rest) [.cells 4 0 [row] false] = some (.ret v, [k])) (hk : H[b]? = some (.cells 4 0 [row] false)) :
    callA CS (callW CS (exec CS n)) none f (.ptr b 0 0 0 :: rest) H = some (.val v (H.set b k)) := by
  obtain ⟨he, hp, hs, hb, hl⟩ := hf
  have e := lone_lift hl h hk
  unfold callA
  rw [he]
  simp only [Bool.false_eq_true, if_false]
  unfold preCall
  rw [hs]
  simp only
  unfold doCall
  rw [hp]
  simp only [hb, Bool.false_eq_true, if_false]
  rw [show frzL H (.ptr b 0 0 0 :: rest) = none from rfl]
  simp only [e]

theorem lone51 : loneF 51 := ⟨rfl, rfl, rfl, rfl, rfl⟩
theorem lone52 : loneF 52 := ⟨rfl, rfl, rfl, rfl, rfl⟩
theorem lone53 : loneF 53 := ⟨rfl, rfl, rfl, rfl, rfl⟩
theorem lone54 : loneF 54 := ⟨rfl, rfl, rfl, rfl, rfl⟩
theorem lone77 : loneF 77 := ⟨rfl, rfl, rfl, rfl, rfl⟩

/-- What is told of the next byte. -/
def T51 (bs : List Int) (n : Nat) (args : List AV) (H : List Blk) (K : ORes → Prop) : Prop := match args with
  | [.ptr b 0 0 0] => match H[b]? with
    | some (.cells 4 0 [[m, .sc (.int .i64 x), .ro s vs c, .sc (.int .i64 y)]] false) => match Nat.ble 20 n with
      | true => (okN bs m x ∧ AV.ro s vs c = varsA ∧ y = 0) ∧ K (.val (.sc (.int .i64 (byteAt bs x))) (H.set b (feedB m (nextAt bs x))))
      | false => False
    | _ => False
  | _ => False

theorem T51_ok (bs : List Int) (n : Nat) (args : List AV) (H : List Blk) (K : ORes → Prop) (h : T51 bs n args H K) : ∃ q, callA CS (callW CS (exec CS n)) none 51 args H = some q ∧ K q := by
  unfold T51 at h
  split at h
  case h_2 => exact h.elim
  split at h
  case h_2 => exact h.elim
  rename_i hk
  split at h
  case h_2 => exact h.elim
  rename_i hn
  obtain ⟨⟨⟨hm, h0, h1⟩, hv, rfl⟩, hK⟩ := h
  rw [hv] at hk
  obtain ⟨k, rfl⟩ : ∃ k, n = k + 20 := ⟨n - 20, by have := Nat.le_of_ble_eq_true hn; omega⟩
  exact ⟨_, callA_lone lone51 (next51 hm k h0 h1) hk, hK⟩

/-- Some expression. -/
def isX (cs : List AV) : Prop := ∃ e : XT, e.wf ∧ cs = e.cells

/-- A call that sees the bytes alone gives some expression. -/
structure GivesX (bs : List Int) (n : Nat) (f : FuncId) (rest : List AV) (m : AV) (x : Int) : Prop where
  ex : ∃ cs x', isX cs ∧ okN bs m x' ∧ call CS n f (.ptr 0 0 0 0 :: rest) [feedB m x] = some (.ret (.agg cs), [feedB m x'])

/-- What is told of one that reads an expression. -/
def TX (bs : List Int) (f : FuncId) (n : Nat) (args : List AV) (H : List Blk) (K : ORes → Prop) : Prop := match args with
  | .ptr b 0 0 0 :: rest => match H[b]? with
    | some (.cells 4 0 [[m, .sc (.int .i64 x), .ro s vs c, .sc (.int .i64 y)]] false) => (GivesX bs n f rest m x ∧ AV.ro s vs c = varsA ∧ y = 0) ∧
      (∀ kd k i op s v f' x', isX (rowA kd k i op s v f' false [] none) → okN bs m x' → K (.val (.agg (rowA kd k i op s v f' false [] none)) (H.set b (feedB m x')))) ∧
      (∀ kd k i op s v f' rows cap x', isX (rowA kd k i op s v f' true rows cap) → okN bs m x' → K (.val (.agg (rowA kd k i op s v f' true rows cap)) (H.set b (feedB m x'))))
    | _ => False
  | _ => False

theorem TX_ok (bs : List Int) {f : FuncId} (hf : loneF f) (n : Nat) (args : List AV) (H : List Blk) (K : ORes → Prop) (h : TX bs f n args H K) : ∃ q, callA CS (callW CS (exec CS n)) none f args H = some q ∧ K q := by
  unfold TX at h
  split at h
  case h_2 => exact h.elim
  split at h
  case h_2 => exact h.elim
  rename_i hk
  obtain ⟨⟨⟨cs, x', hX, hok, hc⟩, hv, rfl⟩, hL, hN⟩ := h
  rw [hv] at hk
  refine ⟨_, callA_lone hf hc hk, ?_⟩
  obtain ⟨e, he, rfl⟩ := hX
  obtain ⟨kd, k, i, op, s, v, f', b, rows, cap, hcs⟩ := e.cells_form
  rw [hcs]
  cases b with
  | true => exact hN kd k i op s v f' rows cap x' ⟨e, he, hcs.symm⟩ hok
  | false => exact hL kd k i op s v f' x' ⟨e, he, hcs.symm⟩ hok

def conM (bs : List Int) : Con CS := addCon 51 (T51 bs) (T51_ok bs) (addCon 52 (TX bs 52) (TX_ok bs lone52) (addCon 53 (TX bs 53) (TX_ok bs lone53) (addCon 54 (TX bs 54) (TX_ok bs lone54) (oneCon 77 (TX bs 77) (TX_ok bs lone77)))))

end Go.Ai
