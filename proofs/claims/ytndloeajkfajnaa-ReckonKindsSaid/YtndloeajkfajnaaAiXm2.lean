/-
  EXPRESSIONS BY BYTES: numbers, texts, truths.
-/
import Derived.Test.YtndloeajkfajnaaAiXm1
set_option linter.unusedVariables false
set_option linter.unusedSimpArgs false
namespace Go.Ai
open Go.Proofs Go.RowKit

def giveR (bs : List Int) (n : Nat) (f : FuncId) (rest : List AV) (m : AV) (x : Int) (kf : List AV → Int → Prop) : Prop :=
  (GivesX bs n f rest m x ∧ varsA = varsA ∧ (0 : Int) = 0) ∧
    (∀ kd k i op s v f' x', isX (rowA kd k i op s v f' false [] none) → okN bs m x' → kf (rowA kd k i op s v f' false [] none) x') ∧
    (∀ kd k i op s v f' rows cap x', isX (rowA kd k i op s v f' true rows cap) → okN bs m x' → kf (rowA kd k i op s v f' true rows cap) x')

def opS (s : ByteArray) : Prop := ∃ o : BOp, s = ⟨⟨o.text⟩⟩
def lgP (s : ByteArray) : Prop := s = ⟨⟨[38, 38]⟩⟩ ∨ s = ⟨⟨[124, 124]⟩⟩
def txP (s : ByteArray) : Prop := s.data.toList.length ≤ 64 ∧ ∀ b ∈ s.data.toList, b ≠ 39
def nnP (n : Int) : Prop := 0 ≤ n

def pickTx (l : List (List UInt8)) (i : Int) (P : ByteArray → Prop) : Prop := ∃ z, (if i < 0 then none else ((l.map fun x => [AV.sc (.string ⟨⟨x⟩⟩)])[i.toNat]?).map fun row => AV.rp row 0) = some (AV.rp [AV.sc (.string z)] 0) ∧ P z
def pickNm (l : List Int) (i : Int) (P : Int → Prop) : Prop := ∃ z, (if i < 0 then none else ((l.map fun x => [AV.sc (.int .i64 x)])[i.toNat]?).map fun row => AV.rp row 0) = some (AV.rp [AV.sc (.int .i64 z)] 0) ∧ P z

def h52 (d : Nat) : Option Hint := if d = 11 then some (.anyI byteP) else if d = 20 then some (.idxIP nnP) else if d = 68 then some (.idxSP opS) else none
def h53 (d : Nat) : Option Hint := if d = 11 then some (.anyI byteP) else if d = 20 then some (.idxSP txP) else none
def h54 (d : Nat) : Option Hint := if d = 16 then some (.anyI byteP) else if d = 21 then some (.idxSP opS) else if d = 77 then some (.idxSP lgP) else none

def lessD (d : Int) : AV := .sc (.int .i64 (IntKind.i64.wrap (d - 1)))
def feedR (bs : List Int) (m : AV) (x : Int) (p : Int → Prop) : Prop := (okN bs m x ∧ varsA = varsA ∧ (0 : Int) = 0) ∧ byteP (byteAt bs x) ∧ ∀ z, byteP z → p z

def numR2 (bs : List Int) (n : Nat) (K : CRes → List Blk → Prop) (m : AV) (x1 : Int) : Prop := giveR bs (n+90) 77 [ownA, .sc (.string ⟨⟨[107, 120, 121]⟩⟩), avV 1 1 []] m x1 (fun cs x' => K (.ret (.agg cs)) [feedB m x'])
def numRest (bs : List Int) (n : Nat) (d : Int) (K : CRes → List Blk → Prop) (m : AV) (x1 z : Int) : Prop :=
  bothP (z.tmod 8 == 5) (K (.ret (.agg (leafC 2 0 0 [] [98] []))) [feedB m x1])
    (bothP (z.tmod 8 == 6) (giveR bs (n+86) 52 [ownA, lessD d] m x1 fun cs x' => K (.ret (.agg (nodeC 3 [45] [cs] 1))) [feedB m x'])
      (giveR bs (n+95) 52 [ownA, lessD d] m x1 fun cs x2 => giveR bs (n+94) 52 [ownA, lessD d] m x2 fun ds x3 =>
        pickTx [[43], [45], [42], [47], [37]] ((IntKind.i64.wrap (z.tdiv 8)).tmod 5) opS ∧ ∀ s : ByteArray, opS s → K (.ret (.agg (nodeC 4 s.data.toList [cs, ds] 2))) [feedB m x3]))
def numRR (bs : List Int) (n : Nat) (x d : Int) (K : CRes → List Blk → Prop) (m : AV) : Prop := feedR bs m x fun z =>
  bothP (decide (z.tmod 8 < 3)) (pickNm [0, 1, 2, 3, 5, 9223372036854775807] ((IntKind.i64.wrap (z.tdiv 8)).tmod 6) nnP ∧ ∀ v, nnP v → K (.ret (.agg (leafC 0 1 v [] [] []))) [feedB m (nextAt bs x)])
    (bothP (decide (z.tmod 8 < 5)) (numR2 bs n K m (nextAt bs x)) (bothP (decide (d < 1)) (numR2 bs n K m (nextAt bs x)) (numRest bs n d K m (nextAt bs x) z)))

theorem tree52 (bs : List Int) (n : Nat) (es : List (List AV)) (cap : Option Nat) (x d : Int) (K : CRes → List Blk → Prop) : callPC CS (conM bs) { op := h52 } (n+100) 52 [.ptr 0 0 0 0, ownA, .sc (.int .i64 d)] [feedB (.ro 1 es cap) x] K = numRR bs n x d K (.ro 1 es cap) := by kernel_rfl
theorem tree52n (bs : List Int) (n : Nat) (es : List (List AV)) (cap : Option Nat) (x d : Int) (K : CRes → List Blk → Prop) : callPC CS (conM bs) { op := h52 } (n+100) 52 [.ptr 0 0 0 0, ownA, .sc (.int .i64 d)] [feedB (.sc (.slice none 0 0)) x] K = numRR bs n x d K (.sc (.slice none 0 0)) := by kernel_rfl

def txtR2 (bs : List Int) (n : Nat) (K : CRes → List Blk → Prop) (m : AV) (x1 : Int) : Prop := giveR bs (n+90) 77 [ownA, .sc (.string ⟨⟨[115]⟩⟩), avV 3 0 [97]] m x1 (fun cs x' => K (.ret (.agg cs)) [feedB m x'])
def txtRR (bs : List Int) (n : Nat) (x d : Int) (K : CRes → List Blk → Prop) (m : AV) : Prop := feedR bs m x fun z =>
  bothP (z.tmod 4 == 0) (pickTx [[], [97], [98], [120, 32, 121]] ((IntKind.i64.wrap (z.tdiv 4)).tmod 4) txP ∧ ∀ s : ByteArray, txP s → K (.ret (.agg (leafC 0 3 0 s.data.toList [] []))) [feedB m (nextAt bs x)])
    (bothP (decide (z.tmod 4 < 3)) (txtR2 bs n K m (nextAt bs x)) (bothP (decide (d < 1)) (txtR2 bs n K m (nextAt bs x))
      (giveR bs (n+95) 53 [ownA, lessD d] m (nextAt bs x) fun cs x2 => giveR bs (n+94) 53 [ownA, lessD d] m x2 fun ds x3 => K (.ret (.agg (nodeC 4 [43] [cs, ds] 2))) [feedB m x3])))

theorem tree53 (bs : List Int) (n : Nat) (es : List (List AV)) (cap : Option Nat) (x d : Int) (K : CRes → List Blk → Prop) : callPC CS (conM bs) { op := h53 } (n+100) 53 [.ptr 0 0 0 0, ownA, .sc (.int .i64 d)] [feedB (.ro 1 es cap) x] K = txtRR bs n x d K (.ro 1 es cap) := by kernel_rfl
theorem tree53n (bs : List Int) (n : Nat) (es : List (List AV)) (cap : Option Nat) (x d : Int) (K : CRes → List Blk → Prop) : callPC CS (conM bs) { op := h53 } (n+100) 53 [.ptr 0 0 0 0, ownA, .sc (.int .i64 d)] [feedB (.sc (.slice none 0 0)) x] K = txtRR bs n x d K (.sc (.slice none 0 0)) := by kernel_rfl

def truBase (bs : List Int) (n : Nat) (K : CRes → List Blk → Prop) (m : AV) (x1 z : Int) (s : ByteArray) : Prop :=
  bothP (z.tmod 16 == 6)
    (giveR bs (n+83) 53 [ownA, .sc (.int .i64 1)] m x1 fun cs x2 => giveR bs (n+82) 53 [ownA, .sc (.int .i64 1)] m x2 fun ds x3 => K (.ret (.agg (nodeC 4 s.data.toList [cs, ds] 2))) [feedB m x3])
    (giveR bs (n+94) 52 [ownA, .sc (.int .i64 1)] m x1 fun cs x2 => giveR bs (n+93) 52 [ownA, .sc (.int .i64 1)] m x2 fun ds x3 => K (.ret (.agg (nodeC 4 s.data.toList [cs, ds] 2))) [feedB m x3])
def truLog (bs : List Int) (n : Nat) (d : Int) (K : CRes → List Blk → Prop) (m : AV) (x1 z : Int) : Prop := giveR bs (n+85) 54 [ownA, lessD d] m x1 fun cs x2 => giveR bs (n+84) 54 [ownA, lessD d] m x2 fun ds x3 =>
  pickTx [[38, 38], [124, 124]] ((IntKind.i64.wrap (z.tdiv 16)).tmod 2) lgP ∧ ∀ s : ByteArray, lgP s → K (.ret (.agg (nodeC 4 s.data.toList [cs, ds] 2))) [feedB m x3]
def truNot (bs : List Int) (n : Nat) (d : Int) (K : CRes → List Blk → Prop) (m : AV) (x1 : Int) : Prop := giveR bs (n+87) 54 [ownA, lessD d] m x1 fun cs x' => K (.ret (.agg (nodeC 3 [33] [cs] 1))) [feedB m x']
def truLess (bs : List Int) (n : Nat) (d : Int) (K : CRes → List Blk → Prop) (m : AV) (x1 z : Int) (s : ByteArray) : Prop := bothP (decide (z.tmod 16 < 6)) (bothP (decide (d > 0)) (truLog bs n d K m x1 z) (truBase bs n K m x1 z s)) (truBase bs n K m x1 z s)
def truRR (bs : List Int) (n : Nat) (x d : Int) (K : CRes → List Blk → Prop) (m : AV) : Prop := feedR bs m x fun z => pickTx [[61, 61], [33, 61], [60], [60, 61], [62], [62, 61], [60, 61], [62, 61]] ((IntKind.i64.wrap (z.tdiv 16)).tmod 8) opS ∧ ∀ s : ByteArray, opS s →
  bothP (z.tmod 16 == 0) (K (.ret (.agg (leafC 0 2 ((IntKind.i64.wrap (z.tdiv 16)).tmod 2) [] [] []))) [feedB m (nextAt bs x)])
    (bothP (z.tmod 16 == 1) (giveR bs (n+89) 77 [ownA, .sc (.string ⟨⟨[116]⟩⟩), avV 2 1 []] m (nextAt bs x) (fun cs x' => K (.ret (.agg cs)) [feedB m x']))
      (bothP (z.tmod 16 == 2) (bothP (decide (d > 0)) (truNot bs n d K m (nextAt bs x)) (truLess bs n d K m (nextAt bs x) z s)) (truLess bs n d K m (nextAt bs x) z s)))

theorem tree54 (bs : List Int) (n : Nat) (es : List (List AV)) (cap : Option Nat) (x d : Int) (K : CRes → List Blk → Prop) : callPC CS (conM bs) { op := h54 } (n+100) 54 [.ptr 0 0 0 0, ownA, .sc (.int .i64 d)] [feedB (.ro 1 es cap) x] K = truRR bs n x d K (.ro 1 es cap) := by kernel_rfl
theorem tree54n (bs : List Int) (n : Nat) (es : List (List AV)) (cap : Option Nat) (x d : Int) (K : CRes → List Blk → Prop) : callPC CS (conM bs) { op := h54 } (n+100) 54 [.ptr 0 0 0 0, ownA, .sc (.int .i64 d)] [feedB (.sc (.slice none 0 0)) x] K = truRR bs n x d K (.sc (.slice none 0 0)) := by kernel_rfl

end Go.Ai
