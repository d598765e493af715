/-
  ReckonTexts: the law's run comes to true.
-/
import Derived.Test.YtndloeajkfajnaaAiTexts7
set_option linter.unusedVariables false
set_option linter.unusedSimpArgs false
namespace Go.Ai
open Go.Proofs Go.RowKit

theorem make_ok {q : Nat} (hq : q ≤ 64) (H : List Blk) : makeT q H := by
  unfold makeT
  unfold makeSliceA
  have h1 : (100 : Nat) ≤ roomA := by decide
  rw [show Try.prog.underlying 27 = some (.slice 5) from Try.underlying27]
  simp only
  rw [show szT Try.prog 5 = some 1 by kernel_rfl, show (Try.prog.info? 5).map (fun x => (x.bytes : Int)) = some 1 by kernel_rfl, show (zeroT Try.prog 5).bind (fun z => cellsA (absV z)) = some (byteRow 0) by kernel_rfl]
  simp only
  rw [if_pos ⟨rfl, by decide, by decide, by omega, by omega, by omega⟩]
  rfl

theorem conv_sl {b k : Nat} {cap : Option Nat} {H : List Blk} {es : List (List AV)} {l : List UInt8} (h : elemsA H 1 (.sl b 0 0 k cap) = some es) (hb : bytesA es = some l) : convT (.sl b 0 0 k cap) l H := by
  unfold convT
  have e : convertA Try.prog H 27 9 (.sl b 0 0 k cap) = ((elemsA H 1 (.sl b 0 0 k cap)).bind bytesA).map fun l => .sc (.string ⟨l.toArray⟩) := by kernel_rfl
  rw [e, h]
  simp only [Option.bind_some, hb, Option.map_some]

theorem conv_nil (H : List Blk) : convT (.sc (.slice none 0 0)) [] H := by
  unfold convT
  have e : convertA Try.prog H 27 9 (.sc (.slice none 0 0)) = some (.sc (.string ⟨⟨[]⟩⟩)) := by kernel_rfl
  rw [e]
  rfl

theorem elems_at {H : List Blk} {b k : Nat} {cap : Option Nat} {es : List (List AV)} (h : H[b]? = some (.cells 1 0 es false)) (hk : es.length = k) : elemsA H 1 (.sl b 0 0 k cap) = some es := by
  unfold elemsA
  simp only [h]
  rw [if_pos (by first | exact ⟨rfl, rfl, by omega⟩ | exact ⟨trivial, trivial, by omega⟩ | exact ⟨trivial, rfl, by omega⟩), ← hk]
  simp

theorem bytes_rowsU : ∀ l : List UInt8, bytesA (rowsU l) = some l
  | [] => rfl
  | b :: l => by
    have ih := bytes_rowsU l
    unfold bytesA rowsU at ih ⊢
    simp only [List.map_cons, List.mapM_cons, ih]
    simp

theorem rowsU_replicate (q : Nat) : List.replicate q (byteRow 121) = rowsU (List.replicate q 121) := by
  unfold rowsU
  rw [List.map_replicate]
  rfl

theorem join_ok (x y : Operand) (lx ly : List UInt8) (H : List Blk) (hx : lx.length ≤ 64) (hy : ly.length ≤ 64) : joinT x y lx ly H := by
  unfold joinT
  have e : binA Try.prog .add 9 x y (.sc (.string ⟨⟨lx⟩⟩)) (.sc (.string ⟨⟨ly⟩⟩)) = (pureRun Try.prog (do eqGuard .add 9 x y (.string ⟨⟨lx⟩⟩) (.string ⟨⟨ly⟩⟩); binOp .add 9 (.string ⟨⟨lx⟩⟩) (.string ⟨⟨ly⟩⟩))).map absV := by kernel_rfl
  have e3 : (⟨⟨lx⟩⟩ : ByteArray) ++ (⟨⟨ly⟩⟩ : ByteArray) = ⟨⟨lx ++ ly⟩⟩ := by
    apply ByteArray.ext
    rw [ByteArray.data_append]
    simp
  have e1 : (⟨⟨lx⟩⟩ : ByteArray).size = lx.length := rfl
  have e2 : (⟨⟨ly⟩⟩ : ByteArray).size = ly.length := rfl
  have hm : IntKind.i64.max = 9223372036854775807 := rfl
  have e4 : binOp .add 9 (.string ⟨⟨lx⟩⟩) (.string ⟨⟨ly⟩⟩) = Op.stringOp .add ⟨⟨lx⟩⟩ ⟨⟨ly⟩⟩ := by kernel_rfl
  rw [e, pureRun_bind', show pureRun Try.prog (eqGuard .add 9 x y (.string ⟨⟨lx⟩⟩) (.string ⟨⟨ly⟩⟩)) = some () by kernel_rfl]
  simp only [Option.bind_some]
  rw [e4]
  unfold Op.stringOp
  simp only
  rw [if_neg (by rw [e1, e2, hm]; omega), e3]
  rfl

theorem eqT_ok (x y : Nat) (l : List UInt8) : eqT x y l := by
  have h := bin_equal 3 0 3 0 ⟨⟨l⟩⟩ ⟨⟨l⟩⟩ (.tmp x) (.tmp y)
  have e3 : ((⟨⟨l⟩⟩ : ByteArray) == ⟨⟨l⟩⟩) = true := by
    show ((⟨l⟩ : Array UInt8) == ⟨l⟩) = true
    exact beq_self_eq_true _
  rw [e3] at h
  exact h

theorem sizeT_ok {l : List UInt8} (h : l.length ≤ 64) : sizeT l := by
  unfold sizeT
  have : (⟨⟨l⟩⟩ : ByteArray).size = l.length := rfl
  exact decide_eq_true (by omega)

theorem ordT_ok (lx ly : List UInt8) {p : Prop} (h : p) : ordT lx ly p := by
  unfold ordT
  refine ⟨by rw [eqBytes_self]; rfl, by rw [eqBytes_self]; rfl, ?_⟩
  cases Op.bytesLess (⟨⟨lx⟩⟩ : ByteArray).toList (⟨⟨ly⟩⟩ : ByteArray).toList
  · show bothP _ p p
    cases (!(false || (⟨⟨lx⟩⟩ : ByteArray).toList == (⟨⟨ly⟩⟩ : ByteArray).toList)) <;> exact h
  · exact h

theorem midT_ok {sx sy : AV} {H : List Blk} {lx ly : List UInt8} {p : Prop} (h1 : convT sx lx H) (h2 : convT sy ly H) (lx64 : lx.length ≤ 64) (ly64 : ly.length ≤ 64) (hx : ∀ b ∈ lx, b ≠ 39) (hy : ∀ b ∈ ly, b ≠ 39) (hp : p) : midT sx sy H lx ly p :=
  ⟨h1, h2, eqT_ok _ _ _, sizeT_ok lx64, hasByte_not hx, eqT_ok _ _ _, sizeT_ok ly64, hasByte_not hy, eqT_ok _ _ _, sizeT_ok lx64, eqT_ok _ _ _, sizeT_ok ly64, ordT_ok _ _ hp⟩

theorem sumT {lx ly : List UInt8} (h1 : lx.length ≤ 64) (h2 : ly.length ≤ 64) : IntKind.i64.wrap (((⟨⟨lx⟩⟩ : ByteArray).size : Int) + ((⟨⟨ly⟩⟩ : ByteArray).size : Int)) = ((lx.length + ly.length : Nat) : Int) := by
  have e1 : (⟨⟨lx⟩⟩ : ByteArray).size = lx.length := rfl
  have e2 : (⟨⟨ly⟩⟩ : ByteArray).size = ly.length := rfl
  rw [wrap_i64, e1, e2]
  omega

theorem sumN {k q : Nat} (h1 : k ≤ 64) (h2 : q ≤ 64) : IntKind.i64.wrap ((k : Int) + (q : Int)) = ((k + q : Nat) : Int) := by
  rw [wrap_i64]
  omega

theorem tree_true {C : Ctx} {S : Script} {n : Nat} {f : FuncId} {args : List AV} {v : AV} {p : Prop} (h : callP C S n f args [] (fun r _ => r = .ret v) = p) (hp : p) : ∃ H1, call C n f args [] = some (.ret v, H1) := by
  rw [← h] at hp
  obtain ⟨⟨r, H1⟩, hr, hk⟩ := callP_sound hp
  simp only at hk
  subst hk
  exact ⟨H1, hr⟩

theorem texts_run (l : List UInt8) {long : Int} (h0 : 0 ≤ long) (h1 : long < 256) : ∃ H1, call CT 140 10 [.sc (.string ⟨⟨l⟩⟩), .sc (.int .u8 long)] [] = some (.ret (.sc (.bool true)), H1) := by
  obtain ⟨q, hq⟩ : ∃ q : Nat, long.tmod 65 = q := by
    rw [Int.tmod_eq_emod_of_nonneg h0]
    exact ⟨(long % 65).toNat, by omega⟩
  have hq64 : q ≤ 64 := by
    rw [Int.tmod_eq_emod_of_nonneg h0] at hq
    omega
  have hw : IntKind.i64.wrap (long.tmod 65) = q := by rw [hq, wrap_i64]; omega
  have hk64 : (kept l).length ≤ 64 := keptAt_le l 64
  have hy64 : (List.replicate q (121 : UInt8)).length ≤ 64 := by simpa using hq64
  have hyn : ∀ b ∈ List.replicate q (121 : UInt8), b ≠ 39 := by
    intro b hb
    rw [(List.mem_replicate.1 hb).2]
    decide
  have len (H : List Blk) (b : Nat) : q = 0 → H[b]? = some (.cells 1 0 [] false) → convT (.sl b 0 0 q (some q)) (List.replicate q 121) H := fun e hb => by
    subst e
    exact conv_sl (elems_at hb rfl) rfl
  have ylen (H : List Blk) (b : Nat) : H[b]? = some (.cells 1 0 (List.replicate q (byteRow 121)) false) → convT (.sl b 0 0 q (some q)) (List.replicate q 121) H := fun hb =>
    conv_sl (elems_at hb (by simp)) (by rw [rowsU_replicate]; exact bytes_rowsU _)
  have xlen (H : List Blk) : H[0]? = some (.cells 1 0 (rowsU (kept l)) false) → convT (.sl 0 0 0 (kept l).length none) (kept l) H := fun hb =>
    conv_sl (elems_at hb (by simp [rowsU])) (bytes_rowsU _)
  by_cases hk : kept l = []
  · refine tree_true (treeB l long q [] (List.replicate q 121) (fun r => r = .ret (.sc (.bool true)))) ?_
    have rB : runB l long q [] (List.replicate q 121) (fun rows => tailT (.sc (.slice none 0 0)) (slY false q) (hB rows) ((0 : Nat) : Int) q [] (List.replicate q 121) ((CRes.ret (.sc (.bool true))) = .ret (.sc (.bool true)))) := by
      have tl : ∀ rows, (∀ H : List Blk, convT (slY false q) (List.replicate q 121) (hB rows ++ H)) → tailT (.sc (.slice none 0 0)) (slY false q) (hB rows) ((0 : Nat) : Int) q [] (List.replicate q 121) ((CRes.ret (.sc (.bool true))) = .ret (.sc (.bool true))) := by
        intro rows hc
        refine ⟨?_, join_ok _ _ _ _ _ (by simp) hy64, ?_, conv_nil _, hc _, join_ok _ _ _ _ _ (by simp) hy64, eqT_ok _ _ _, rfl⟩
        · rw [sumT (by simp) hy64]
          exact decide_eq_true (by simp; omega)
        · rw [sumN (by omega) hq64]
          exact decide_eq_false (by omega)
      refine ⟨hw, make_ok hq64 _, okD 29 q, rfl, rfl, rfl, rfl, rfl, rfl, rfl, hq64, rfl, fun e => ?_, fun i => ?_⟩
      · exact midT_ok (conv_nil _) (len _ 0 e rfl) (by simp) hy64 (fun b hb => by cases hb) hyn (tl _ fun H => len _ 0 e rfl)
      · exact midT_ok (conv_nil _) (ylen _ 0 rfl) (by simp) hy64 (fun b hb => by cases hb) hyn (tl _ fun H => ylen _ 0 rfl)
    exact ⟨okB 31 l long hk, rfl, fun _ _ _ _ => rB, fun _ _ _ _ _ => rB⟩
  · by_cases hs : (kept l).length + q ≤ 64
    · refine tree_true (treeA l (kept l) long (kept l).length q (kept l) (List.replicate q 121) (fun r => r = .ret (.sc (.bool true)))) ?_
      have tl : ∀ rows, (∀ H : List Blk, convT (slY true q) (List.replicate q 121) (hA (kept l) rows ++ H)) → tailT (.sl 0 0 0 (kept l).length none) (slY true q) (hA (kept l) rows) (kept l).length q (kept l) (List.replicate q 121) ((CRes.ret (.sc (.bool true))) = .ret (.sc (.bool true))) := by
        intro rows hc
        refine ⟨?_, join_ok _ _ _ _ _ hk64 hy64, ?_, xlen _ rfl, hc _, join_ok _ _ _ _ _ hk64 hy64, eqT_ok _ _ _, rfl⟩
        · rw [sumT hk64 hy64]
          exact decide_eq_true (by simp; omega)
        · rw [sumN hk64 hq64]
          exact decide_eq_false (by omega)
      refine ⟨okA 31 l long hk, rfl, fun i a b c d => ⟨hw, make_ok hq64 _, okC 29 (kept l) q, rfl, rfl, rfl, rfl, rfl, rfl, rfl, rfl, hq64, rfl, fun e => ?_, fun i => ?_⟩⟩
      · exact midT_ok (xlen _ rfl) (len _ 1 e rfl) hk64 hy64 (kept_not l) hyn (tl _ fun H => len _ 1 e rfl)
      · exact midT_ok (xlen _ rfl) (ylen _ 1 rfl) hk64 hy64 (kept_not l) hyn (tl _ fun H => ylen _ 1 rfl)
    · refine tree_true (treeF l (kept l) long (kept l).length q (kept l) (List.replicate q 121) (fun r => r = .ret (.sc (.bool true)))) ?_
      have tl : tailF (kept l).length q (kept l) (List.replicate q 121) ((CRes.ret (.sc (.bool true))) = .ret (.sc (.bool true))) := by
        refine ⟨?_, ?_, rfl⟩
        · rw [sumT hk64 hy64]
          exact decide_eq_false (by simp; omega)
        · rw [sumN hk64 hq64]
          exact decide_eq_true (by omega)
      refine ⟨okA 31 l long hk, rfl, fun i a b c d => ⟨hw, make_ok hq64 _, okC 29 (kept l) q, rfl, rfl, rfl, rfl, rfl, rfl, rfl, rfl, hq64, rfl, fun e => ?_, fun i => ?_⟩⟩
      · exact midT_ok (xlen _ rfl) (len _ 1 e rfl) hk64 hy64 (kept_not l) hyn tl
      · exact midT_ok (xlen _ rfl) (ylen _ 1 rfl) hk64 hy64 (kept_not l) hyn tl

end Go.Ai
