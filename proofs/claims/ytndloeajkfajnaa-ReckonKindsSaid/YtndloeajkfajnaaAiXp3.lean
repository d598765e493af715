/-
  EXPRESSIONS THAT ARE NOT KNOWN: what they are as data; that they are right.
-/
import Derived.Test.YtndloeajkfajnaaAiXp2
set_option linter.unusedVariables false
set_option linter.unusedSimpArgs false
namespace Go.Ai
open Go.Proofs Go.RowKit

inductive XT where
  | lit (v : Vl)
  | ref (v f : UInt8)
  | cnt (v : UInt8)
  | neg (x : XT)
  | not (x : XT)
  | and (x y : XT)
  | or (x y : XT)
  | bin (o : BOp) (x y : XT)

def leafC (kind k n : Int) (s v f : List UInt8) : List AV := [.sc (.int .i64 kind), .sc (.string ⟨⟨[]⟩⟩), .sc (.int .i64 k), .sc (.int .i64 n), .sc (.string ⟨⟨s⟩⟩), .sc (.string ⟨⟨v⟩⟩), .sc (.string ⟨⟨f⟩⟩), .sc (.slice none 0 0)]
def nodeC (kind : Int) (op : List UInt8) (rows : List (List AV)) (cap : Nat) : List AV := [.sc (.int .i64 kind), .sc (.string ⟨⟨op⟩⟩), .sc (.int .i64 0), .sc (.int .i64 0), .sc (.string ⟨⟨[]⟩⟩), .sc (.string ⟨⟨[]⟩⟩), .sc (.string ⟨⟨[]⟩⟩), .ro 8 rows (some cap)]

def XT.cells : XT → List AV
  | .lit v => leafC 0 v.k v.n v.s [] []
  | .ref v f => leafC 1 0 0 [] [v] [f]
  | .cnt v => leafC 2 0 0 [] [v] []
  | .neg x => nodeC 3 [45] [x.cells] 1
  | .not x => nodeC 3 [33] [x.cells] 1
  | .and x y => nodeC 4 [38, 38] [x.cells, y.cells] 2
  | .or x y => nodeC 4 [124, 124] [x.cells, y.cells] 2
  | .bin o x y => nodeC 4 o.text [x.cells, y.cells] 2

def XT.depth : XT → Nat
  | .neg x | .not x => x.depth + 1
  | .and x y | .or x y | .bin _ x y => max x.depth y.depth + 1
  | _ => 0

/-- The fields that are spoken of. -/
def refsX : List (UInt8 × UInt8) := [(97, 107), (97, 120), (98, 107), (98, 121), (98, 115), (98, 116)]

def XT.wf : XT → Prop
  | .lit v => v.wf ∧ 0 ≤ v.n ∧ ∀ b ∈ v.s, b ≠ 39
  | .ref v f => (v, f) ∈ refsX
  | .cnt v => v = 98
  | .neg x | .not x => x.wf
  | .and x y | .or x y | .bin _ x y => x.wf ∧ y.wf

/-- A list of kids: none, or so many. -/
def kidsA (b : Bool) (rows : List (List AV)) (cap : Option Nat) : AV := match b with
  | true => .ro 8 rows cap
  | false => .sc (.slice none 0 0)
def rowA (kd k n : Int) (op s v f : List UInt8) (b : Bool) (rows : List (List AV)) (cap : Option Nat) : List AV :=
  [.sc (.int .i64 kd), .sc (.string ⟨⟨op⟩⟩), .sc (.int .i64 k), .sc (.int .i64 n), .sc (.string ⟨⟨s⟩⟩), .sc (.string ⟨⟨v⟩⟩), .sc (.string ⟨⟨f⟩⟩), kidsA b rows cap]

theorem XT.cells_form : ∀ e : XT, ∃ kd k n op s v f b rows cap, e.cells = rowA kd k n op s v f b rows cap
  | .lit _ => ⟨_, _, _, _, _, _, _, false, [], none, rfl⟩
  | .ref .. => ⟨_, _, _, _, _, _, _, false, [], none, rfl⟩
  | .cnt _ => ⟨_, _, _, _, _, _, _, false, [], none, rfl⟩
  | .neg _ => ⟨_, _, _, _, _, _, _, true, _, _, rfl⟩
  | .not _ => ⟨_, _, _, _, _, _, _, true, _, _, rfl⟩
  | .and .. => ⟨_, _, _, _, _, _, _, true, _, _, rfl⟩
  | .or .. => ⟨_, _, _, _, _, _, _, true, _, _, rfl⟩
  | .bin .. => ⟨_, _, _, _, _, _, _, true, _, _, rfl⟩

theorem XT.data : ∀ e : XT, isDataL e.cells = true
  | .lit _ | .ref .. | .cnt _ | .neg _ | .not _ | .and .. | .or .. | .bin .. => rfl

theorem plain57 : plainF 57 := ⟨rfl, rfl, rfl, rfl, rfl⟩
theorem plain58 : plainF 58 := ⟨rfl, rfl, rfl, rfl, rfl⟩
theorem plain85 : plainF 85 := ⟨rfl, rfl, rfl, rfl, rfl⟩
theorem plain17 : plainF 17 := ⟨rfl, rfl, rfl, rfl, rfl⟩
theorem plain21 : plainF 21 := ⟨rfl, rfl, rfl, rfl, rfl⟩

/-! ### Right -/

def T57 (n : Nat) (args : List AV) (H : List Blk) (K : ORes → Prop) : Prop := match args with
  | [.agg cs] => (isDataL cs = true ∧ ToEnd n 57 [.agg cs] (.ret (.sc (.bool true)))) ∧ K (.val (.sc (.bool true)) H)
  | _ => False

theorem T57_ok (n : Nat) (args : List AV) (H : List Blk) (K : ORes → Prop) (h : T57 n args H K) : ∃ q, callA CS (callW CS (exec CS n)) none 57 args H = some q ∧ K q := by
  unfold T57 at h
  split at h
  · obtain ⟨⟨hd, he⟩, hk⟩ := h
    exact ⟨_, callA_ends plain57 (by simp [isDataL, isData, hd]) rfl he, hk⟩
  · exact h.elim

theorem plain80 : plainF 80 := ⟨rfl, rfl, rfl, rfl, rfl⟩

/-- The test of a kid. -/
def T80 (n : Nat) (args : List AV) (H : List Blk) (K : ORes → Prop) : Prop := match args with
  | [.agg cs] => (isDataL cs = true ∧ ToEnd n 80 [.agg cs] (.ret (.sc (.bool false)))) ∧ K (.val (.sc (.bool false)) H)
  | _ => False

theorem T80_ok (n : Nat) (args : List AV) (H : List Blk) (K : ORes → Prop) (h : T80 n args H K) : ∃ q, callA CS (callW CS (exec CS n)) none 80 args H = some q ∧ K q := by
  unfold T80 at h
  split at h
  · obtain ⟨⟨hd, he⟩, hk⟩ := h
    exact ⟨_, callA_ends plain80 (by simp [isDataL, isData, hd]) rfl he, hk⟩
  · exact h.elim

theorem eqBytes_other {c : UInt8} {l : List UInt8} (h : ∀ b ∈ l, b ≠ c) : eqBytes [c] l = false := by
  cases l with
  | nil => rfl
  | cons b r =>
    unfold eqBytes
    split
    · rename_i e
      exact absurd (UInt8.toNat_inj.1 (Nat.eq_of_beq_eq_true e)).symm (h b List.mem_cons_self)
    · rfl

theorem hasByte_no {c : UInt8} {l : List UInt8} (h : ∀ b ∈ l, b ≠ c) : hasByte l c = false := by
  have e : ((List.range l.length).find? fun i => (⟨⟨l⟩⟩ : ByteArray)[i]! == c) = none := by
    rw [List.find?_eq_none]
    intro i hi
    have hi' : i < l.length := List.mem_range.1 hi
    have hg : (⟨⟨l⟩⟩ : ByteArray)[i]! = l[i] := by
      rw [getElem!_pos (⟨⟨l⟩⟩ : ByteArray) i (by exact hi')]
      rfl
    rw [hg]
    simp only [beq_iff_eq]
    exact h _ (List.getElem_mem hi')
  have h2 : idxOf l c = -1 := by unfold idxOf; rw [e]
  unfold hasByte
  rw [eqBytes_other h, h2]
  rfl

def con57 : Con CS := oneCon 57 T57 T57_ok
def conR : Con CS := addCon 103 T103 T103_ok (oneCon 80 T80 T80_ok)

def s57 : Script := { inl := inlS }

def kidOK (n : Nat) (cs : List AV) : Prop := isDataL cs = true ∧ ToEnd n 80 [.agg cs] (.ret (.sc (.bool false)))

theorem tree80t (k : Nat) (kd i n : Int) (op s v f : List UInt8) (rows : List (List AV)) (cap : Option Nat) (K : CRes → Prop) : callPC CS con57 s57 (k+20) 80 [.agg (rowA kd i n op s v f true rows cap)] [] (fun r _ => K r) =
  ((isDataL (rowA kd i n op s v f true rows cap) = true ∧ ToEnd (k+17) 57 [.agg (rowA kd i n op s v f true rows cap)] (.ret (.sc (.bool true)))) ∧ K (.ret (.sc (.bool false)))) := by kernel_rfl
theorem tree80f (k : Nat) (kd i n : Int) (op s v f : List UInt8) (rows : List (List AV)) (cap : Option Nat) (K : CRes → Prop) : callPC CS con57 s57 (k+20) 80 [.agg (rowA kd i n op s v f false rows cap)] [] (fun r _ => K r) =
  ((isDataL (rowA kd i n op s v f false rows cap) = true ∧ ToEnd (k+17) 57 [.agg (rowA kd i n op s v f false rows cap)] (.ret (.sc (.bool true)))) ∧ K (.ret (.sc (.bool false)))) := by kernel_rfl

theorem tree57lit (k : Nat) (kd x : Int) (s : List UInt8) (K : CRes → Prop) : callPC CS conR s57 (k+100) 57 [.agg (leafC 0 kd x s [] [])] [] (fun r _ => K r) = ((⟨kd, x, s⟩ : Vl).wf ∧ bothP (decide (x < 0)) (K (.ret (.sc (.bool false)))) (bothP (hasByte s 39) (K (.ret (.sc (.bool false)))) (K (.ret (.sc (.bool true)))))) := by kernel_rfl
theorem tree57ref (k : Nat) (K : CRes → Prop) (v f : UInt8) (h : (v, f) ∈ refsX) : callPC CS conR s57 (k+100) 57 [.agg (leafC 1 0 0 [] [v] [f])] [] (fun r _ => K r) = K (.ret (.sc (.bool true))) := by
  simp only [refsX, List.mem_cons, List.mem_nil_iff, or_false, Prod.mk.injEq] at h
  rcases h with ⟨rfl, rfl⟩ | ⟨rfl, rfl⟩ | ⟨rfl, rfl⟩ | ⟨rfl, rfl⟩ | ⟨rfl, rfl⟩ | ⟨rfl, rfl⟩ <;> kernel_rfl
theorem tree57cnt (k : Nat) (K : CRes → Prop) : callPC CS conR s57 (k+100) 57 [.agg (leafC 2 0 0 [] [98] [])] [] (fun r _ => K r) = K (.ret (.sc (.bool true))) := by kernel_rfl
theorem tree57neg (k : Nat) (c1 c2 c3 c4 c5 c6 c7 c8 : AV) (K : CRes → Prop) : callPC CS conR s57 (k+100) 57 [.agg (nodeC 3 [45] [[c1, c2, c3, c4, c5, c6, c7, c8]] 1)] [] (fun r _ => K r) = (kidOK (k+82) [c1, c2, c3, c4, c5, c6, c7, c8] ∧ K (.ret (.sc (.bool true)))) := by kernel_rfl
theorem tree57not (k : Nat) (c1 c2 c3 c4 c5 c6 c7 c8 : AV) (K : CRes → Prop) : callPC CS conR s57 (k+100) 57 [.agg (nodeC 3 [33] [[c1, c2, c3, c4, c5, c6, c7, c8]] 1)] [] (fun r _ => K r) = (kidOK (k+82) [c1, c2, c3, c4, c5, c6, c7, c8] ∧ K (.ret (.sc (.bool true)))) := by kernel_rfl
theorem tree57and (k : Nat) (c1 c2 c3 c4 c5 c6 c7 c8 d1 d2 d3 d4 d5 d6 d7 d8 : AV) (K : CRes → Prop) : callPC CS conR s57 (k+100) 57 [.agg (nodeC 4 [38, 38] [[c1, c2, c3, c4, c5, c6, c7, c8], [d1, d2, d3, d4, d5, d6, d7, d8]] 2)] [] (fun r _ => K r) = (kidOK (k+82) [c1, c2, c3, c4, c5, c6, c7, c8] ∧ kidOK (k+82) [d1, d2, d3, d4, d5, d6, d7, d8] ∧ K (.ret (.sc (.bool true)))) := by kernel_rfl
theorem tree57or (k : Nat) (c1 c2 c3 c4 c5 c6 c7 c8 d1 d2 d3 d4 d5 d6 d7 d8 : AV) (K : CRes → Prop) : callPC CS conR s57 (k+100) 57 [.agg (nodeC 4 [124, 124] [[c1, c2, c3, c4, c5, c6, c7, c8], [d1, d2, d3, d4, d5, d6, d7, d8]] 2)] [] (fun r _ => K r) = (kidOK (k+82) [c1, c2, c3, c4, c5, c6, c7, c8] ∧ kidOK (k+82) [d1, d2, d3, d4, d5, d6, d7, d8] ∧ K (.ret (.sc (.bool true)))) := by kernel_rfl
theorem tree57bin (k : Nat) (o : BOp) (c1 c2 c3 c4 c5 c6 c7 c8 d1 d2 d3 d4 d5 d6 d7 d8 : AV) (K : CRes → Prop) : callPC CS conR s57 (k+100) 57 [.agg (nodeC 4 o.text [[c1, c2, c3, c4, c5, c6, c7, c8], [d1, d2, d3, d4, d5, d6, d7, d8]] 2)] [] (fun r _ => K r) = (kidOK (k+82) [c1, c2, c3, c4, c5, c6, c7, c8] ∧ kidOK (k+82) [d1, d2, d3, d4, d5, d6, d7, d8] ∧ K (.ret (.sc (.bool true)))) := by cases o <;> kernel_rfl

theorem kid_of {n m : Nat} {e : XT} (h : ToEnd n 57 [.agg e.cells] (.ret (.sc (.bool true)))) (hm : n + 20 ≤ m) : kidOK m e.cells := by
  refine ⟨e.data, ToEnd.mono (n := n + 20) ?_ hm⟩
  obtain ⟨kd, i, x, op, s, v, f, b, rows, cap, he⟩ := e.cells_form
  have hd := e.data
  rw [he] at h hd ⊢
  cases b with
  | true => exact ToEnd.ofC (tree80t n kd i x op s v f rows cap _) ⟨⟨hd, h.mono (by omega)⟩, rfl⟩
  | false => exact ToEnd.ofC (tree80f n kd i x op s v f rows cap _) ⟨⟨hd, h.mono (by omega)⟩, rfl⟩

theorem XT.cells8 (e : XT) : ∃ c1 c2 c3 c4 c5 c6 c7 c8, e.cells = [c1, c2, c3, c4, c5, c6, c7, c8] := by
  obtain ⟨kd, i, x, op, s, v, f, b, rows, cap, he⟩ := e.cells_form
  exact ⟨_, _, _, _, _, _, _, _, he⟩

theorem right_node1 {x : XT} {m : Nat} (hx : ToEnd m 57 [.agg x.cells] (.ret (.sc (.bool true)))) {op : List UInt8}
    (t : ∀ (k : Nat) (c1 c2 c3 c4 c5 c6 c7 c8 : AV) (K : CRes → Prop), callPC CS conR s57 (k+100) 57 [.agg (nodeC 3 op [[c1, c2, c3, c4, c5, c6, c7, c8]] 1)] [] (fun r _ => K r) = (kidOK (k+82) [c1, c2, c3, c4, c5, c6, c7, c8] ∧ K (.ret (.sc (.bool true))))) :
    ToEnd (m + 100) 57 [.agg (nodeC 3 op [x.cells] 1)] (.ret (.sc (.bool true))) := by
  have hk := kid_of (m := m + 82) hx (by omega)
  obtain ⟨c1, c2, c3, c4, c5, c6, c7, c8, he⟩ := x.cells8
  rw [he] at hk ⊢
  exact ToEnd.ofC (t m c1 c2 c3 c4 c5 c6 c7 c8 _) ⟨hk, rfl⟩

theorem right_node2 {x y : XT} {m : Nat} (hx : ToEnd m 57 [.agg x.cells] (.ret (.sc (.bool true)))) (hy : ToEnd m 57 [.agg y.cells] (.ret (.sc (.bool true)))) {op : List UInt8}
    (t : ∀ (k : Nat) (c1 c2 c3 c4 c5 c6 c7 c8 d1 d2 d3 d4 d5 d6 d7 d8 : AV) (K : CRes → Prop), callPC CS conR s57 (k+100) 57 [.agg (nodeC 4 op [[c1, c2, c3, c4, c5, c6, c7, c8], [d1, d2, d3, d4, d5, d6, d7, d8]] 2)] [] (fun r _ => K r) =
      (kidOK (k+82) [c1, c2, c3, c4, c5, c6, c7, c8] ∧ kidOK (k+82) [d1, d2, d3, d4, d5, d6, d7, d8] ∧ K (.ret (.sc (.bool true))))) :
    ToEnd (m + 100) 57 [.agg (nodeC 4 op [x.cells, y.cells] 2)] (.ret (.sc (.bool true))) := by
  have hk := kid_of (m := m + 82) hx (by omega)
  have hl := kid_of (m := m + 82) hy (by omega)
  obtain ⟨c1, c2, c3, c4, c5, c6, c7, c8, he⟩ := x.cells8
  obtain ⟨d1, d2, d3, d4, d5, d6, d7, d8, hf⟩ := y.cells8
  rw [he] at hk ⊢
  rw [hf] at hl ⊢
  exact ToEnd.ofC (t m c1 c2 c3 c4 c5 c6 c7 c8 d1 d2 d3 d4 d5 d6 d7 d8 _) ⟨hk, hl, rfl⟩

theorem right_all : ∀ (e : XT), e.wf → ToEnd (100 + 100 * e.depth) 57 [.agg e.cells] (.ret (.sc (.bool true)))
  | .lit ⟨kd, x, s⟩, h => by
    obtain ⟨h1, h2, h3⟩ := h
    refine ToEnd.ofC (tree57lit 0 kd x s _) ⟨h1, ?_⟩
    rw [show decide (x < 0) = false from decide_eq_false (by simp only at h2; omega), hasByte_no h3]
    rfl
  | .ref v f, h => ToEnd.ofC (tree57ref 0 _ v f h) rfl
  | .cnt v, h => by
    simp only [XT.wf] at h
    subst h
    exact ToEnd.ofC (tree57cnt 0 _) rfl
  | .neg x, h => (right_node1 (right_all x h) tree57neg).mono (by simp only [XT.depth]; omega)
  | .not x, h => (right_node1 (right_all x h) tree57not).mono (by simp only [XT.depth]; omega)
  | .and x y, h => (right_node2 ((right_all x h.1).mono (m := 100 + 100 * max x.depth y.depth) (by omega)) ((right_all y h.2).mono (by omega)) tree57and).mono (by simp only [XT.depth]; omega)
  | .or x y, h => (right_node2 ((right_all x h.1).mono (m := 100 + 100 * max x.depth y.depth) (by omega)) ((right_all y h.2).mono (by omega)) tree57or).mono (by simp only [XT.depth]; omega)
  | .bin o x y, h => (right_node2 ((right_all x h.1).mono (m := 100 + 100 * max x.depth y.depth) (by omega)) ((right_all y h.2).mono (by omega)) (fun k => tree57bin k o)).mono (by simp only [XT.depth]; omega)

end Go.Ai
