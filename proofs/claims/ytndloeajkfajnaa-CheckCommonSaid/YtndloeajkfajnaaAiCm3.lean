/-
  CheckCommon: what slices.Contains, stream.At, check.Common tell.
-/
import Derived.Test.YtndloeajkfajnaaAiCm2
set_option linter.unusedVariables false
set_option linter.unusedSimpArgs false
namespace Go.Ai.Cm
open Go.Proofs Go.RowKit

/-! ### two fields -/

def fldV (s : ByteArray) (k : Int) : Value := .agg #[.string s, .int .i64 k]

theorem fld_equal (k k' : Int) (s s' : ByteArray) : pureRun Try.prog (Op.equal 68 (fldV s k) (fldV s' k')) = some ((s == s') && (k == k')) := by
  unfold Op.equal fldV
  rw [show Op.maxDepth = 9998 + 1 + 1 from rfl, pure_equal_struct _ _ _ _ _ Try.underlying68 (by kernel_rfl)]
  have p0 : ∀ xs : Array Value, ∀ x, xs[0]? = some x → pureRun Try.prog (part 9 xs 0) = some x := by
    intro xs x h
    unfold part
    rw [pureRun_bind', show pureRun Try.prog (isAgg 9) = some false by kernel_rfl]
    simp only [Option.bind_some, Bool.false_eq_true, if_false, h]
    rfl
  have p1 : ∀ xs : Array Value, ∀ x, xs[1]? = some x → pureRun Try.prog (part 3 xs 1) = some x := by
    intro xs x h
    unfold part
    rw [pureRun_bind', show pureRun Try.prog (isAgg 3) = some false by kernel_rfl]
    simp only [Option.bind_some, Bool.false_eq_true, if_false, h]
    rfl
  simp only [Op.eqFields, pureRun_bind', pureRun_ite, pureRun_pure]
  rw [p0 #[.string s, .int .i64 k] (.string s) rfl, p0 #[.string s', .int .i64 k'] (.string s') rfl, p1 #[.string s, .int .i64 k] (.int .i64 k) rfl, p1 #[.string s', .int .i64 k'] (.int .i64 k') rfl]
  simp only [Option.bind_some]
  rw [pure_equal_string _ _ _ Try.underlying9, pure_equal_int _ _ _ Try.underlying3]
  simp only [Option.bind_some]
  cases (s == s') <;> cases (k == k') <;> simp

theorem eq102_ok (f g : List UInt8 × Int) : eq102 (fieldA f) (fieldA g) := by
  unfold eq102
  have e : binA Try.prog .eql 68 (.tmp 11) (.tmp 15) (fieldA f) (fieldA g) = (pureRun Try.prog (do eqGuard .eql 68 (.tmp 11) (.tmp 15) (fldV ⟨⟨f.1⟩⟩ f.2) (fldV ⟨⟨g.1⟩⟩ g.2); binOp .eql 68 (fldV ⟨⟨f.1⟩⟩ f.2) (fldV ⟨⟨g.1⟩⟩ g.2))).map absV := by kernel_rfl
  rw [e, pureRun_bind', show pureRun Try.prog (eqGuard .eql 68 (.tmp 11) (.tmp 15) (fldV ⟨⟨f.1⟩⟩ f.2) (fldV ⟨⟨g.1⟩⟩ g.2)) = some () by kernel_rfl]
  simp only [Option.bind_some]
  have e2 : binOp .eql 68 (fldV ⟨⟨f.1⟩⟩ f.2) (fldV ⟨⟨g.1⟩⟩ g.2) = Sem.bind (Op.equal 68 (fldV ⟨⟨f.1⟩⟩ f.2) (fldV ⟨⟨g.1⟩⟩ g.2)) fun r => Sem.pure (.bool r) := by kernel_rfl
  rw [e2, pureRun_bind, fld_equal]
  rfl

theorem eqF_iff (f g : List UInt8 × Int) : eqF (fieldA f) (fieldA g) = decide (f = g) := by
  obtain ⟨s, k⟩ := f
  obtain ⟨s', k'⟩ := g
  show (((⟨⟨s⟩⟩ : ByteArray) == ⟨⟨s'⟩⟩) && (k == k')) = _
  have e3 : ((⟨⟨s⟩⟩ : ByteArray) == ⟨⟨s'⟩⟩) = (s == s') := by
    show ((⟨s⟩ : Array UInt8) == ⟨s'⟩) = (s == s')
    simp
  rw [e3]
  by_cases h1 : s = s' <;> by_cases h2 : k = k' <;> simp [h1, h2]

theorem hasR_of {f : List UInt8 × Int} : ∀ {fs : List (List UInt8 × Int)} {K : Bool → Prop}, K (decide (f ∈ fs)) → hasR f fs K
  | [], K, h => by
    have e : decide (f ∈ ([] : List (List UInt8 × Int))) = false := by simp
    rw [e] at h
    exact h
  | g :: fs, K, h => by
    refine ⟨eq102_ok f g, bothQ_of (fun he => ?_) fun he => hasR_of ?_⟩
    · rw [eqF_iff] at he
      have : f = g := of_decide_eq_true he
      have e : decide (f ∈ g :: fs) = true := decide_eq_true (by rw [this]; exact List.mem_cons_self)
      rwa [e] at h
    · rw [eqF_iff] at he
      have hne : f ≠ g := of_decide_eq_false he
      have e : decide (f ∈ g :: fs) = decide (f ∈ fs) := by
        apply decide_eq_decide.2
        simp [hne]
      rwa [e] at h

theorem contains_ends (f : List UInt8 × Int) {fs : List (List UInt8 × Int)} (h : fs.length ≤ 6) : ToEndV 100 73 [listC fs, fieldA f] (.ret (.sc (.bool (decide (f ∈ fs))))) := by
  match fs, h with
  | [], _ => exact ToEndV.of (tree73_0 f _) (hasR_of rfl)
  | [a], _ => exact ToEndV.of (tree73_1 f a _) (hasR_of rfl)
  | [a, b], _ => exact ToEndV.of (tree73_2 f a b _) (hasR_of rfl)
  | [a, b, c], _ => exact ToEndV.of (tree73_3 f a b c _) (hasR_of rfl)
  | [a, b, c, d], _ => exact ToEndV.of (tree73_4 f a b c d _) (hasR_of rfl)
  | [a, b, c, d, e], _ => exact ToEndV.of (tree73_5 f a b c d e _) (hasR_of rfl)
  | [a, b, c, d, e, g], _ => exact ToEndV.of (tree73_6 f a b c d e g _) (hasR_of rfl)
  | _ :: _ :: _ :: _ :: _ :: _ :: _ :: _, h => simp at h

/-- Where a name stands. -/
def placeOf (nm : List UInt8) : List (List UInt8 × Int) → Nat → Int
  | [], _ => -1
  | g :: fs, i => if g.1 = nm then i else placeOf nm fs (i + 1)

theorem eqBytes_iff : ∀ (a b : List UInt8), eqBytes a b = decide (a = b)
  | [], [] => rfl
  | [], b :: y => by simp [eqBytes]
  | a :: x, [] => by simp [eqBytes]
  | a :: x, b :: y => by
    unfold eqBytes
    split
    · rename_i e
      have := UInt8.toNat_inj.1 (Nat.eq_of_beq_eq_true e)
      rw [eqBytes_iff x y]
      simp [this]
    · rename_i e
      have hne : a ≠ b := fun h => by rw [h] at e; simp at e
      simp [hne]

theorem atR_of {nm : List UInt8} : ∀ {fs : List (List UInt8 × Int)} {i : Nat} {K : Int → Prop}, K (placeOf nm fs i) → atR nm fs i K
  | [], i, K, h => h
  | g :: fs, i, K, h => by
    refine bothQ_of (fun he => ?_) fun he => atR_of ?_
    · rw [eqBytes_iff] at he
      simp only [placeOf, if_pos (of_decide_eq_true he)] at h
      exact h
    · rw [eqBytes_iff] at he
      simp only [placeOf, if_neg (of_decide_eq_false he)] at h
      exact h

theorem at_ends (sn nm : List UInt8) {fs : List (List UInt8 × Int)} (h : fs.length ≤ 6) : ToEndV 100 45 [.agg [strN sn, listC fs], strN nm] (.ret (intN (placeOf nm fs 0))) := by
  match fs, h with
  | [], _ => exact ToEndV.of (tree45_0 sn nm _) (atR_of rfl)
  | [a], _ => exact ToEndV.of (tree45_1 sn nm a _) (atR_of rfl)
  | [a, b], _ => exact ToEndV.of (tree45_2 sn nm a b _) (atR_of rfl)
  | [a, b, c], _ => exact ToEndV.of (tree45_3 sn nm a b c _) (atR_of rfl)
  | [a, b, c, d], _ => exact ToEndV.of (tree45_4 sn nm a b c d _) (atR_of rfl)
  | [a, b, c, d, e], _ => exact ToEndV.of (tree45_5 sn nm a b c d e _) (atR_of rfl)
  | [a, b, c, d, e, g], _ => exact ToEndV.of (tree45_6 sn nm a b c d e g _) (atR_of rfl)
  | _ :: _ :: _ :: _ :: _ :: _ :: _ :: _, h => simp at h

/-! ### the closures -/

abbrev Fld := List UInt8 × Int
/-- A stream: its name, its fields. -/
abbrev Strm := List UInt8 × List Fld
def rowT (s : Strm) : List AV := [strN s.1, listC s.2]

theorem listC_data (fs : List Fld) : isData (listC fs) = true := by
  cases fs <;> rfl

theorem c72 (sn : List UInt8) (f : Fld) {fs : List Fld} (h : fs.length ≤ 6) : ToEndV 140 72 [.agg [strN sn, listC fs], .rp (fieldRow f.1 f.2) 0] (.ret (.sc (.bool (decide (f ∉ fs))))) := by
  have hc := (contains_ends f h).mono (m := 100 + 37) (by omega)
  have key : has73 (100 + 37) (listC fs) (fieldRow f.1 f.2) (fun b => bothQ b (CRes.ret (.sc (.bool false)) = .ret (.sc (.bool (decide (f ∉ fs))))) (CRes.ret (.sc (.bool true)) = .ret (.sc (.bool (decide (f ∉ fs)))))) := by
    refine ⟨⟨listC_data fs, rfl⟩, _, hc, bothQ_of (fun hm => ?_) fun hm => ?_⟩
    · have : f ∈ fs := of_decide_eq_true hm
      rw [decide_eq_false (by simpa using this)]
    · have : f ∉ fs := of_decide_eq_false hm
      rw [decide_eq_true this]
  cases fs with
  | nil => exact ToEndV.ofC (tree72b 100 sn f.1 f.2 _) key
  | cons g fs => exact ToEndV.ofC (tree72a 100 sn f.1 f.2 (rowsC (g :: fs)) none _) key

/-- Is a field missing in one of these? -/
def missing (f : Fld) (rest : List Strm) : Bool := rest.any fun s => decide (f ∉ s.2)

theorem missR_of {n : Nat} (hn : 140 ≤ n) {f : Fld} : ∀ {rest : List Strm} {K : Bool → Prop}, (∀ s ∈ rest, s.2.length ≤ 6) → K (missing f rest) → missR n (fieldRow f.1 f.2) (rest.map fun s => (s.1, listC s.2)) K
  | [], K, _, h => h
  | s :: rest, K, hl, h => by
    refine ⟨by simp [isDataL, strN, isData, listC_data], _, (c72 s.1 f (hl s (by simp))).mono hn, bothQ_of (fun hm => ?_) fun hm => missR_of hn (fun t ht => hl t (by simp [ht])) ?_⟩
    · unfold missing at h
      rw [List.any_cons, hm] at h
      simpa using h
    · unfold missing at h
      rw [List.any_cons, hm] at h
      simpa [missing] using h

theorem c70 (f : Fld) {s : Strm} {rest : List Strm} (hr : rest.length ≤ 3) (hl : ∀ t ∈ rest, t.2.length ≤ 6) (cap : Option Nat) : ToEndV 160 70 [fieldA f, .rp [.ro 2 ((s :: rest).map rowT) cap] 0] (.ret (.sc (.bool (missing f rest)))) := by
  match rest, hr, hl with
  | [], _, hl => exact ToEndV.ofC (tree70_1 100 f.1 f.2 (s.1, listC s.2) cap _) (missR_of (rest := []) (by omega) hl rfl)
  | [a], _, hl => exact ToEndV.ofC (tree70_2 100 f.1 f.2 (s.1, listC s.2) (a.1, listC a.2) cap _) (missR_of (rest := [a]) (by omega) hl rfl)
  | [a, b], _, hl => exact ToEndV.ofC (tree70_3 100 f.1 f.2 (s.1, listC s.2) (a.1, listC a.2) (b.1, listC b.2) cap _) (missR_of (rest := [a, b]) (by omega) hl rfl)
  | [a, b, c], _, hl => exact ToEndV.ofC (tree70_4 100 f.1 f.2 (s.1, listC s.2) (a.1, listC a.2) (b.1, listC b.2) (c.1, listC c.2) cap _) (missR_of (rest := [a, b, c]) (by omega) hl rfl)
  | _ :: _ :: _ :: _ :: _, hr, _ => simp at hr

/-! ### check.Common -/

/-- A call over plain data comes to this: a plain value, or one whose slices are frozen. -/
structure ToEndY (n : Nat) (f : FuncId) (args : List AV) (v : AV) : Prop where
  ex : ∃ u H1, call CV n f args [] = some (.ret u, H1) ∧ ((isScalar u = true ∧ u = v) ∨ (isScalar u = false ∧ frz H1 u = some v))

theorem ToEndY.mono {n m : Nat} {f : FuncId} {args : List AV} {v : AV} (h : ToEndY n f args v) (hm : n ≤ m) : ToEndY m f args v := by
  obtain ⟨u, H1, h, h2⟩ := h
  exact ⟨u, H1, call_mono hm h, h2⟩

theorem ToEndY.ofC {D : Con CV} {S : Script} {n : Nat} {f : FuncId} {args : List AV} {v : AV} {p : Prop} (h : callPC CV D S n f args [] (resY fun v' => v' = v) = p) (hp : p) : ToEndY n f args v := by
  obtain ⟨⟨r', H1⟩, hr, hk⟩ := byTree h hp
  unfold resY at hk
  simp only at hk
  split at hk
  · rename_i u
    split at hk
    · rename_i hs
      exact ⟨u, H1, hr, .inl ⟨hs, hk⟩⟩
    · rename_i hs
      split at hk
      · rename_i v' hf
        subst hk
        exact ⟨u, H1, hr, .inr ⟨hs, hf⟩⟩
      · exact hk.elim
  · exact hk.elim

theorem delR_of {n1 n2 : Nat} (h1 : 160 ≤ n1) (h2 : 160 ≤ n2) {row : List AV} {rest : List Strm} (hc : ∀ f : Fld, ToEndV 160 70 [fieldA f, .rp row 0] (.ret (.sc (.bool (missing f rest))))) : ∀ {fs : List Fld} {found : Bool} {kept : List Fld} {K : List Fld → Prop},
    K (kept ++ fs.filter fun f => !missing f rest) → delR n1 n2 row K fs found kept
  | [], found, kept, K, h => by simpa [delR] using h
  | f :: fs, found, kept, K, h => by
    refine ⟨rfl, _, (hc f).mono (by cases found <;> assumption), bothQ_of (fun hm => delR_of h1 h2 hc ?_) fun hm => delR_of h1 h2 hc ?_⟩
    · rw [List.filter_cons, hm] at h
      simpa using h
    · rw [List.filter_cons, hm] at h
      simpa using h

/-- What all have. -/
def commonT (s : Strm) (rest : List Strm) : List Fld := s.2.filter fun f => !missing f rest
/-- As it comes back. -/
def backT (s : Strm) (rest : List Strm) : AV := match s.2 with
  | [] => .sc (.slice none 0 0)
  | _ :: _ => .ro 2 (rowsC (commonT s rest)) none

theorem common_ends {s : Strm} {rest : List Strm} (hs : s.2.length ≤ 6) (hr : rest.length ≤ 3) (hl : ∀ t ∈ rest, t.2.length ≤ 6) (cap : Option Nat) : ToEndY 200 44 [.ro 2 ((s :: rest).map rowT) cap] (backT s rest) := by
  have hlen : ((((rest.map rowT).length + 1 : Nat) : Int) == 0) = false := by
    have : ¬ (((rest.map rowT).length + 1 : Nat) : Int) = 0 := by omega
    simpa using this
  have key : ∀ {K : List Fld → Prop}, K (commonT s rest) → delR (100 + 81) (100 + 83) [.ro 2 ((s :: rest).map rowT) cap] K s.2 false [] := fun hK =>
    delR_of (by omega) (by omega) (fun f => c70 f hr hl cap) hK
  obtain ⟨sn, fs⟩ := s
  match fs, hs with
  | [], _ => exact ToEndY.ofC (tree44_0 100 sn (rest.map rowT) cap _) ⟨hlen, rfl⟩
  | [a], _ => exact ToEndY.ofC (tree44_1 100 sn a (rest.map rowT) cap _) ⟨hlen, key rfl⟩
  | [a, b], _ => exact ToEndY.ofC (tree44_2 100 sn a b (rest.map rowT) cap _) ⟨hlen, key rfl⟩
  | [a, b, c], _ => exact ToEndY.ofC (tree44_3 100 sn a b c (rest.map rowT) cap _) ⟨hlen, key rfl⟩
  | [a, b, c, d], _ => exact ToEndY.ofC (tree44_4 100 sn a b c d (rest.map rowT) cap _) ⟨hlen, key rfl⟩
  | [a, b, c, d, e], _ => exact ToEndY.ofC (tree44_5 100 sn a b c d e (rest.map rowT) cap _) ⟨hlen, key rfl⟩
  | [a, b, c, d, e, g], _ => exact ToEndY.ofC (tree44_6 100 sn a b c d e g (rest.map rowT) cap _) ⟨hlen, key rfl⟩
  | _ :: _ :: _ :: _ :: _ :: _ :: _ :: _, h => simp at h

end Go.Ai.Cm
