/-
  '==' OF STRUCTS OF UNKNOWN NUMBERS, without memory.
-/
import Derived.Test.YtndloeajkfajnaaAiBinds
import Derived.Laws.StructEq
set_option linter.unusedVariables false
set_option linter.unusedSimpArgs false
namespace Go.Ai
open Go.Proofs

theorem pureRun_bind {α β : Type} (P : Program) (k : α → Sem β) : ∀ (s : Sem α) , pureRun P (s.bind k) = (pureRun P s).bind fun a => pureRun P (k a)
  | .pure a => rfl
  | .program f => by simp only [Sem.bind, pureRun]; exact pureRun_bind P k (f P)
  | .mark m f => by simp only [Sem.bind, pureRun]; exact pureRun_bind P k f
  | .load .. => rfl
  | .store .. => rfl
  | .new .. => rfl
  | .shape .. => rfl
  | .freeze .. => rfl
  | .frozen .. => rfl
  | .getObj .. => rfl
  | .setObj .. => rfl
  | .choose .. => rfl
  | .sys .. => rfl
  | .halt .. => rfl

theorem pureRun_bind' {α β : Type} (P : Program) (k : α → Sem β) (s : Sem α) : pureRun P (s >>= k) = (pureRun P s).bind fun a => pureRun P (k a) := pureRun_bind P k s
theorem pureRun_pure {α : Type} (P : Program) (a : α) : pureRun P (pure a) = some a := rfl
theorem pureRun_program (P : Program) : pureRun P program = some P := rfl
theorem pureRun_ite {α : Type} (P : Program) (c : Prop) [Decidable c] (a b : Sem α) : pureRun P (if c then a else b) = if c then pureRun P a else pureRun P b := by split <;> rfl

theorem pure_underlying {P : Program} {t : TypeId} {d : TypeDesc} (h : P.underlying t = some d) : pureRun P (underlying t) = some d := by
  unfold underlying
  rw [pureRun_bind', pureRun_program]
  simp only [Option.bind_some, h]
  rfl

theorem pure_equal_int {P : Program} {t : TypeId} {k : IntKind} (d : Nat) (a b : Int) (h : P.underlying t = some (.int k)) : pureRun P (Op.equalIn (d + 1) t (.int k a) (.int k b)) = some (a == b) := by
  unfold Op.equalIn
  rw [pureRun_bind', pure_underlying h]
  simp [pureRun_pure]

theorem pure_equal_string {P : Program} {t : TypeId} (d : Nat) (a b : ByteArray) (h : P.underlying t = some .string) : pureRun P (Op.equalIn (d + 1) t (.string a) (.string b)) = some (a == b) := by
  unfold Op.equalIn
  rw [pureRun_bind', pure_underlying h]
  simp [pureRun_pure]

theorem pure_equal_struct {P : Program} (d : Nat) (t : TypeId) (fs : Array Field) (xs ys : Array Value) (ht : P.underlying t = some (.struct fs)) (hp : P.stoodInHeld t = false) :
    pureRun P (Op.equalIn (d + 1) t (.agg xs) (.agg ys)) = pureRun P (Op.eqFields d xs ys fs.toList) := by
  unfold Op.equalIn
  rw [pureRun_bind', pure_underlying ht]
  simp only [Option.bind_some, pureRun_bind', pureRun_program, hp, Bool.false_eq_true, if_false]
  rw [← Array.forIn_toList]
  generalize fs.toList = l
  induction l with
  | nil => simp [Op.eqFields, pureRun_pure]
  | cons f l ih =>
    simp only [List.forIn_cons, Op.eqFields, pureRun_bind', pureRun_ite] at ih ⊢
    split
    · generalize pureRun P (part f.type xs f.offset) = r1
      cases r1 with
      | none => simp
      | some a =>
        generalize pureRun P (part f.type ys f.offset) = r2
        cases r2 with
        | none => simp
        | some b =>
          simp only [Option.bind_some]
          generalize pureRun P (Op.equalIn d f.type a b) = r3
          cases r3 with
          | none => simp
          | some r =>
            cases r
            · simp [pureRun_pure]
            · simp only [Option.bind_some, Bool.not_true, Bool.false_eq_true, if_false, pureRun_pure]
              exact ih
    · simp only [pureRun_pure, Option.bind_some]
      exact ih

def valV (k n : Int) (s : ByteArray) : Value := .agg #[.int .i64 k, .int .i64 n, .string s]

theorem val_equal (k n k' n' : Int) (s s' : ByteArray) : pureRun Try.prog (Op.equal 23 (valV k n s) (valV k' n' s')) = some ((k == k') && ((n == n') && (s == s'))) := by
  unfold Op.equal valV
  rw [show Op.maxDepth = 9998 + 1 + 1 from rfl, pure_equal_struct _ _ _ _ _ Try.underlying23 (by kernel_rfl)]
  have p0 : ∀ xs : Array Value, ∀ x, xs[0]? = some x → pureRun Try.prog (part 3 xs 0) = some x := by
    intro xs x h
    unfold part
    rw [pureRun_bind', show pureRun Try.prog (isAgg 3) = some false by kernel_rfl]
    simp only [Option.bind_some, Bool.false_eq_true, if_false, h]
    rfl
  have p1 : ∀ xs : Array Value, ∀ x, xs[1]? = some x → pureRun Try.prog (part 2 xs 1) = some x := by
    intro xs x h
    unfold part
    rw [pureRun_bind', show pureRun Try.prog (isAgg 2) = some false by kernel_rfl]
    simp only [Option.bind_some, Bool.false_eq_true, if_false, h]
    rfl
  have p2 : ∀ xs : Array Value, ∀ x, xs[2]? = some x → pureRun Try.prog (part 9 xs 2) = some x := by
    intro xs x h
    unfold part
    rw [pureRun_bind', show pureRun Try.prog (isAgg 9) = some false by kernel_rfl]
    simp only [Option.bind_some, Bool.false_eq_true, if_false, h]
    rfl
  simp only [Op.eqFields, pureRun_bind', pureRun_ite, pureRun_pure]
  rw [p0 #[.int .i64 k, .int .i64 n, .string s] (.int .i64 k) rfl, p0 #[.int .i64 k', .int .i64 n', .string s'] (.int .i64 k') rfl, p1 #[.int .i64 k, .int .i64 n, .string s] (.int .i64 n) rfl,
    p1 #[.int .i64 k', .int .i64 n', .string s'] (.int .i64 n') rfl, p2 #[.int .i64 k, .int .i64 n, .string s] (.string s) rfl, p2 #[.int .i64 k', .int .i64 n', .string s'] (.string s') rfl]
  simp only [Option.bind_some]
  rw [pure_equal_int _ _ _ Try.underlying3, pure_equal_int _ _ _ Try.underlying2, pure_equal_string _ _ _ Try.underlying9]
  simp only [Option.bind_some]
  cases (k == k') <;> cases (n == n') <;> cases (s == s') <;> simp

def valA (k n : Int) (s : ByteArray) : AV := .agg [.sc (.int .i64 k), .sc (.int .i64 n), .sc (.string s)]

/-- What two values that may not be known are. -/
theorem bin_equal (k n k' n' : Int) (s s' : ByteArray) (o1 o2 : Operand) : binA Try.prog .eql 23 o1 o2 (valA k n s) (valA k' n' s') = some (.sc (.bool ((k == k') && ((n == n') && (s == s'))))) := by
  have e : binA Try.prog .eql 23 o1 o2 (valA k n s) (valA k' n' s') = (pureRun Try.prog (do eqGuard .eql 23 o1 o2 (valV k n s) (valV k' n' s'); binOp .eql 23 (valV k n s) (valV k' n' s'))).map absV := by kernel_rfl
  rw [e, pureRun_bind', show pureRun Try.prog (eqGuard .eql 23 o1 o2 (valV k n s) (valV k' n' s')) = some () by kernel_rfl]
  simp only [Option.bind_some]
  have e2 : binOp .eql 23 (valV k n s) (valV k' n' s') = Sem.bind (Op.equal 23 (valV k n s) (valV k' n' s')) fun r => Sem.pure (.bool r) := by kernel_rfl
  rw [e2, pureRun_bind, val_equal]
  rfl

end Go.Ai
