/-
  READING AND WRITING MEMORY: what the abstract heap says that a load or a store does, the world does.
-/
import Derived.Test.YtndloeajkfajnaaAiVal
import Derived.Laws.MakeOwn
set_option linter.unusedVariables false
namespace Go.Ai

theorem addr_add (B o j : Nat) : (⟨B, o, none⟩ : Addr).add j = ⟨B, o + j, none⟩ := by
  unfold Addr.add; split <;> simp_all

section
variable {P : Program}

theorem run_sizeOf {t n : Nat} (h : szT P t = some n) (w : World) : (sizeOf t).run P w = .ok n w := by
  simp only [szT, Option.map_eq_some_iff] at h
  obtain ⟨i, hi, rfl⟩ := h
  simp [sizeOf, typeInfo, hi]

theorem run_isAgg {t : Nat} {b : Bool} (h : aggT P t = some b) (w : World) : (isAgg t).run P w = .ok b w := by
  unfold aggT at h
  unfold isAgg
  cases hu : P.underlying t with
  | none => rw [hu] at h; cases h
  | some d =>
    rw [hu] at h
    rw [Sem.run_bind, run_underlying hu w]
    cases d <;> simp_all

theorem run_zeroValue {t : Nat} {z : Value} (h : zeroT P t = some z) (w : World) : (zeroValue t).run P w = .ok z w := by
  simp only [zeroT, Option.bind_eq_some_iff] at h
  obtain ⟨i, hi, hz⟩ := h
  simp [zeroValue, typeInfo, hi, hz]

variable {im : Nat → Nat → Prop} {w : World} {E : Env}

/-- Cells that stand at a place. -/
def At (im : Nat → Nat → Prop) (w : World) (E : Env) (B o : Nat) (row : List AV) : Prop :=
  ∀ j c, row[j]? = some c → ∃ x, w.cell? ⟨B, o + j, none⟩ = some x ∧ x.oneCell' = true ∧ V im w c E x

theorem At.list {B o : Nat} {row : List AV} (h : At im w E B o row) : ∃ xs : List Value, VL im w row E xs ∧ ∀ (j : Nat) (x : Value), xs[j]? = some x → w.cell? ⟨B, o + j, none⟩ = some x ∧ x.oneCell' = true := by
  induction row generalizing o with
  | nil => exact ⟨[], by simp [VL], by simp⟩
  | cons c row ih =>
    obtain ⟨xs, h1, h2⟩ := ih (o := o + 1) (fun j d hd => by
      have := h (j + 1) d (by simpa using hd)
      rw [show o + 1 + j = o + (j + 1) from by omega]; exact this)
    obtain ⟨x, hx, h1c, hv⟩ := h 0 c (by simp)
    refine ⟨x :: xs, by simp only [VL]; exact ⟨x, xs, rfl, hv, h1⟩, fun j y hy => ?_⟩
    cases j with
    | zero => simp only [List.getElem?_cons_zero, Option.some.injEq] at hy; subst hy; exact ⟨hx, h1c⟩
    | succ j =>
      have := h2 j y (by simpa using hy)
      rw [show o + (j + 1) = o + 1 + j from by omega]; exact this

theorem At.sub {B o : Nat} {row : List AV} (h : At im w E B o row) (n m : Nat) : At im w E B (o + n) ((row.drop n).take m) := by
  intro j c hc
  rw [List.getElem?_take] at hc
  split at hc
  · rw [List.getElem?_drop] at hc
    have := h (n + j) c hc
    rwa [← Nat.add_assoc] at this
  · cases hc

theorem loadVar_sound {t B o off : Nat} {row : List AV} {v : AV} (h : At im w E B o row) (hv : takeT P t row off = some v) :
    ∃ x, (loadVar t ⟨B, o + off, none⟩).run P w = .ok x w ∧ V im w v E x := by
  unfold takeT at hv
  split at hv
  · rename_i n ha hn
    split at hv
    · rename_i hle
      cases hv
      obtain ⟨xs, h1, h2⟩ := (h.sub off n).list
      have hlen : xs.length = n := by rw [VL_length h1]; simp; omega
      have hl := run_loadCells_list (P := P) w ⟨B, o + off, none⟩ xs (fun j x hx => by rw [addr_add]; exact (h2 j x hx).1)
      rw [hlen] at hl
      refine ⟨.agg xs.toArray, ?_, ?_⟩
      · simp [loadVar, run_isAgg ha, run_sizeOf hn, hl]
      · simp only [V]; exact ⟨_, rfl, by simpa using h1⟩
    · cases hv
  · rename_i ha hn
    obtain ⟨x, hx, _, hvx⟩ := h off v hv
    exact ⟨x, by simp [loadVar, run_isAgg ha, hx], hvx⟩
  · cases hv

theorem splice_get {α : Type} (l : List α) (p : Nat) (vs : List α) (h : p + vs.length ≤ l.length) (q : Nat) :
    (l.take p ++ vs ++ l.drop (p + vs.length))[q]? = if p ≤ q ∧ q < p + vs.length then vs[q - p]? else l[q]? := by
  have hp : (l.take p).length = p := by simp; omega
  by_cases h1 : q < p
  · rw [List.append_assoc, List.getElem?_append_left (by omega), List.getElem?_take, if_pos h1, if_neg (by omega)]
  · rw [List.append_assoc, List.getElem?_append_right (by omega), hp]
    by_cases h2 : q < p + vs.length
    · rw [List.getElem?_append_left (by omega), if_pos ⟨by omega, h2⟩]
    · rw [List.getElem?_append_right (by omega), List.getElem?_drop, if_neg (by omega)]
      congr 1
      omega

theorem putRow_get (row : List AV) (off : Nat) (cs : List AV) (h : off + cs.length ≤ row.length) (q : Nat) :
    (putRow row off cs)[q]? = if off ≤ q ∧ q < off + cs.length then cs[q - off]? else row[q]? := splice_get row off cs h q

theorem putRow_length (row : List AV) (off : Nat) (cs : List AV) (h : off + cs.length ≤ row.length) : (putRow row off cs).length = row.length := by
  simp [putRow]; omega

theorem oneCell_of_single {c : AV} {x : Value} (h : single c = true) (hv : V im w c E x) : x.oneCell' = true := by
  obtain ⟨h1, h2, _⟩ := V_single h hv
  cases x <;> simp [Value.oneCell']
  · exact (h1 _ rfl).elim
  · exact (h2 _ rfl).elim

theorem VL_mem {cs : List AV} {xs : List Value} (h : VL im w cs E xs) {x : Value} (hx : x ∈ xs) : ∃ c, c ∈ cs ∧ V im w c E x := by
  obtain ⟨i, hi, rfl⟩ := List.getElem_of_mem hx
  have hi' : i < cs.length := by rw [VL_length h] at hi; exact hi
  obtain ⟨y, hy, hv⟩ := VL_get h (List.getElem?_eq_getElem hi')
  rw [List.getElem?_eq_getElem hi] at hy
  cases hy
  exact ⟨cs[i], List.getElem_mem hi', hv⟩

theorem Still.setRow {w : World} {B : Nat} {cs old : Array Value} {t : TypeId} (h : w.heap[B]? = some (.cells old t (0, 0))) : Still w (w.setRow B cs) :=
  Still.of_one ⟨rfl, rfl⟩ rfl (B := B) (fun x hx => setRow_other w B x _ hx) (by rw [h]; rfl) (by rw [setRow_heap _ _ _ _ _ _ h]; rfl)

/-- An own block of cells. -/
theorem HRel.own {X H} (h : HRel X E H w) {b size g : Nat} {es : List (List AV)} {fz : Bool} (hb : H[b]? = some (.cells size g es fz)) (he : ∃ l, E b = some l) :
    ∃ l C t, E b = some l ∧ l.live = true ∧ l.g = g ∧ l.size = size ∧ es.length ≤ l.K ∧
      w.heap[l.B]? = some (.cells C t (0, 0)) ∧ l.o + l.K * size ≤ C.size ∧ RowsIn (Im X E H w) w E C l.o size es := by
  have hB := h.blk b _ hb
  obtain ⟨l0, he⟩ := he
  rcases hB with hB | ⟨l, C, t, h1, h2⟩
  · rw [hB] at he; cases he
  exact ⟨l, C, t, h1, h2⟩

theorem V_ptr_has {b g i off : Nat} {x : Value} (h : V im w (.ptr b g i off) E x) : ∃ l, E b = some l := by
  simp only [V] at h
  obtain ⟨l, _, h, _⟩ := h
  exact ⟨l, h⟩

theorem V_sl_has {b g start len : Nat} {cap : Option Nat} {x : Value} (h : V im w (.sl b g start len cap) E x) : ∃ l, E b = some l := by
  simp only [V] at h
  obtain ⟨l, _, _, h, _⟩ := h
  exact ⟨l, h⟩

theorem RowsIn.at {C : Array Value} {o size B i : Nat} {t : TypeId} {fr : Nat × Nat} {es : List (List AV)} {row : List AV} (h : RowsIn im w E C o size es) (hB : w.heap[B]? = some (.cells C t fr)) (hr : es[i]? = some row) :
    At im w E B (o + i * size) row := by
  intro j c hc
  obtain ⟨x, hx, h1, hv⟩ := (h i row hr).2 j c hc
  exact ⟨x, by simp [World.cell?, hB, hx], h1, hv⟩

theorem loadA_sound {X H} (h : HRel X E H w) {t : Nat} {a v : AV} {x : Value} (ha : V (Im X E H w) w a E x) (hv : loadA P H t a = some v) :
    ∃ y, (Instr.loadAt t x).run P w = .ok y w ∧ V (Im X E H w) w v E y := by
  unfold loadA at hv
  split at hv
  · rename_i b g i off
    split at hv
    · rename_i size g' es fz hk
      split at hv
      · rename_i hg
        subst hg
        simp only [Option.bind_eq_some_iff] at hv
        obtain ⟨row, hr, hv⟩ := hv
        obtain ⟨l, C, t0, hE, hl, hg, hs, hK, hh, hC, hR⟩ := h.own hk (V_ptr_has ha)
        simp only [V] at ha
        obtain ⟨l', a, hE', _, rfl, hpl⟩ := ha
        rw [hE] at hE'
        cases hE'
        rw [hpl hl hg, hs]
        obtain ⟨y, h1, h2⟩ := loadVar_sound (P := P) (hR.at hh hr) hv
        exact ⟨y, by simpa [Instr.loadAt, Instr.sureAddr] using h1, h2⟩
      · cases hv
    · cases hv
  · rename_i row off
    simp only [V] at ha
    obtain ⟨B, o, rfl, hR⟩ := ha
    have hat : At (Im X E H w) w noE B o row := fun j c hc => by
      obtain ⟨_, y, h1, h2⟩ := VR_get hR hc
      exact ⟨y, h1, h2⟩
    obtain ⟨y, h1, h2⟩ := loadVar_sound (P := P) hat hv
    exact ⟨y, by simpa [Instr.loadAt, Instr.sureAddr] using h1, V_mono (fun _ _ h => ⟨h, rfl⟩) v (Le.none E) h2⟩
  · cases hv

theorem upd_self {b : Nat} {l : LB} (h : E b = some l) : upd E b l = E := by
  funext x
  by_cases e : x = b
  · subst e; rw [upd_same, h]
  · rw [upd_ne _ _ e]

theorem storeA_sound {X H H'} (h : HRel X E H w) {t : Nat} {a v : AV} {x y : Value} (ha : V (Im X E H w) w a E x) (hy : V (Im X E H w) w v E y)
    (hv : storeA P H t a v = some H') : ∃ w', (Instr.storeAt t x y).run P w = .ok () w' ∧ HRel X E H' w' ∧ Step X E H w E H' w' := by
  unfold storeA at hv
  split at hv
  · rename_i b g i off cs n hcs hn
    split at hv
    · rename_i size g' es hk
      split at hv
      · rename_i row hr
        split at hv
        · rename_i hc
          obtain ⟨rfl, hlen, hle⟩ := hc
          cases hv
          obtain ⟨l, C, t0, hE, hl, hg, hs, hK, hh, hC, hR⟩ := h.own hk (V_ptr_has ha)
          simp only [V] at ha
          obtain ⟨l', a, hE', _, rfl, hpl⟩ := ha
          rw [hE] at hE'
          cases hE'
          rw [hpl hl hg, hs]
          obtain ⟨hvl, hsg⟩ := V_cells hcs hy
          have hyl : y.cells.toList.length = n := by rw [VL_length hvl, hlen]
          have hrow := (hR i row hr).1
          have hi : i < es.length := by
            rcases Nat.lt_or_ge i es.length with h1 | h1
            · exact h1
            · rw [List.getElem?_eq_none h1] at hr; cases hr
          have hfit : l.o + i * size + off + y.cells.toList.length ≤ C.size := by
            have h1 : (i + 1) * size ≤ l.K * size := Nat.mul_le_mul_right _ (by omega)
            rw [Nat.add_mul] at h1
            omega
          have hst := run_storeCells_at P l.B (l.o + i * size + off) t0 y.cells.toList 0 C w hh (by simpa using hfit) (fun u hu => by
            obtain ⟨c, hc, hcv⟩ := VL_mem hvl hu
            exact oneCell_of_single (hsg c hc) hcv)
          simp only [Nat.add_zero] at hst
          have hrun : (Instr.storeAt t (.pointer (some ⟨l.B, l.o + i * size + off, none⟩)) y).run P w = .ok () (w.setRow l.B (C.toList.take (l.o + i * size + off) ++ y.cells.toList ++ C.toList.drop (l.o + i * size + off + y.cells.toList.length)).toArray) := by
            have h2 : ¬ (y.cells.size ≠ n) := by simpa using hyl
            simp [Instr.storeAt, Instr.sureAddr, storeVar, run_sizeOf hn, h2, hst]
          refine ⟨_, hrun, ?_⟩
          generalize hC' : C.toList.take (l.o + i * size + off) ++ y.cells.toList ++ C.toList.drop (l.o + i * size + off + y.cells.toList.length) = C' at *
          have hget : ∀ q : Nat, C'[q]? = if l.o + i * size + off ≤ q ∧ q < l.o + i * size + off + n then y.cells.toList[q - (l.o + i * size + off)]? else C[q]? := by
            intro q
            rw [← hC', splice_get _ _ _ (by simpa using hfit), hyl, Array.getElem?_toList (xs := C)]
          have hlenC : C'.length = C.size := by rw [← hC']; simp at hfit ⊢; omega
          have hT : Turn X E H w b (.cells size g (es.set i (putRow row off cs)) false) l (w.setRow l.B C'.toArray) :=
            { live := hl, still := Still.setRow hh, size := by simp, place := .inr ⟨l, hE, hl, rfl⟩,
              other := fun B hB hn => setRow_other w l.B B _ fun e => hn l hE hl e.symm
              ed := fun l0 h0 => by rw [hE] at h0; cases h0; exact ⟨Nat.le_refl _, fun _ => ⟨hl, rfl, rfl, rfl, rfl⟩⟩
              zone := fun l0 h0 _ size' g' es' hk' => by rw [hk] at hk'; cases hk'
              cell := fun l0 h0 _ size' g' es' hk' => by rw [hk] at hk'; cases hk' }
          have hP : Put H b (.cells size g (es.set i (putRow row off cs)) false) (H.set b (.cells size g (es.set i (putRow row off cs)) false)) := Put.set hk
          have him := hT.im h hP
          have hres := h.turn hP hT (h.xs b l hE hl) (by
            refine .inr ⟨l, C'.toArray, t0, rfl, hl, hg, hs, by simpa using hK, setRow_heap w l.B C _ t0 _ hh, by rw [List.size_toArray, hlenC]; exact hC, ?_⟩
            intro i' row' hr'
            rw [List.getElem?_set] at hr'
            by_cases e : i = i'
            · subst e
              rw [if_pos rfl, if_pos hi] at hr'
              cases hr'
              refine ⟨by rw [putRow_length _ _ _ (by omega)]; exact hrow, fun j c hc => ?_⟩
              rw [putRow_get _ _ _ (by omega)] at hc
              have hq := hget (l.o + i * size + j)
              simp only [List.getElem?_toArray]
              by_cases hj : off ≤ j ∧ j < off + cs.length
              · rw [if_pos hj] at hc
                rw [if_pos (by omega)] at hq
                obtain ⟨z, hz, hzv⟩ := VL_get hvl hc
                refine ⟨z, ?_, oneCell_of_single (hsg c (List.mem_of_getElem? hc)) hzv, V_mono him c hT.le hzv⟩
                rw [hq, show l.o + i * size + j - (l.o + i * size + off) = j - off from by omega]
                exact hz
              · rw [if_neg hj] at hc
                rw [if_neg (by omega)] at hq
                obtain ⟨z, hz, hz1, hzv⟩ := (hR i row hr).2 j c hc
                exact ⟨z, hq.trans hz, hz1, V_mono him c hT.le hzv⟩
            · rw [if_neg e] at hr'
              have h0 := hR i' row' hr'
              refine ⟨h0.1, fun j c hc => ?_⟩
              obtain ⟨z, hz, hz1, hzv⟩ := h0.2 j c hc
              refine ⟨z, ?_, hz1, V_mono him c hT.le hzv⟩
              have hj : j < size := by
                rcases Nat.lt_or_ge j row'.length with h1 | h1
                · omega
                · rw [List.getElem?_eq_none h1] at hc; cases hc
              simp only [List.getElem?_toArray]
              rw [hget, if_neg, hz]
              rcases Nat.lt_or_gt_of_ne e with h1 | h1
              · have : (i + 1) * size ≤ i' * size := Nat.mul_le_mul_right _ h1
                rw [Nat.add_mul] at this
                omega
              · have : (i' + 1) * size ≤ i * size := Nat.mul_le_mul_right _ h1
                rw [Nat.add_mul] at this
                omega)
          rw [upd_self hE] at hres
          exact hres
        · cases hv
      · cases hv
    · cases hv
  · cases hv

end
end Go.Ai
