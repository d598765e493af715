import Derived.Test.YtndloeajkfajnaaAiApp
set_option linter.unusedVariables false
set_option linter.unusedSimpArgs false
namespace Go.Ai
section
variable {P : Program} {X : Nat → Nat → Prop} {E : Env} {H : List Blk} {w : World}

theorem run_append_zero {argTypes : Array TypeId} {ty sT xT e : TypeId} {i : TypeInfo} {xd : TypeDesc} (h0 : argTypes[0]? = some sT) (h1 : argTypes[1]? = some xT)
    (ht : P.underlying sT = some (.slice e)) (hu : P.underlying xT = some xd) (hx : okXD xd = true) (hi : P.info? e = some i)
    (base : Option Addr) (sLen sCap : Nat) (x : Value) (hlen : ∀ w' : World, (Builtin.lenOf x).run P w' = .ok 0 w')
    (hnews : (Builtin.firstCells i.size 0 x).run P w = .ok #[] w) (hfit : sLen ≤ sCap) :
    (Builtin.append_ argTypes ty #[.slice base sLen sCap, x]).run P w = .ok (.slice base sLen sCap) w := by
  unfold Builtin.append_
  simp only [h0, h1]
  have hx' : (∃ e', xd = .slice e') ∨ xd = .string := by cases xd <;> simp [okXD] at hx ⊢
  rcases hx' with ⟨e', rfl⟩ | rfl
  all_goals
    cases base <;> simp [run_underlying ht, run_underlying hu, sizeOf, typeInfo, hi, hlen, hnews, hfit, storeCells]

theorem V_slice_ok {im : Nat → Nat → Prop} {b g start len : Nat} {cap : Option Nat} {x : Value} (hs : V im w (.sl b g start len cap) E x) {l : LB} (hE : E b = some l) (hl : l.live = true) (hg : l.g = g) :
    ∃ a c, x = .slice (some a) len c ∧ len ≤ c ∧ (c = 0 ∨ a = ⟨l.B, l.o + start * l.size, none⟩) ∧ (cap = none → start + c = l.K) ∧ (∀ k, cap = some k → c = k) := by
  simp only [V] at hs
  obtain ⟨l', a, c, hE', _, rfl, hp⟩ := hs
  rw [hE] at hE'
  cases hE'
  obtain ⟨h1, h2, h3⟩ := hp hl hg
  exact ⟨a, c, rfl, h1, h2, fun e => by subst e; exact h3, fun k e => by subst e; exact h3⟩

/-- What stands in a slice of an own block. -/
theorem own_elems (h : HRel X E H w) {size start len : Nat} {es : List (List AV)} {l : LB} {C : Array Value} {t : TypeId} (hs : l.size = size) (hh : w.heap[l.B]? = some (.cells C t (0, 0)))
    (hR : RowsIn (Im X E H w) w E C l.o size es) (hle : start + len ≤ es.length) {a : Addr} {c : Nat} (ha : len = 0 ∨ a = ⟨l.B, l.o + start * l.size, none⟩) :
    ∃ olds : List Value, olds.length = ((es.drop start).take len).length * size ∧ RowsIn (Im X E H w) w E olds.toArray 0 size ((es.drop start).take len) ∧
      ∀ w' : World, w'.heap = w.heap → (Builtin.firstCells size len (.slice (some a) len c)).run P w' = .ok olds.toArray w' := by
  obtain ⟨olds, h1, h2, h3⟩ := rows_list (im := Im X E H w) (w := w) (E := E) (B := l.B) (size := size) (ys := (es.drop start).take len) (o := l.o + start * size) (fun i row hi => by
    have := (RowsIn_sub hR start len)
    exact ⟨(this i row hi).1, this.at hh hi⟩)
  have hlen : ((es.drop start).take len).length = len := by simp; omega
  refine ⟨olds, h1, h2, fun w' hw' => run_firstCells_some (P := P) w' size len a len c olds (by rw [h1, hlen]) fun j v hv => ?_⟩
  have hne : len ≠ 0 := by
    rintro rfl
    simp at h1
    subst h1
    simp at hv
  rw [ha.resolve_left hne, hs, addr_add]
  have := (h3 j v hv).1
  simpa [World.cell?, hw'] using this

theorem appendA_sound (h : HRel X E H w) {at_ : Option Nat} {argTypes : Array TypeId} {s x v : AV} {sv xv : Value} {H' : List Blk} (hs : V (Im X E H w) w s E sv) (hx : V (Im X E H w) w x E xv)
    (hv : appendA P H at_ argTypes s x = some (v, H')) (ty : TypeId) : ∃ r w', (Builtin.append_ argTypes ty #[sv, xv]).run P w = .ok r w' ∧ Good X E H w v H' r w' := by
  unfold appendA at hv
  split at hv
  case h_2 => cases hv
  rename_i sT xT h0 h1
  split at hv
  case h_2 => cases hv
  rename_i elem xd ht hu
  split at hv
  · cases hv
  rename_i hok
  have hok : okXD xd = true := by simpa using hok
  split at hv
  case h_2 => cases hv
  rename_i size bytes zs hsz hby hzs
  split at hv
  · cases hv
  rename_i hpos
  have hp1 : size ≠ 0 := fun e => hpos (.inl e)
  have hp2 : zs = size := Classical.byContradiction fun e => hpos (.inr (.inl e))
  have hp3 : bytes ≠ 0 := fun e => hpos (.inr (.inr e))
  clear hpos
  split at hv
  case h_2 => cases hv
  rename_i ys hys
  obtain ⟨i, hi, hisz, hibytes⟩ : ∃ i, P.info? elem = some i ∧ i.size = size ∧ i.bytes = bytes := by
    simp only [szT, Option.map_eq_some_iff] at hsz hby
    obtain ⟨i, h2, h3⟩ := hsz
    obtain ⟨i', h4, h5⟩ := hby
    rw [h2] at h4
    cases h4
    exact ⟨i, h2, h3, h5⟩
  obtain ⟨z, hz, hzc⟩ : ∃ z, i.zero = some z ∧ z.cells.size = size := by
    simp only [zeroT, hi, Option.bind_some, Option.map_eq_some_iff] at hzs
    obtain ⟨z, h2, h3⟩ := hzs
    exact ⟨z, h2, by rw [h3, hp2]⟩
  obtain ⟨hlen, news, hnl, hnr, hnf, hone⟩ := elemsA_sound (P := P) h hx hys
  subst hisz
  have zero : ys.length = 0 → ∀ (base : Option Addr) (sLen sCap : Nat), sLen ≤ sCap → (Builtin.append_ argTypes ty #[.slice base sLen sCap, xv]).run P w = .ok (.slice base sLen sCap) w := by
    intro hy base sLen sCap hfit
    have hn0 : news = [] := List.length_eq_zero_iff.1 (by rw [hnl, hy]; simp)
    refine run_append_zero h0 h1 ht hu hok hi base sLen sCap xv (fun w' => by rw [hlen w', hy]) ?_ hfit
    have := hnf w rfl
    rw [hy, hn0] at this
    exact this
  have fresh : ∀ (old : List (List AV)) (base : Option Addr) (sCap : Nat) (olds : List Value), sCap < old.length + ys.length → olds.length = old.length * i.size → RowsIn (Im X E H w) w E olds.toArray 0 i.size old →
      (∀ w' : World, w'.heap = w.heap → (Builtin.firstCells i.size old.length (.slice base old.length sCap)).run P w' = .ok olds.toArray w') →
      (if (old.length + ys.length) * bytes ≤ roomA then (newAt H at_ (.cells i.size 0 (old ++ ys) false)).map fun r => (AV.sl r.1 0 0 (old.length + ys.length) none, r.2) else none) = some (v, H') →
      ∃ r w', (Builtin.append_ argTypes ty #[.slice base old.length sCap, xv]).run P w = .ok r w' ∧ Good X E H w v H' r w' := by
    intro old base sCap olds hg hol hor hof hv
    split at hv
    · rename_i hroom
      simp only [Option.map_eq_some_iff] at hv
      obtain ⟨⟨b, H1⟩, hnew, he⟩ := hv
      cases he
      have hcap : old.length + ys.length ≤ grownCap w (old.length + ys.length) sCap elem := grownCap_ge _ _ _ _
      refine ⟨_, _, run_append_grows h0 h1 ht hu hok hi hz base old.length sCap ys.length xv hlen olds news (hof _ rfl) (hnf _ rfl) hg (by rw [hibytes]; exact hroom) ?_, fresh_sound h hnew hzc hor hol hnr hnl hcap⟩
      exact .inl (by rw [hibytes]; exact hp3)
    · cases hv
  simp only at hv
  split at hv
  · -- nil
    simp only [V] at hs
    subst hs
    split at hv
    · rename_i hn
      cases hv
      exact ⟨_, _, zero hn none 0 0 (Nat.le_refl _), Good.here h (by simp [V])⟩
    · rename_i hn
      exact fresh [] none 0 [] (by simp; omega) (by simp) (fun i row hi => by simp at hi) (fun w' _ => by simp [Builtin.firstCells]) (by simpa using hv)
  · -- written no more
    rename_i sz es cap
    simp only [V] at hs
    split at hv
    · rename_i hn
      cases hv
      obtain ⟨a, c, rfl, h2, h3, h4, h5⟩ := hs
      exact ⟨_, _, zero hn (some a) es.length c h2, Good.here h (by simp only [V]; exact ⟨a, c, rfl, h2, h3, h4, h5⟩)⟩
    · rename_i hn
      split at hv
      · rename_i hq
        obtain ⟨hq1, hq2⟩ := hq
        subst hq1
        obtain ⟨a, c, rfl, h2, h3, h4, h5⟩ := hs
        have hc := h3 _ hq2
        subst hc
        obtain ⟨olds, h6, h7, h8⟩ := rows_list (im := Im X E H w) (w := w) (E := E) (B := a.block) (size := i.size) (ys := es) (o := a.off) (fun k row hk => by
          obtain ⟨h9, h10⟩ := VRR_get h5 hk
          refine ⟨h9, fun j c hj => ?_⟩
          obtain ⟨_, y, h11, h13, h12⟩ := VR_get h10 hj
          exact ⟨y, h11, h13, V_mono (fun _ _ h => ⟨h, rfl⟩) c (Le.none E) h12⟩)
        refine fresh es (some a) es.length olds (by omega) h6 h7 (fun w' hw' => ?_) hv
        refine run_firstCells_some (P := P) w' i.size es.length a es.length es.length olds h6 fun j u hu => ?_
        have hne : es ≠ [] := by
          rintro rfl
          simp at h6
          subst h6
          simp at hu
        have ha : a = ⟨a.block, a.off, none⟩ := by
          have := h4 hne
          cases a
          simp at this
          simp [this]
        rw [ha, addr_add]
        have := (h8 j u hu).1
        simpa [World.cell?, hw'] using this
      · cases hv
  · -- an own one
    rename_i b g start len cap
    split at hv
    case h_2 => cases hv
    rename_i sz g' es fz hk
    split at hv
    case isFalse => cases hv
    rename_i hq
    obtain ⟨hq1, hq2, hq3⟩ := hq
    subst hq1; subst hq2
    obtain ⟨l, C, t0, hE, hl, hg, hsz', hK, hh, hC, hR⟩ := h.own hk (V_sl_has hs)
    obtain ⟨a, c, rfl, hlc, ha, hcn, hcs⟩ := V_slice_ok hs hE hl hg
    split at hv
    · rename_i hn
      cases hv
      exact ⟨_, _, zero hn (some a) len c hlc, Good.here h hs⟩
    · rename_i hn
      have hdl : ((es.drop start).take len).length = len := by simp; omega
      have ha' : len = 0 ∨ a = ⟨l.B, l.o + start * l.size, none⟩ := by
        rcases ha with h2 | h2
        · left; omega
        · exact .inr h2
      obtain ⟨olds, ho1, ho2, ho3⟩ := own_elems (P := P) h hsz' hh hR hq3 (c := c) ha'
      split at hv
      · -- to the end of what there is
        split at hv
        case isFalse => cases hv
        rename_i hend
        obtain ⟨hend, hroom⟩ := hend
        cases hv
        have hcK := hcn rfl
        have hdrop : (es.drop start).take len = es.drop start := by rw [List.take_of_length_le]; simp; omega
        rw [hdrop] at ho2 ho1
        have hdl' : (es.drop start).length = len := by rw [← hdrop]; exact hdl
        by_cases hfit : len + ys.length ≤ c
        · -- there is room
          have hbase : a = ⟨l.B, l.o + start * l.size, none⟩ := by
            rcases ha with h2 | h2
            · omega
            · exact h2
          subst hbase
          rw [hsz']
          have hfitC : l.o + start * i.size + len * i.size + news.length ≤ C.size := by
            have h2 : (start + len + ys.length) * i.size ≤ l.K * i.size := Nat.mul_le_mul_right _ (by omega)
            rw [Nat.add_mul, Nat.add_mul] at h2
            rw [hnl]
            omega
          have hst := run_storeCells_at P l.B (l.o + start * i.size + len * i.size) t0 news 0 C w hh (by simpa using hfitC) hone
          simp only [Nat.add_zero] at hst
          refine ⟨_, _, run_append_fits h0 h1 ht hu hok hi l.B (l.o + start * i.size) len c ys.length xv hlen news (hnf w rfl) hfit _ hst, ?_⟩
          generalize hC' : C.toList.take (l.o + start * i.size + len * i.size) ++ news ++ C.toList.drop (l.o + start * i.size + len * i.size + news.length) = C' at *
          have hget : ∀ q : Nat, C'[q]? = if l.o + start * i.size + len * i.size ≤ q ∧ q < l.o + start * i.size + len * i.size + news.length then news[q - (l.o + start * i.size + len * i.size)]? else C[q]? := by
            intro q
            rw [← hC', splice_get _ _ _ (by simpa using hfitC), Array.getElem?_toList (xs := C)]
          have hlenC : C'.length = C.size := by rw [← hC']; simp at hfitC ⊢; omega
          have hT : Turn X E H w b (.cells i.size (g + 1) (es.drop start ++ ys) fz) { live := true, g := g + 1, B := l.B, o := l.o + start * i.size, K := l.K - start, size := i.size } (w.setRow l.B C'.toArray) :=
            { live := rfl, still := Still.setRow hh, size := by simp, place := .inr ⟨l, hE, hl, rfl⟩,
              other := fun B hB hn => setRow_other w l.B B _ fun e => hn l hE hl e.symm
              ed := fun l0 h0 => by
                rw [hE] at h0; cases h0
                exact ⟨by show l.g ≤ g + 1; omega, fun e => by have e : g + 1 = l.g := e; omega⟩
              zone := fun l0 h0 _ size' g' es' hk' _ => by
                rw [hE] at h0; cases h0
                rw [hk] at hk'; cases hk'
                refine ⟨_, _, _, rfl, ?_⟩
                show l.o + es.length * i.size ≤ l.o + start * i.size + (es.drop start ++ ys).length * i.size
                rw [Nat.add_assoc, ← Nat.add_mul]
                refine Nat.add_le_add_left (Nat.mul_le_mul_right _ ?_) _
                simp; omega
              cell := fun l0 h0 _ size' g' es' hk' o ho => by
                rw [hE] at h0; cases h0
                rw [hk] at hk'; cases hk'
                have h5 := setRow_heap w l.B C C'.toArray t0 _ hh
                simp only [World.cell?, h5, hh]
                simp only [Option.isSome_none, Bool.false_eq_true, if_false, List.getElem?_toArray]
                rw [hget, if_neg]
                rw [← hend, Nat.add_mul] at ho
                omega }
          have hP : Put H b (.cells i.size (g + 1) (es.drop start ++ ys) fz) (H.set b (.cells i.size (g + 1) (es.drop start ++ ys) fz)) := Put.set hk
          have him := hT.im h hP
          obtain ⟨h5, h6⟩ := h.turn hP hT (h.xs b l hE hl) (by
            refine .inr ⟨_, C'.toArray, t0, rfl, rfl, rfl, rfl, ?_, setRow_heap w l.B C _ t0 _ hh, ?_, ?_⟩
            · show (es.drop start ++ ys).length ≤ l.K - start
              simp; omega
            · show l.o + start * i.size + (l.K - start) * i.size ≤ C'.toArray.size
              rw [List.size_toArray, hlenC, Nat.add_assoc, ← Nat.add_mul, show start + (l.K - start) = l.K from by omega]
              exact hC
            · intro k row hk2
              show row.length = i.size ∧ ∀ j c, row[j]? = some c → ∃ x, C'.toArray[l.o + start * i.size + k * i.size + j]? = some x ∧ _
              simp only [List.getElem?_toArray]
              by_cases hlt : k < len
              · rw [List.getElem?_append_left (by omega)] at hk2
                rw [List.getElem?_drop] at hk2
                obtain ⟨h7, h8⟩ := hR _ row hk2
                refine ⟨h7, fun j c hj => ?_⟩
                obtain ⟨x, hx, hx1, hxv⟩ := h8 j c hj
                refine ⟨x, ?_, hx1, V_mono him c hT.le hxv⟩
                have hjl : j < row.length := by
                  rcases Nat.lt_or_ge j row.length with h9 | h9
                  · exact h9
                  · rw [List.getElem?_eq_none h9] at hj; cases hj
                have h10 : (k + 1) * i.size ≤ len * i.size := Nat.mul_le_mul_right _ hlt
                rw [Nat.add_mul] at h10
                rw [hget, if_neg (by omega), ← hx]
                congr 1
                rw [Nat.add_mul]; omega
              · rw [List.getElem?_append_right (by omega), hdl'] at hk2
                obtain ⟨h7, h8⟩ := hnr _ row hk2
                refine ⟨h7, fun j c hj => ?_⟩
                obtain ⟨x, hx, hx1, hxv⟩ := h8 j c hj
                refine ⟨x, ?_, hx1, V_mono him c hT.le hxv⟩
                simp only [Nat.zero_add, List.getElem?_toArray] at hx
                have hlt2 : (k - len) * i.size + j < news.length := by
                  rcases Nat.lt_or_ge ((k - len) * i.size + j) news.length with h9 | h9
                  · exact h9
                  · rw [List.getElem?_eq_none h9] at hx; cases hx
                have h10 : len * i.size + (k - len) * i.size = k * i.size := by rw [← Nat.add_mul]; congr 1; omega
                rw [hget, if_pos (by omega), ← hx]
                congr 1
                omega)
          refine ⟨_, h5, h6, ?_⟩
          simp only [V]
          exact ⟨_, _, _, upd_same _ _ _, Nat.le_refl _, rfl, fun _ _ => ⟨hfit, .inr (by simp), by simp; omega⟩⟩
        · -- it grows
          have hg' : c < len + ys.length := by omega
          have hcap : len + ys.length ≤ grownCap w (len + ys.length) c elem := grownCap_ge _ _ _ _
          refine ⟨_, _, run_append_grows h0 h1 ht hu hok hi hz (some a) len c ys.length xv hlen olds news (ho3 _ rfl) (hnf _ rfl) hg' (by rw [hibytes]; exact hroom) (.inl (by rw [hibytes]; exact hp3)), ?_⟩
          generalize hC' : (olds ++ news ++ (Builtin.zeroCells z.cells (grownCap w (len + ys.length) c elem - (len + ys.length))).toList).toArray = C'
          have hsz2 : C'.size = grownCap w (len + ys.length) c elem * i.size := by
            have e1 : (Builtin.zeroCells z.cells (grownCap w (len + ys.length) c elem - (len + ys.length))).toList.length = (grownCap w (len + ys.length) c elem - (len + ys.length)) * i.size := by
              rw [Array.length_toList, size_zeroCells, hzc]
            rw [← hC']
            simp only [List.size_toArray, List.length_append]
            rw [e1, ho1, hnl, hdl', ← Nat.add_mul, ← Nat.add_mul]
            congr 1
            omega
          have hB' := h.lt hE hl
          have hrow : RowsIn (Im X E H w) w E C' 0 i.size (es.drop start ++ ys) := by rw [← hC']; exact RowsIn_append ho2 ho1 hnr
          have hT : Turn X E H w b (.cells i.size (g + 1) (es.drop start ++ ys) fz) { live := true, g := g + 1, B := w.heap.size, o := 0, K := grownCap w (len + ys.length) c elem, size := i.size } (w.drew.alloc (.cells C' elem)) :=
            { live := rfl, still := Still.push (o := .cells C' elem) ⟨rfl, rfl⟩ rfl rfl rfl, size := by simp, place := .inl (Nat.le_refl _),
              other := fun B hB _ => heap_alloc_old w.drew _ B hB
              ed := fun l0 h0 => by
                rw [hE] at h0; cases h0
                exact ⟨by show l.g ≤ g + 1; omega, fun e => by have e : g + 1 = l.g := e; omega⟩
              zone := fun l0 h0 _ size' g' es' hk' e => by
                rw [hE] at h0; cases h0
                have e : l.B = w.heap.size := e
                omega
              cell := fun l0 h0 _ size' g' es' hk' o ho => by
                rw [hE] at h0; cases h0
                exact cell_of_heap (heap_alloc_old w.drew _ l.B hB') o }
          have hP : Put H b (.cells i.size (g + 1) (es.drop start ++ ys) fz) (H.set b (.cells i.size (g + 1) (es.drop start ++ ys) fz)) := Put.set hk
          have him := hT.im h hP
          obtain ⟨h5, h6⟩ := h.turn hP hT (fun off hxx => by have := h.xlt _ _ hxx; exact absurd this (Nat.lt_irrefl _)) (by
            refine .inr ⟨_, C', elem, rfl, rfl, rfl, rfl, ?_, heap_alloc_new w.drew _, ?_, ?_⟩
            · show (es.drop start ++ ys).length ≤ grownCap w (len + ys.length) c elem
              rw [List.length_append, hdl']; exact hcap
            · show 0 + grownCap w (len + ys.length) c elem * i.size ≤ C'.size
              omega
            · exact RowsIn_mono him hT.le hrow)
          refine ⟨_, h5, h6, ?_⟩
          simp only [V]
          exact ⟨_, _, _, upd_same _ _ _, Nat.le_refl _, rfl, fun _ _ => ⟨hcap, .inr (by simp), by simp⟩⟩
      · -- a known capacity
        rename_i k
        have hck := hcs k rfl
        subst hck
        split at hv
        · rename_i hfit
          split at hv
          case isFalse => cases hv
          rename_i hfz
          obtain ⟨rfl, hce⟩ := hfz
          cases hv
          have hbase : a = ⟨l.B, l.o + start * l.size, none⟩ := by
            rcases ha with h2 | h2
            · omega
            · exact h2
          subst hbase
          rw [hsz']
          have hfitC : l.o + start * i.size + len * i.size + news.length ≤ C.size := by
            have h2 : (start + len + ys.length) * i.size ≤ l.K * i.size := Nat.mul_le_mul_right _ (by omega)
            rw [Nat.add_mul, Nat.add_mul] at h2
            rw [hnl]
            omega
          have hst := run_storeCells_at P l.B (l.o + start * i.size + len * i.size) t0 news 0 C w hh (by simpa using hfitC) hone
          simp only [Nat.add_zero] at hst
          refine ⟨_, _, run_append_fits h0 h1 ht hu hok hi l.B (l.o + start * i.size) len c ys.length xv hlen news (hnf w rfl) hfit _ hst, ?_⟩
          generalize hC' : C.toList.take (l.o + start * i.size + len * i.size) ++ news ++ C.toList.drop (l.o + start * i.size + len * i.size + news.length) = C' at *
          have hget : ∀ q : Nat, C'[q]? = if l.o + start * i.size + len * i.size ≤ q ∧ q < l.o + start * i.size + len * i.size + news.length then news[q - (l.o + start * i.size + len * i.size)]? else C[q]? := by
            intro q
            rw [← hC', splice_get _ _ _ (by simpa using hfitC), Array.getElem?_toList (xs := C)]
          have hlenC : C'.length = C.size := by rw [← hC']; simp at hfitC ⊢; omega
          have hT : Turn X E H w b (.cells i.size g (es.take (start + len) ++ ys ++ es.drop (start + len + ys.length)) false) l (w.setRow l.B C'.toArray) :=
            { live := hl, still := Still.setRow hh, size := by simp, place := .inr ⟨l, hE, hl, rfl⟩,
              other := fun B hB hn => setRow_other w l.B B _ fun e => hn l hE hl e.symm
              ed := fun l0 h0 => by rw [hE] at h0; cases h0; exact ⟨Nat.le_refl _, fun _ => ⟨hl, rfl, rfl, rfl, rfl⟩⟩
              zone := fun l0 h0 _ size' g' es' hk' => by rw [hk] at hk'; cases hk'
              cell := fun l0 h0 _ size' g' es' hk' => by rw [hk] at hk'; cases hk' }
          have hP : Put H b (.cells i.size g (es.take (start + len) ++ ys ++ es.drop (start + len + ys.length)) false) (H.set b (.cells i.size g (es.take (start + len) ++ ys ++ es.drop (start + len + ys.length)) false)) := Put.set hk
          have him := hT.im h hP
          have hres := h.turn hP hT (h.xs b l hE hl) (by
            refine .inr ⟨l, C'.toArray, t0, rfl, hl, hg, hsz', ?_, setRow_heap w l.B C _ t0 _ hh, by rw [List.size_toArray, hlenC]; exact hC, ?_⟩
            · simp; omega
            · intro k row hk2
              rw [splice_get _ _ _ (by omega)] at hk2
              simp only [List.getElem?_toArray]
              by_cases hin : start + len ≤ k ∧ k < start + len + ys.length
              · rw [if_pos hin] at hk2
                obtain ⟨h7, h8⟩ := hnr _ row hk2
                refine ⟨h7, fun j c hj => ?_⟩
                obtain ⟨x, hx, hx1, hxv⟩ := h8 j c hj
                refine ⟨x, ?_, hx1, V_mono him c hT.le hxv⟩
                simp only [Nat.zero_add, List.getElem?_toArray] at hx
                have hlt2 : (k - (start + len)) * i.size + j < news.length := by
                  rcases Nat.lt_or_ge ((k - (start + len)) * i.size + j) news.length with h9 | h9
                  · exact h9
                  · rw [List.getElem?_eq_none h9] at hx; cases hx
                have h10 : start * i.size + len * i.size + (k - (start + len)) * i.size = k * i.size := by rw [← Nat.add_mul, ← Nat.add_mul]; congr 1; omega
                rw [hget, if_pos (by omega), ← hx]
                congr 1
                omega
              · rw [if_neg hin] at hk2
                obtain ⟨h7, h8⟩ := hR _ row hk2
                refine ⟨h7, fun j c hj => ?_⟩
                obtain ⟨x, hx, hx1, hxv⟩ := h8 j c hj
                refine ⟨x, ?_, hx1, V_mono him c hT.le hxv⟩
                have hjl : j < row.length := by
                  rcases Nat.lt_or_ge j row.length with h9 | h9
                  · exact h9
                  · rw [List.getElem?_eq_none h9] at hj; cases hj
                rw [hget, if_neg, hx]
                have e1 : start * i.size + len * i.size = (start + len) * i.size := by rw [Nat.add_mul]
                have e2 : (start + len) * i.size + news.length = (start + len + ys.length) * i.size := by rw [hnl, ← Nat.add_mul]
                rcases Nat.lt_or_ge k (start + len) with h10 | h10
                · have : (k + 1) * i.size ≤ (start + len) * i.size := Nat.mul_le_mul_right _ h10
                  rw [Nat.add_mul] at this
                  omega
                · have : (start + len + ys.length) * i.size ≤ k * i.size := Nat.mul_le_mul_right _ (by omega)
                  omega)
          rw [upd_self hE] at hres
          refine ⟨E, hres.1, hres.2, ?_⟩
          simp only [V]
          exact ⟨l, _, _, hE, by omega, rfl, fun _ _ => ⟨hfit, .inr (by rw [hsz']), by simp⟩⟩
        · rename_i hnf2
          generalize (es.drop start).take len = old at *
          subst hdl
          exact fresh old (some a) c olds (by omega) ho1 ho2 ho3 hv
  · cases hv

end
end Go.Ai
