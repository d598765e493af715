/-
  EXPRESSIONS BY BYTES: what is made is an expression.
-/
import Derived.Test.YtndloeajkfajnaaAiXm2
set_option linter.unusedVariables false
set_option linter.unusedSimpArgs false
namespace Go.Ai
open Go.Proofs Go.RowKit

theorem isX_lit {v : Vl} (h : (XT.lit v).wf) : isX (leafC 0 v.k v.n v.s [] []) := ⟨.lit v, h, rfl⟩
theorem isX_cnt : isX (leafC 2 0 0 [] [98] []) := ⟨.cnt 98, rfl, rfl⟩
theorem isX_neg {cs : List AV} : isX cs → isX (nodeC 3 [45] [cs] 1) := fun ⟨e, h, hc⟩ => ⟨.neg e, h, by rw [hc]; rfl⟩
theorem isX_not {cs : List AV} : isX cs → isX (nodeC 3 [33] [cs] 1) := fun ⟨e, h, hc⟩ => ⟨.not e, h, by rw [hc]; rfl⟩
theorem isX_bin {cs ds : List AV} {s : ByteArray} (ho : opS s) : isX cs → isX ds → isX (nodeC 4 s.data.toList [cs, ds] 2) := fun ⟨e, h, hc⟩ ⟨f, g, hd⟩ => by
  obtain ⟨o, rfl⟩ := ho
  exact ⟨.bin o e f, ⟨h, g⟩, by rw [hc, hd]; rfl⟩
theorem isX_log {cs ds : List AV} {s : ByteArray} (ho : lgP s) : isX cs → isX ds → isX (nodeC 4 s.data.toList [cs, ds] 2) := fun ⟨e, h, hc⟩ ⟨f, g, hd⟩ => by
  rcases ho with rfl | rfl
  · exact ⟨.and e f, ⟨h, g⟩, by rw [hc, hd]; rfl⟩
  · exact ⟨.or e f, ⟨h, g⟩, by rw [hc, hd]; rfl⟩

theorem pickNm_of {l : List Int} {i : Int} {P : Int → Prop} (h0 : 0 ≤ i) (h1 : i < l.length) (hP : ∀ t ∈ l, P t) : pickNm l i P := by
  have hi : i.toNat < l.length := by omega
  refine ⟨l[i.toNat], ?_, hP _ (List.getElem_mem _)⟩
  rw [if_neg (by omega), List.getElem?_map, List.getElem?_eq_getElem hi]
  rfl

theorem pickTx_of {l : List (List UInt8)} {i : Int} {P : ByteArray → Prop} (h0 : 0 ≤ i) (h1 : i < l.length) (hP : ∀ t ∈ l, P ⟨⟨t⟩⟩) : pickTx l i P := by
  have hi : i.toNat < l.length := by omega
  refine ⟨⟨⟨l[i.toNat]⟩⟩, ?_, hP _ (List.getElem_mem _)⟩
  rw [if_neg (by omega), List.getElem?_map, List.getElem?_eq_getElem hi]
  rfl

theorem idx_of {z : Int} (h : byteP z) {k j : Int} (hk : 0 < k) (hj : 0 < j) : 0 ≤ (IntKind.i64.wrap (z.tdiv k)).tmod j ∧ (IntKind.i64.wrap (z.tdiv k)).tmod j < j := by
  obtain ⟨h0, h1⟩ := h
  have e : z.tdiv k = z / k := Int.tdiv_eq_ediv_of_nonneg h0
  have g0 : 0 ≤ z / k := Int.ediv_nonneg h0 (by omega)
  have g1 : z / k ≤ z := Int.ediv_le_self _ h0
  rw [e, wrap_i64, show (z / k + 9223372036854775808) % 18446744073709551616 - 9223372036854775808 = z / k by omega, Int.tmod_eq_emod_of_nonneg g0]
  exact ⟨Int.emod_nonneg _ (by omega), Int.emod_lt_of_pos _ hj⟩

section
variable {bs : List Int} {m : AV}

theorem giveR_of {n : Nat} {f : FuncId} {rest : List AV} {x : Int} {kf : List AV → Int → Prop} (h : GivesX bs n f rest m x) (hk : ∀ cs x', isX cs → okN bs m x' → kf cs x') : giveR bs n f rest m x kf :=
  ⟨⟨h, rfl, rfl⟩, fun _ _ _ _ _ _ _ _ h1 h2 => hk _ _ h1 h2, fun _ _ _ _ _ _ _ _ _ _ h1 h2 => hk _ _ h1 h2⟩

/-- What is wanted of a run. -/
def gotX (bs : List Int) (m : AV) (r : CRes) (H : List Blk) : Prop := ∃ cs x', isX cs ∧ okN bs m x' ∧ r = .ret (.agg cs) ∧ H = [feedB m x']

theorem GivesX.of {n : Nat} {f : FuncId} {rest : List AV} {x : Int} (h : ∃ r, call CS n f (.ptr 0 0 0 0 :: rest) [feedB m x] = some r ∧ gotX bs m r.1 r.2) : GivesX bs n f rest m x := by
  obtain ⟨⟨r, H⟩, hc, cs, x', hX, hok, e1, e2⟩ := h
  simp only at e1 e2
  subst e1 e2
  exact ⟨cs, x', hX, hok, hc⟩

theorem gotX_of {cs : List AV} {x' : Int} (hX : isX cs) (hok : okN bs m x') : gotX bs m (.ret (.agg cs)) [feedB m x'] := ⟨cs, x', hX, hok, rfl, rfl⟩

theorem feedR_of (hm : IsM bs m) {x : Int} (hx : okN bs m x) {p : Int → Prop} (h : ∀ z, byteP z → p z) : feedR bs m x p := ⟨⟨hx, rfl, rfl⟩, byteAt_range hm.byte x, h⟩

theorem next_ok {x : Int} (h : okN bs m x) : okN bs m (nextAt bs x) := ⟨h.1, (nextAt_range h.2.1 h.2.2).1, (nextAt_range h.2.1 h.2.2).2⟩

theorem formM (hm : IsM bs m) : (∃ es cap, m = .ro 1 es cap) ∨ m = .sc (.slice none 0 0) := by
  rcases hm.form with ⟨cap, rfl⟩ | ⟨_, rfl⟩
  · exact .inl ⟨_, _, rfl⟩
  · exact .inr rfl

theorem ops_ok : ∀ t ∈ ([[43], [45], [42], [47], [37]] : List (List UInt8)), opS ⟨⟨t⟩⟩ := by
  intro t ht
  simp only [List.mem_cons, List.mem_nil_iff, or_false] at ht
  rcases ht with rfl | rfl | rfl | rfl | rfl
  · exact ⟨.add, rfl⟩
  · exact ⟨.sub, rfl⟩
  · exact ⟨.mul, rfl⟩
  · exact ⟨.div, rfl⟩
  · exact ⟨.rem, rfl⟩

theorem cmps_ok : ∀ t ∈ ([[61, 61], [33, 61], [60], [60, 61], [62], [62, 61], [60, 61], [62, 61]] : List (List UInt8)), opS ⟨⟨t⟩⟩ := by
  intro t ht
  simp only [List.mem_cons, List.mem_nil_iff, or_false] at ht
  rcases ht with rfl | rfl | rfl | rfl | rfl | rfl | rfl | rfl
  · exact ⟨.eq, rfl⟩
  · exact ⟨.ne, rfl⟩
  · exact ⟨.lt, rfl⟩
  · exact ⟨.le, rfl⟩
  · exact ⟨.gt, rfl⟩
  · exact ⟨.ge, rfl⟩
  · exact ⟨.le, rfl⟩
  · exact ⟨.ge, rfl⟩

theorem lessD_eq {d : Int} {t : Nat} (h : d = ((t + 1 : Nat) : Int)) (ht : t < 10) : lessD d = .sc (.int .i64 (t : Int)) := by
  unfold lessD
  rw [wrap_i64, show (d - 1 + 9223372036854775808) % 18446744073709551616 - 9223372036854775808 = (t : Int) by omega]

theorem num_gives (hm : IsM bs m) : ∀ (t : Nat) (n : Nat) (x : Int), t < 10 → 100 * t + 200 ≤ n → okN bs m x → GivesX bs n 52 [ownA, .sc (.int .i64 (t : Int))] m x := by
  intro t
  induction t with
  | zero =>
    intro n x _ hn hx
    obtain ⟨k, rfl⟩ : ∃ k, n = k + 100 := ⟨n - 100, by omega⟩
    have hx' := next_ok hx
    have hof : numR2 bs k (gotX bs m) m (nextAt bs x) := giveR_of (of_gives hm hx'.2.1 hx'.2.2 _ (by omega) (v := ⟨1, 1, []⟩) ⟨.inl ⟨rfl, rfl⟩, by decide, by simp⟩ _ (.inl rfl)) fun cs x' h1 h2 => gotX_of h1 h2
    have hr : numRR bs k x ((0 : Nat) : Int) (gotX bs m) m := feedR_of hm hx fun z hz => bothP_of (fun _ => ⟨pickNm_of (idx_of hz (by decide) (by decide)).1 (idx_of hz (by decide) (by decide)).2 (by simp [nnP]), fun v hv =>
      gotX_of (isX_lit (v := ⟨1, v, []⟩) ⟨.inl ⟨rfl, rfl⟩, hv, by simp⟩) hx'⟩) fun _ => bothP_of (fun _ => hof) fun _ => bothP_of (fun _ => hof) fun hd => absurd (of_decide_eq_false hd) (by simp)
    refine GivesX.of ?_
    rcases formM hm with ⟨es, cap, rfl⟩ | rfl
    · exact byTree (tree52 bs k es cap x _ _) hr
    · exact byTree (tree52n bs k [] none x _ _) hr
  | succ t ih =>
    intro n x ht hn hx
    obtain ⟨k, rfl⟩ : ∃ k, n = k + 100 := ⟨n - 100, by omega⟩
    have hx' := next_ok hx
    have hof : numR2 bs k (gotX bs m) m (nextAt bs x) := giveR_of (of_gives hm hx'.2.1 hx'.2.2 _ (by omega) (v := ⟨1, 1, []⟩) ⟨.inl ⟨rfl, rfl⟩, by decide, by simp⟩ _ (.inl rfl)) fun cs x' h1 h2 => gotX_of h1 h2
    have hl : lessD ((t + 1 : Nat) : Int) = .sc (.int .i64 (t : Int)) := lessD_eq rfl (by omega)
    have hr : numRR bs k x ((t + 1 : Nat) : Int) (gotX bs m) m := by
      refine feedR_of hm hx fun z hz => bothP_of (fun _ => ⟨pickNm_of (idx_of hz (by decide) (by decide)).1 (idx_of hz (by decide) (by decide)).2 (by simp [nnP]), fun v hv =>
        gotX_of (isX_lit (v := ⟨1, v, []⟩) ⟨.inl ⟨rfl, rfl⟩, hv, by simp⟩) hx'⟩) fun _ => bothP_of (fun _ => hof) fun _ => bothP_of (fun _ => hof) fun _ => bothP_of (fun _ => gotX_of isX_cnt hx') fun _ => bothP_of (fun _ => ?_) fun _ => ?_
      · rw [hl]
        exact giveR_of (ih _ _ (by omega) (by omega) hx') fun cs x2 h1 h2 => gotX_of (isX_neg h1) h2
      · rw [hl]
        exact giveR_of (ih _ _ (by omega) (by omega) hx') fun cs x2 h1 h2 => giveR_of (ih _ _ (by omega) (by omega) h2) fun ds x3 h3 h4 =>
          ⟨pickTx_of (idx_of hz (by decide) (by decide)).1 (idx_of hz (by decide) (by decide)).2 ops_ok, fun s hs => gotX_of (isX_bin hs h1 h3) h4⟩
    refine GivesX.of ?_
    rcases formM hm with ⟨es, cap, rfl⟩ | rfl
    · exact byTree (tree52 bs k es cap x _ _) hr
    · exact byTree (tree52n bs k [] none x _ _) hr

theorem txts_ok : ∀ t ∈ ([[], [97], [98], [120, 32, 121]] : List (List UInt8)), txP ⟨⟨t⟩⟩ := by
  intro t ht
  simp only [List.mem_cons, List.mem_nil_iff, or_false] at ht
  rcases ht with rfl | rfl | rfl | rfl <;> (unfold txP; decide)

theorem txt_gives (hm : IsM bs m) : ∀ (t : Nat) (n : Nat) (x : Int), t < 10 → 100 * t + 200 ≤ n → okN bs m x → GivesX bs n 53 [ownA, .sc (.int .i64 (t : Int))] m x := by
  intro t
  induction t with
  | zero =>
    intro n x _ hn hx
    obtain ⟨k, rfl⟩ : ∃ k, n = k + 100 := ⟨n - 100, by omega⟩
    have hx' := next_ok hx
    have hof : txtR2 bs k (gotX bs m) m (nextAt bs x) := giveR_of (of_gives hm hx'.2.1 hx'.2.2 _ (by omega) (v := ⟨3, 0, [97]⟩) ⟨.inr (.inr ⟨rfl, rfl, by decide⟩), by decide, by simp⟩ _ (.inr (.inl rfl))) fun cs x' h1 h2 => gotX_of h1 h2
    have hr : txtRR bs k x ((0 : Nat) : Int) (gotX bs m) m := feedR_of hm hx fun z hz => bothP_of (fun _ => ⟨pickTx_of (idx_of hz (by decide) (by decide)).1 (idx_of hz (by decide) (by decide)).2 txts_ok, fun s hs =>
      gotX_of (isX_lit (v := ⟨3, 0, s.data.toList⟩) ⟨.inr (.inr ⟨rfl, rfl, hs.1⟩), Int.le_refl 0, hs.2⟩) hx'⟩) fun _ => bothP_of (fun _ => hof) fun _ => bothP_of (fun _ => hof) fun hd => absurd (of_decide_eq_false hd) (by simp)
    refine GivesX.of ?_
    rcases formM hm with ⟨es, cap, rfl⟩ | rfl
    · exact byTree (tree53 bs k es cap x _ _) hr
    · exact byTree (tree53n bs k [] none x _ _) hr
  | succ t ih =>
    intro n x ht hn hx
    obtain ⟨k, rfl⟩ : ∃ k, n = k + 100 := ⟨n - 100, by omega⟩
    have hx' := next_ok hx
    have hof : txtR2 bs k (gotX bs m) m (nextAt bs x) := giveR_of (of_gives hm hx'.2.1 hx'.2.2 _ (by omega) (v := ⟨3, 0, [97]⟩) ⟨.inr (.inr ⟨rfl, rfl, by decide⟩), by decide, by simp⟩ _ (.inr (.inl rfl))) fun cs x' h1 h2 => gotX_of h1 h2
    have hl : lessD ((t + 1 : Nat) : Int) = .sc (.int .i64 (t : Int)) := lessD_eq rfl (by omega)
    have hr : txtRR bs k x ((t + 1 : Nat) : Int) (gotX bs m) m := by
      refine feedR_of hm hx fun z hz => bothP_of (fun _ => ⟨pickTx_of (idx_of hz (by decide) (by decide)).1 (idx_of hz (by decide) (by decide)).2 txts_ok, fun s hs =>
        gotX_of (isX_lit (v := ⟨3, 0, s.data.toList⟩) ⟨.inr (.inr ⟨rfl, rfl, hs.1⟩), Int.le_refl 0, hs.2⟩) hx'⟩) fun _ => bothP_of (fun _ => hof) fun _ => bothP_of (fun _ => hof) fun _ => ?_
      rw [hl]
      exact giveR_of (ih _ _ (by omega) (by omega) hx') fun cs x2 h1 h2 => giveR_of (ih _ _ (by omega) (by omega) h2) fun ds x3 h3 h4 => gotX_of (isX_bin (s := ⟨⟨[43]⟩⟩) ⟨.add, rfl⟩ h1 h3) h4
    refine GivesX.of ?_
    rcases formM hm with ⟨es, cap, rfl⟩ | rfl
    · exact byTree (tree53 bs k es cap x _ _) hr
    · exact byTree (tree53n bs k [] none x _ _) hr

theorem tru_gives (hm : IsM bs m) : ∀ (t : Nat) (n : Nat) (x : Int), t < 10 → 100 * t + 500 ≤ n → okN bs m x → GivesX bs n 54 [ownA, .sc (.int .i64 (t : Int))] m x := by
  intro t
  induction t with
  | zero =>
    intro n x _ hn hx
    obtain ⟨k, rfl⟩ : ∃ k, n = k + 100 := ⟨n - 100, by omega⟩
    have hx' := next_ok hx
    have base : ∀ z s, opS s → truBase bs k (gotX bs m) m (nextAt bs x) z s := fun z s hs => bothP_of
      (fun _ => giveR_of (txt_gives hm 1 _ _ (by omega) (by omega) hx') fun cs x2 h1 h2 => giveR_of (txt_gives hm 1 _ _ (by omega) (by omega) h2) fun ds x3 h3 h4 => gotX_of (isX_bin hs h1 h3) h4)
      fun _ => giveR_of (num_gives hm 1 _ _ (by omega) (by omega) hx') fun cs x2 h1 h2 => giveR_of (num_gives hm 1 _ _ (by omega) (by omega) h2) fun ds x3 h3 h4 => gotX_of (isX_bin hs h1 h3) h4
    have lss : ∀ z s, opS s → truLess bs k ((0 : Nat) : Int) (gotX bs m) m (nextAt bs x) z s := fun z s hs => bothP_of (fun _ => bothP_of (fun hd => absurd (of_decide_eq_true hd) (by simp)) fun _ => base z s hs) fun _ => base z s hs
    have hr : truRR bs k x ((0 : Nat) : Int) (gotX bs m) m := by
      refine feedR_of hm hx fun z hz => ⟨pickTx_of (idx_of hz (by decide) (by decide)).1 (idx_of hz (by decide) (by decide)).2 cmps_ok, fun s hs => bothP_of (fun _ => ?_) fun _ => bothP_of (fun _ => ?_) fun _ =>
        bothP_of (fun _ => bothP_of (fun hd => absurd (of_decide_eq_true hd) (by simp)) fun _ => lss z s hs) fun _ => lss z s hs⟩
      · have hi := idx_of hz (k := 16) (j := 2) (by decide) (by decide)
        have h01 : (IntKind.i64.wrap (z.tdiv 16)).tmod 2 = 0 ∨ (IntKind.i64.wrap (z.tdiv 16)).tmod 2 = 1 := by omega
        exact gotX_of (isX_lit (v := ⟨2, (IntKind.i64.wrap (z.tdiv 16)).tmod 2, []⟩) ⟨.inr (.inl ⟨rfl, h01, rfl⟩), hi.1, by simp⟩) hx'
      · exact giveR_of (of_gives hm hx'.2.1 hx'.2.2 _ (by omega) (v := ⟨2, 1, []⟩) ⟨.inr (.inl ⟨rfl, .inr rfl, rfl⟩), by decide, by simp⟩ _ (.inr (.inr rfl))) fun cs x' h1 h2 => gotX_of h1 h2
    refine GivesX.of ?_
    rcases formM hm with ⟨es, cap, rfl⟩ | rfl
    · exact byTree (tree54 bs k es cap x _ _) hr
    · exact byTree (tree54n bs k [] none x _ _) hr
  | succ t ih =>
    intro n x ht hn hx
    obtain ⟨k, rfl⟩ : ∃ k, n = k + 100 := ⟨n - 100, by omega⟩
    have hx' := next_ok hx
    have hl : lessD ((t + 1 : Nat) : Int) = .sc (.int .i64 (t : Int)) := lessD_eq rfl (by omega)
    have base : ∀ z s, opS s → truBase bs k (gotX bs m) m (nextAt bs x) z s := fun z s hs => bothP_of
      (fun _ => giveR_of (txt_gives hm 1 _ _ (by omega) (by omega) hx') fun cs x2 h1 h2 => giveR_of (txt_gives hm 1 _ _ (by omega) (by omega) h2) fun ds x3 h3 h4 => gotX_of (isX_bin hs h1 h3) h4)
      fun _ => giveR_of (num_gives hm 1 _ _ (by omega) (by omega) hx') fun cs x2 h1 h2 => giveR_of (num_gives hm 1 _ _ (by omega) (by omega) h2) fun ds x3 h3 h4 => gotX_of (isX_bin hs h1 h3) h4
    have log : ∀ z, byteP z → truLog bs k ((t + 1 : Nat) : Int) (gotX bs m) m (nextAt bs x) z := fun z hz => by
      unfold truLog
      rw [hl]
      exact giveR_of (ih _ _ (by omega) (by omega) hx') fun cs x2 h1 h2 => giveR_of (ih _ _ (by omega) (by omega) h2) fun ds x3 h3 h4 =>
        ⟨pickTx_of (idx_of hz (by decide) (by decide)).1 (idx_of hz (by decide) (by decide)).2 (by simp [lgP]), fun s hs => gotX_of (isX_log hs h1 h3) h4⟩
    have lss : ∀ z s, byteP z → opS s → truLess bs k ((t + 1 : Nat) : Int) (gotX bs m) m (nextAt bs x) z s := fun z s hz hs => bothP_of (fun _ => bothP_of (fun _ => log z hz) fun _ => base z s hs) fun _ => base z s hs
    have hr : truRR bs k x ((t + 1 : Nat) : Int) (gotX bs m) m := by
      refine feedR_of hm hx fun z hz => ⟨pickTx_of (idx_of hz (by decide) (by decide)).1 (idx_of hz (by decide) (by decide)).2 cmps_ok, fun s hs => bothP_of (fun _ => ?_) fun _ => bothP_of (fun _ => ?_) fun _ =>
        bothP_of (fun _ => bothP_of (fun _ => ?_) fun _ => lss z s hz hs) fun _ => lss z s hz hs⟩
      · have hi := idx_of hz (k := 16) (j := 2) (by decide) (by decide)
        have h01 : (IntKind.i64.wrap (z.tdiv 16)).tmod 2 = 0 ∨ (IntKind.i64.wrap (z.tdiv 16)).tmod 2 = 1 := by omega
        exact gotX_of (isX_lit (v := ⟨2, (IntKind.i64.wrap (z.tdiv 16)).tmod 2, []⟩) ⟨.inr (.inl ⟨rfl, h01, rfl⟩), hi.1, by simp⟩) hx'
      · exact giveR_of (of_gives hm hx'.2.1 hx'.2.2 _ (by omega) (v := ⟨2, 1, []⟩) ⟨.inr (.inl ⟨rfl, .inr rfl, rfl⟩), by decide, by simp⟩ _ (.inr (.inr rfl))) fun cs x' h1 h2 => gotX_of h1 h2
      · unfold truNot
        rw [hl]
        exact giveR_of (ih _ _ (by omega) (by omega) hx') fun cs x2 h1 h2 => gotX_of (isX_not h1) h2
    refine GivesX.of ?_
    rcases formM hm with ⟨es, cap, rfl⟩ | rfl
    · exact byTree (tree54 bs k es cap x _ _) hr
    · exact byTree (tree54n bs k [] none x _ _) hr
end

end Go.Ai
