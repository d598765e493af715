/-
  EXPRESSIONS THAT ARE NOT KNOWN: binds by bytes.
-/
import Derived.Test.YtndloeajkfajnaaAiXp5
set_option linter.unusedVariables false
set_option linter.unusedSimpArgs false
namespace Go.Ai
open Go.Proofs Go.RowKit

theorem tree50eS (k : Nat) (x : Int) (es : List (List AV)) (cap : Option Nat) (H' : List Blk) (K : CRes → List Blk → Prop) : callP CS (scr [(6, .bit true)]) (k+20) 50 [.ptr 1 0 0 0, .ptr 0 0 0 0] (.cells 1 0 [[.ro 1 es cap]] false :: .cells 1 0 [[.sc (.int .i64 x)]] false :: H') K =
  (decide (x ≥ ↑es.length) = true ∧ K (.ret (.sc (.int .i64 0))) (.cells 1 0 [[.ro 1 es cap]] false :: .cells 1 0 [[.sc (.int .i64 x)]] false :: H')) := by kernel_rfl

theorem tree50nS (k : Nat) (x : Int) (H' : List Blk) (K : CRes → List Blk → Prop) : callP CS (scr [(6, .bit true)]) (k+20) 50 [.ptr 1 0 0 0, .ptr 0 0 0 0] (.cells 1 0 [[.sc (.slice none 0 0)]] false :: .cells 1 0 [[.sc (.int .i64 x)]] false :: H') K =
  (decide (x ≥ ((0 : Nat) : Int)) = true ∧ K (.ret (.sc (.int .i64 0))) (.cells 1 0 [[.sc (.slice none 0 0)]] false :: .cells 1 0 [[.sc (.int .i64 x)]] false :: H')) := by kernel_rfl

theorem tree50sS (k : Nat) (x y z : Int) (es : List (List AV)) (cap : Option Nat) (H' : List Blk) (K : CRes → List Blk → Prop) : callP CS (scr [(6, .bit false), (8, .int y), (11, .int x), (12, .res fun _ H => .val (.rp [.sc (.int .u8 z)] 0) H)]) (k+20) 50 [.ptr 1 0 0 0, .ptr 0 0 0 0] (.cells 1 0 [[.ro 1 es cap]] false :: .cells 1 0 [[.sc (.int .i64 x)]] false :: H') K =
  (decide (x ≥ ↑es.length) = false ∧ IntKind.i64.wrap (x + 1) = y ∧ IntKind.i64.wrap (y - 1) = x ∧
   (((if x < 0 then none else ((es[x.toNat]?).map fun row => AV.rp row 0)).map fun v => ORes.val v (.cells 1 0 [[.ro 1 es cap]] false :: .cells 1 0 [[.sc (.int .i64 y)]] false :: H')) = some (.val (.rp [.sc (.int .u8 z)] 0) (.cells 1 0 [[.ro 1 es cap]] false :: .cells 1 0 [[.sc (.int .i64 y)]] false :: H'))) ∧
   K (.ret (.sc (.int .i64 (IntKind.i64.wrap z)))) (.cells 1 0 [[.ro 1 es cap]] false :: .cells 1 0 [[.sc (.int .i64 y)]] false :: H')) := by kernel_rfl

theorem next_runS {bs : List Int} {m : AV} (hm : IsM bs m) (k : Nat) {x : Int} (h0 : 0 ≤ x) (h1 : x ≤ bs.length) (H' : List Blk) :
    ∃ r, call CS (k+20) 50 [.ptr 1 0 0 0, .ptr 0 0 0 0] (.cells 1 0 [[m]] false :: .cells 1 0 [[.sc (.int .i64 x)]] false :: H') = some r ∧
      (r.1 = .ret (.sc (.int .i64 (byteAt bs x))) ∧ r.2 = (.cells 1 0 [[m]] false :: .cells 1 0 [[.sc (.int .i64 (nextAt bs x))]] false :: H')) := by
  rcases hm.form with ⟨cap, rfl⟩ | ⟨rfl, rfl⟩
  · have hl : (mRows bs).length = bs.length := by simp [mRows]
    by_cases h : x < bs.length
    · have hb : bs[x.toNat]? = some (byteAt bs x) := by
        unfold byteAt
        rw [if_pos h, List.getD_eq_getElem?_getD]
        have : x.toNat < bs.length := by omega
        rw [List.getElem?_eq_getElem this]
        rfl
      have hy : nextAt bs x = x + 1 := by unfold nextAt; rw [if_pos h]
      have hs := hm.size
      have hr := byteAt_range hm.byte x
      refine callP_tree (tree50sS k x (x + 1) (byteAt bs x) (mRows bs) cap H' (fun r H => r = .ret (.sc (.int .i64 (byteAt bs x))) ∧ H = _)) ?_
      refine ⟨by rw [hl]; exact decide_eq_false (by omega), by rw [wrap_i64]; omega, by rw [wrap_i64]; omega, ?_, ?_, ?_⟩
      · rw [if_neg (by omega)]
        unfold mRows
        rw [List.getElem?_map, hb]
        rfl
      · rw [wrap_i64, show (byteAt bs x + 9223372036854775808) % 18446744073709551616 - 9223372036854775808 = byteAt bs x by omega]
      · rw [hy]
    · have hb : byteAt bs x = 0 := by unfold byteAt; rw [if_neg h]
      have hy : nextAt bs x = x := by unfold nextAt; rw [if_neg h]
      refine callP_tree (tree50eS k x (mRows bs) cap H' (fun r H => r = .ret (.sc (.int .i64 (byteAt bs x))) ∧ H = _)) ?_
      refine ⟨by rw [hl]; exact decide_eq_true (by omega), ?_, ?_⟩
      · rw [hb]
      · rw [hy]
  · have hb : byteAt [] x = 0 := by unfold byteAt; rw [if_neg (by simpa using h0)]
    have hy : nextAt [] x = x := by unfold nextAt; rw [if_neg (by simpa using h0)]
    refine callP_tree (tree50nS k x H' (fun r H => r = .ret (.sc (.int .i64 (byteAt [] x))) ∧ H = _)) ?_
    refine ⟨decide_eq_true (by simpa using h0), ?_, ?_⟩
    · rw [hb]
    · rw [hy]

/-- What is told of the next byte. -/
def T50S (bs : List Int) (n : Nat) (args : List AV) (H : List Blk) (K : ORes → Prop) : Prop := match args, H with
  | [.ptr 1 0 0 0, .ptr 0 0 0 0], .cells 1 0 [[m]] false :: .cells 1 0 [[.sc (.int .i64 x)]] false :: H' => match Nat.ble 20 n with
    | true => okN bs m x ∧ K (.val (.sc (.int .i64 (byteAt bs x))) (.cells 1 0 [[m]] false :: .cells 1 0 [[.sc (.int .i64 (nextAt bs x))]] false :: H'))
    | false => False
  | _, _ => False

theorem T50S_ok (bs : List Int) (n : Nat) (args : List AV) (H : List Blk) (K : ORes → Prop) (h : T50S bs n args H K) : ∃ q, callA CS (callW CS (exec CS n)) none 50 args H = some q ∧ K q := by
  unfold T50S at h
  split at h
  · rename_i m x H'
    split at h
    case h_2 => exact h.elim
    rename_i hn
    obtain ⟨⟨hm, h0, h1⟩, hk⟩ := h
    obtain ⟨k, rfl⟩ : ∃ k, n = k + 20 := ⟨n - 20, by have := Nat.le_of_ble_eq_true hn; omega⟩
    obtain ⟨⟨r, H1⟩, hr, e1, e2⟩ := next_runS hm k h0 h1 H'
    simp only at e1 e2
    subst e1 e2
    refine ⟨_, ?_, hk⟩
    unfold callA
    rw [show CS.ext 50 = false from rfl]
    simp only [Bool.false_eq_true, if_false]
    unfold preCall
    rw [show CS.settle 50 = false from rfl]
    unfold doCall
    rw [show CS.prims 50 = none from rfl, show CS.byRef 50 = false from rfl]
    simp only [Bool.false_eq_true, if_false]
    rw [show frzL _ [AV.ptr 1 0 0 0, AV.ptr 0 0 0 0] = none from rfl]
    simp only
    have e : callW CS (exec CS (k + 20)) = call CS (k + 20) := rfl
    rw [e, hr]
  · exact h.elim

def conN (bs : List Int) : Con CS where
  T := fun n f => match Nat.beq f 50 with
    | true => some (T50S bs n)
    | false => none
  ok := fun n f T h args H K hk => by
    simp only at h
    split at h
    · rename_i e
      cases h
      rw [Nat.eq_of_beq_eq_true e]
      exact T50S_ok bs n args H K hk
    · cases h


/-! ### binds -/

def byteP (z : Int) : Prop := 0 ≤ z ∧ z < 256
def shortS (s : ByteArray) : Prop := s.data.toList.length ≤ 64
def s15 (i j : Int) : Script := { inl := inlS, op := fun d => if d = 16 then some (.int i) else if d = 49 then some (.int j) else if d = 22 then some (.anyI byteP) else if d = 55 then some (.anyI byteP) else if d = 37 then some .idxI else if d = 69 then some (.idxSP shortS) else none }

def pickI (a b c d i : Int) : Prop := ∃ z, (if i < 0 then none else (([a, b, c, d].map fun x => [AV.sc (.int .i64 x)])[i.toNat]?).map fun row => AV.rp row 0) = some (AV.rp [AV.sc (.int .i64 z)] 0)
def pickS (i : Int) : Prop := ∃ z, (if i < 0 then none else ((([[], [97], [98], [97, 98]] : List (List UInt8)).map fun x => [AV.sc (.string ⟨⟨x⟩⟩)])[i.toNat]?).map fun row => AV.rp row 0) = some (AV.rp [AV.sc (.string z)] 0) ∧ shortS z

def evtA (t z y : Int) : List AV := [.sc (.int .i64 t), .ro 3 [[.sc (.int .i64 1), .sc (.int .i64 (IntKind.i64.wrap (z.tmod 7 - 3))), .sc (.string ⟨⟨[]⟩⟩)], [.sc (.int .i64 1), .sc (.int .i64 y), .sc (.string ⟨⟨[]⟩⟩)]] (some 2)]
def evtB (t z : Int) (s : ByteArray) : List AV := [.sc (.int .i64 t), .ro 3 [[.sc (.int .i64 1), .sc (.int .i64 (z.tmod 3)), .sc (.string ⟨⟨[]⟩⟩)], [.sc (.int .i64 1), .sc (.int .i64 (IntKind.i64.wrap (IntKind.i64.wrap (z.tdiv 3) - 40))), .sc (.string ⟨⟨[]⟩⟩)], [.sc (.int .i64 3), .sc (.int .i64 0), .sc (.string s)], [.sc (.int .i64 2), .sc (.int .i64 (z.tmod 2)), .sc (.string ⟨⟨[]⟩⟩)]] (some 4)]

def runEA (bs : List Int) (m : AV) : Nat → Int → List (List AV) → (Int → List (List AV) → Prop) → Prop
  | 0, x, acc, k => k x acc
  | i + 1, x, acc, k => okN bs m x ∧ byteP (byteAt bs x) ∧ ∀ z, byteP z → pickI (IntKind.i64.wrap (z.tdiv 7)) (-9223372036854775808) 9223372036854775807 (IntKind.i64.wrap (0 - z)) (z.tmod 4) ∧ ∀ y : Int, runEA bs m i (nextAt bs x) (acc ++ [evtA i z y]) k
def runEB (bs : List Int) (m : AV) : Nat → Int → List (List AV) → (List (List AV) → Prop) → Prop
  | 0, x, acc, k => k acc
  | i + 1, x, acc, k => okN bs m x ∧ byteP (byteAt bs x) ∧ ∀ z, byteP z → pickS (z.tmod 4) ∧ ∀ s : ByteArray, shortS s → runEB bs m i (nextAt bs x) (acc ++ [evtB (i + 1 : Nat) z s]) k

def listA (es : List (List AV)) : AV := match es with
  | [] => .sc (.slice none 0 0)
  | e :: es => .ro 2 (e :: es) none
def strA1 (c : UInt8) : AV := .sc (.string ⟨⟨[c]⟩⟩)
def rowsBind (ea eb : List (List AV)) : List (List AV) := [[strA1 97, .ro 1 [[strA1 107], [strA1 120]] (some 2), listA ea], [strA1 98, .ro 1 [[strA1 107], [strA1 121], [strA1 115], [strA1 116]] (some 4), listA eb]]

def runB15 (bs : List Int) (m : AV) (i j : Nat) (K : AV → Prop) : Prop :=
  okN bs m 0 ∧ (byteAt bs 0).tmod 3 = i ∧ runEA bs m (i + 1) (nextAt bs 0) [] fun x ea => okN bs m x ∧ (byteAt bs x).tmod 4 = j ∧ runEB bs m j (nextAt bs x) [] fun eb => K (.ro 3 (rowsBind ea eb) (some 2))

theorem tree15a (bs : List Int) (cap : Option Nat) (Q : CRes → Prop) : callPC CS (conN bs) (s15 1 2) 100 15 [.ro 1 (mRows bs) cap] [] (fun r _ => Q r) = runB15 bs (.ro 1 (mRows bs) cap) 1 2 (fun v => Q (.ret v)) := by kernel_rfl

theorem tree15 (bs : List Int) (cap : Option Nat) (i j : Nat) (hi : i = 0 ∨ i = 1 ∨ i = 2) (hj : j = 0 ∨ j = 1 ∨ j = 2 ∨ j = 3) (Q : CRes → Prop) :
    callPC CS (conN bs) (s15 i j) 100 15 [.ro 1 (mRows bs) cap] [] (fun r _ => Q r) = runB15 bs (.ro 1 (mRows bs) cap) i j (fun v => Q (.ret v)) := by
  rcases hi with rfl | rfl | rfl <;> rcases hj with rfl | rfl | rfl | rfl <;> kernel_rfl

theorem tree15n (Q : CRes → Prop) : callPC CS (conN []) (s15 ((0 : Nat) : Int) ((0 : Nat) : Int)) 100 15 [.sc (.slice none 0 0)] [] (fun r _ => Q r) = runB15 [] (.sc (.slice none 0 0)) 0 0 (fun v => Q (.ret v)) := by kernel_rfl

/-! ### what they are -/

theorem pickI_of {a b c d : Int} {i : Int} (h0 : 0 ≤ i) (h1 : i < 4) : pickI a b c d i := by
  have : i = 0 ∨ i = 1 ∨ i = 2 ∨ i = 3 := by omega
  rcases this with rfl | rfl | rfl | rfl
  · exact ⟨a, rfl⟩
  · exact ⟨b, rfl⟩
  · exact ⟨c, rfl⟩
  · exact ⟨d, rfl⟩

theorem pickS_of {i : Int} (h0 : 0 ≤ i) (h1 : i < 4) : pickS i := by
  have : i = 0 ∨ i = 1 ∨ i = 2 ∨ i = 3 := by omega
  rcases this with rfl | rfl | rfl | rfl
  · exact ⟨⟨⟨[]⟩⟩, rfl, by unfold shortS; decide⟩
  · exact ⟨⟨⟨[97]⟩⟩, rfl, by unfold shortS; decide⟩
  · exact ⟨⟨⟨[98]⟩⟩, rfl, by unfold shortS; decide⟩
  · exact ⟨⟨⟨[97, 98]⟩⟩, rfl, by unfold shortS; decide⟩

theorem byteP_4 {z : Int} (h : byteP z) : 0 ≤ z.tmod 4 ∧ z.tmod 4 < 4 := by
  obtain ⟨h1, h2⟩ := h
  rw [Int.tmod_eq_emod_of_nonneg h1]
  omega

def posAt (bs : List Int) : Nat → Int → Int
  | 0, x => x
  | i + 1, x => posAt bs i (nextAt bs x)

theorem posAt_range {bs : List Int} : ∀ (i : Nat) (x : Int), 0 ≤ x → x ≤ bs.length → 0 ≤ posAt bs i x ∧ posAt bs i x ≤ bs.length
  | 0, x, h0, h1 => ⟨h0, h1⟩
  | i + 1, x, h0, h1 => posAt_range i _ (nextAt_range h0 h1).1 (nextAt_range h0 h1).2

theorem runEA_all {bs : List Int} {m : AV} (hm : IsM bs m) : ∀ (i : Nat) (x : Int) (acc : List (List AV)) (k : Int → List (List AV) → Prop), 0 ≤ x → x ≤ bs.length →
    (∀ ys, ys.length = i → (∀ e ∈ ys, ∃ t z y, e = evtA t z y) → k (posAt bs i x) (acc ++ ys)) → runEA bs m i x acc k
  | 0, x, acc, k, h0, h1, hk => by
    have := hk [] rfl (fun e he => by cases he)
    rwa [List.append_nil] at this
  | i + 1, x, acc, k, h0, h1, hk => by
    refine ⟨⟨hm, h0, h1⟩, byteAt_range hm.byte x, fun z hz => ⟨pickI_of (byteP_4 hz).1 (byteP_4 hz).2, fun y => ?_⟩⟩
    have hn := nextAt_range h0 h1
    refine runEA_all hm i _ _ k hn.1 hn.2 fun ys gl ge => ?_
    rw [List.append_assoc]
    refine hk _ (by simp [gl]) fun e he => ?_
    simp only [List.singleton_append, List.mem_cons] at he
    rcases he with rfl | he
    · exact ⟨_, _, _, rfl⟩
    · exact ge e he

theorem runEB_all {bs : List Int} {m : AV} (hm : IsM bs m) : ∀ (i : Nat) (x : Int) (acc : List (List AV)) (k : List (List AV) → Prop), 0 ≤ x → x ≤ bs.length →
    (∀ ys, ys.length = i → (∀ e ∈ ys, ∃ t z s, byteP z ∧ shortS s ∧ e = evtB t z s) → k (acc ++ ys)) → runEB bs m i x acc k
  | 0, x, acc, k, h0, h1, hk => by
    have := hk [] rfl (fun e he => by cases he)
    rwa [List.append_nil] at this
  | i + 1, x, acc, k, h0, h1, hk => by
    refine ⟨⟨hm, h0, h1⟩, byteAt_range hm.byte x, fun z hz => ⟨pickS_of (byteP_4 hz).1 (byteP_4 hz).2, fun s hs => ?_⟩⟩
    have hn := nextAt_range h0 h1
    refine runEB_all hm i _ _ k hn.1 hn.2 fun ys gl ge => ?_
    rw [List.append_assoc]
    refine hk _ (by simp [gl]) fun e he => ?_
    simp only [List.singleton_append, List.mem_cons] at he
    rcases he with rfl | he
    · exact ⟨_, _, _, hz, hs, rfl⟩
    · exact ge e he

/-- What is told of binds by bytes. -/
theorem binds_all {bs : List Int} {m : AV} (hm : IsM bs m) : ∃ ea eb : List (List AV), (ea.length = 1 ∨ ea.length = 2 ∨ ea.length = 3) ∧ (eb.length = 0 ∨ eb.length = 1 ∨ eb.length = 2 ∨ eb.length = 3) ∧
    (∀ e ∈ ea, ∃ t z y, e = evtA t z y) ∧ (∀ e ∈ eb, ∃ t z s, byteP z ∧ shortS s ∧ e = evtB t z s) ∧ ToEnd 100 15 [m] (.ret (.ro 3 (rowsBind ea eb) (some 2))) := by
  have h0 := byteAt_range hm.byte 0
  have hi : (byteAt bs 0).tmod 3 = (byteAt bs 0) % 3 := Int.tmod_eq_emod_of_nonneg h0.1
  obtain ⟨i, hi'⟩ : ∃ i : Nat, (byteAt bs 0).tmod 3 = i := ⟨((byteAt bs 0) % 3).toNat, by omega⟩
  have hx := nextAt_range (bs := bs) (x := 0) (by omega) (by omega)
  have hy := posAt_range (i + 1) _ hx.1 hx.2
  have h1 := byteAt_range hm.byte (posAt bs (i + 1) (nextAt bs 0))
  have hj : (byteAt bs (posAt bs (i + 1) (nextAt bs 0))).tmod 4 = (byteAt bs (posAt bs (i + 1) (nextAt bs 0))) % 4 := Int.tmod_eq_emod_of_nonneg h1.1
  obtain ⟨j, hj'⟩ : ∃ j : Nat, (byteAt bs (posAt bs (i + 1) (nextAt bs 0))).tmod 4 = j := ⟨((byteAt bs (posAt bs (i + 1) (nextAt bs 0))) % 4).toNat, by omega⟩
  have hi3 : i = 0 ∨ i = 1 ∨ i = 2 := by omega
  have hj4 : j = 0 ∨ j = 1 ∨ j = 2 ∨ j = 3 := by omega
  let Q : CRes → Prop := fun r => ∃ ea eb : List (List AV), ea.length = i + 1 ∧ eb.length = j ∧ (∀ e ∈ ea, ∃ t z y, e = evtA t z y) ∧ (∀ e ∈ eb, ∃ t z s, byteP z ∧ shortS s ∧ e = evtB t z s) ∧ r = .ret (.ro 3 (rowsBind ea eb) (some 2))
  have hr : runB15 bs m i j (fun v => Q (.ret v)) := by
    refine ⟨⟨hm, by omega, by omega⟩, hi', runEA_all hm (i + 1) _ [] _ hx.1 hx.2 fun ea la ga => ⟨⟨hm, hy.1, hy.2⟩, hj', ?_⟩⟩
    have hz := nextAt_range hy.1 hy.2
    refine runEB_all hm j _ [] _ hz.1 hz.2 fun eb lb gb => ⟨ea, eb, la, lb, ga, gb, rfl⟩
  have fin : (∃ r, call CS 100 15 [m] [] = some r ∧ Q r.1) := by
    rcases hm.form with ⟨cap, rfl⟩ | ⟨rfl, rfl⟩
    · exact byTree (tree15 bs cap i j hi3 hj4 Q) hr
    · have e : ∀ x, 0 ≤ x → byteAt [] x = 0 := fun x hx => by unfold byteAt; rw [if_neg (by simpa using hx)]
      rw [e 0 (by omega)] at hi'
      rw [e _ hy.1] at hj'
      have hi0 : i = 0 := by simp at hi'; omega
      have hj0 : j = 0 := by simp at hj'; omega
      subst hi0 hj0
      exact byTree (tree15n Q) hr
  obtain ⟨⟨r, H1⟩, hc, ea, eb, la, lb, ga, gb, hrr⟩ := fin
  simp only at hrr
  subst hrr
  exact ⟨ea, eb, by omega, by omega, ga, gb, ⟨H1, hc⟩⟩

end Go.Ai
