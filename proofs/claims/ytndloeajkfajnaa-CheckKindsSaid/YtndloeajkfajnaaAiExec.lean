import Derived.Test.YtndloeajkfajnaaAiCore
set_option linter.unusedVariables false
namespace Go.Ai

/-! ### renaming: what stands from 'base' on is kept where 'ids' names it (block, edition), and stands then from 'tgt' on, in edition 0 -/

def renB (base tgt : Nat) (ids : List (Nat × Nat)) (b g : Nat) : Option (Nat × Nat) :=
  if b < base then some (b, g) else (ids.findIdx? fun p => p.1 == b && p.2 == g).map fun k => (tgt + k, 0)

mutual
def ren (base tgt : Nat) (ids : List (Nat × Nat)) : AV → AV
  | .ptr b g i o => match renB base tgt ids b g with
    | some p => .ptr p.1 p.2 i o
    | none => .undef
  | .sl b g s l c => match renB base tgt ids b g with
    | some p => .sl p.1 p.2 s l c
    | none => .undef
  | .mp b => match renB base tgt ids b 0 with
    | some p => .mp p.1
    | none => .undef
  | .agg cs => .agg (renL base tgt ids cs)
  | .tup cs => .tup (renL base tgt ids cs)
  | .fn f cs => .fn f (renL base tgt ids cs)
  | .ifc t v => .ifc t (ren base tgt ids v)
  | v => v
def renL (base tgt : Nat) (ids : List (Nat × Nat)) : List AV → List AV
  | [] => []
  | c :: cs => ren base tgt ids c :: renL base tgt ids cs
end

def renBlk (base tgt : Nat) (ids : List (Nat × Nat)) : Blk → Blk
  | .cells size g es fz => .cells size g (es.map (renL base tgt ids)) fz
  | .map es clock => .map (es.map fun e => (e.1, ren base tgt ids e.2.1, e.2.2)) clock
  | .miter (some b) a c d => match renB base tgt ids b 0 with
    | some p => .miter (some p.1) a c d
    | none => .dead
  | k => k

mutual
/-- The blocks from 'base' on that a value leads to. -/
def refs (base : Nat) : AV → List Nat
  | .ptr b _ _ _ | .sl b _ _ _ _ | .mp b => if b < base then [] else [b]
  | .agg cs | .tup cs | .fn _ cs => refsL base cs
  | .ifc _ v => refs base v
  | _ => []
def refsL (base : Nat) : List AV → List Nat
  | [] => []
  | c :: cs => refs base c ++ refsL base cs
end

def refsBlk (base : Nat) : Blk → List Nat
  | .cells _ _ es _ => es.flatMap (refsL base)
  | .map es _ => es.flatMap fun e => refs base e.2.1
  | .miter (some b) _ _ _ => if b < base then [] else [b]
  | _ => []

def reach (base : Nat) (H : List Blk) : Nat → List Nat → List Nat → List Nat
  | 0, _, seen => seen
  | _ + 1, [], seen => seen
  | n + 1, b :: todo, seen =>
    if seen.contains b then reach base H n todo seen
    else reach base H n (((H[b]?).map (refsBlk base)).getD [] ++ todo) (seen ++ [b])

def genOf (H : List Blk) (b : Nat) : Nat := match H[b]? with | some (.cells _ g _ _) => g | _ => 0

def setGen : Blk → Blk
  | .cells size _ es fz => .cells size 0 es fz
  | k => k

/-- Another call's blocks that a value leads to become blocks of this one. -/
def adopt (H : List Blk) (at_ : Option Nat) (H1 : List Blk) (v : AV) : Option (AV × List Blk) :=
  let l := reach 0 H1 100000 (refs 0 v) []
  let ids := l.map fun b => (b, genOf H1 b)
  match at_ with
  | none => some (ren 0 H.length ids v, H ++ l.map fun b => setGen (renBlk 0 H.length ids ((H1[b]?).getD .dead)))
  | some a => match l, H[a]? with
    | [b], some .res => some (ren 0 a ids v, H.set a (setGen (renBlk 0 a ids ((H1[b]?).getD .dead))))
    | _, _ => none

/-! ### forcing: of no sense of their own: they keep the kernel's terms small -/

def seqL {α β : Type} : List α → (List α → β) → β
  | [], k => k []
  | a :: l, k => seqL l fun l' => k (a :: l')
theorem seqL_eq {α β : Type} : ∀ (l : List α) (k : List α → β), seqL l k = k l
  | [], _ => rfl
  | a :: l, k => by simp only [seqL]; rw [seqL_eq l]

def seqN {β : Type} (n : Nat) (k : Nat → β) : β := match n with
  | 0 => k 0
  | m + 1 => k (m + 1)
theorem seqN_eq {β : Type} (n : Nat) (k : Nat → β) : seqN n k = k n := by cases n <;> rfl

def seqV {β : Type} (v : AV) (k : AV → β) : β := match v with
  | .sc (.int d (.ofNat n)) => seqN n fun n => k (.sc (.int d (.ofNat n)))
  | .sc (.int d (.negSucc n)) => seqN n fun n => k (.sc (.int d (.negSucc n)))
  | .sc (.bool true) => k (.sc (.bool true))
  | .sc (.bool false) => k (.sc (.bool false))
  | .sc (.string ⟨⟨l⟩⟩) => seqL l fun l => k (.sc (.string ⟨⟨l⟩⟩))
  | .agg cs => seqL cs fun cs => k (.agg cs)
  | .tup cs => seqL cs fun cs => k (.tup cs)
  | .ro s es c => seqL es fun es => k (.ro s es c)
  | v => k v
theorem seqV_eq {β : Type} (v : AV) (k : AV → β) : seqV v k = k v := by
  unfold seqV
  split <;> simp only [seqL_eq, seqN_eq]

def unit : AV := .sc (.tuple #[])

/-- A slot's value. -/
def getT : Tm → Nat → AV
  | [], _ => .undef
  | (k, v) :: r, t => match Nat.beq k t with
    | true => v
    | false => getT r t

def renT (base tgt : Nat) (ids : List (Nat × Nat)) : Tm → Tm
  | [] => []
  | (k, v) :: r => (k, ren base tgt ids v) :: renT base tgt ids r

def refsT (base : Nat) : Tm → List Nat
  | [] => []
  | (_, v) :: r => refs base v ++ refsT base r

/-- Blocks from L on that nothing leads to any more are forgotten. -/
def compact (L : Nat) (st : St) : St :=
  if st.heap.length = L then st else if st.defers.isEmpty = false then st else
  let outer := st.heap.take L
  let oroots := outer.flatMap (refsBlk L)
  let l := reach L st.heap 100000 (refsT L st.tmps ++ oroots) []
  let ids := l.map fun b => (b, genOf st.heap b)
  let outer' := if oroots.isEmpty then outer else outer.map (renBlk L L ids)
  { st with tmps := renT L L ids st.tmps,
            heap := outer' ++ l.map fun b => setGen (renBlk L L ids ((st.heap[b]?).getD .dead)) }

def isUndef : AV → Bool
  | .undef => true
  | _ => false

/-- The slots that a code writes. -/
def writes : Code → List Nat
  | .region _ ops _ => ops.toList.filterMap (·.dst)
  | .seq a b => writes a ++ writes b
  | .cond _ a b => writes a ++ writes b
  | .block _ b => writes b
  | .loop b => writes b
  | .scope b => writes b
  | _ => []

/-- Of those the ones that bear something where a loop begins. -/
def carried (tmps : Tm) : List Nat → List Nat → List Nat
  | [], acc => acc
  | s :: r, acc => if acc.contains s || isUndef (getT tmps s) then carried tmps r acc else carried tmps r (s :: acc)

def takeTm (tmps : Tm) : List Nat → Tm → Tm
  | [], e => e
  | s :: r, e => (s, getT tmps s) :: takeTm tmps r e

def takeK {β : Type} (tmps : Tm) : List Nat → Tm → (Tm → β) → β
  | [], e, k => k e
  | s :: r, e, k => takeK tmps r e fun e' => seqV (getT tmps s) fun v => k ((s, v) :: e')

theorem takeK_eq {β : Type} (tmps : Tm) : ∀ (W : List Nat) (e : Tm) (k : Tm → β), takeK tmps W e k = k (takeTm tmps W e)
  | [], _, _ => rfl
  | s :: r, e, k => by simp only [takeK, takeTm, seqV_eq]; rw [takeK_eq tmps r e]

/-- At a loop's head: what was not known when the loop began is not known. -/
def nrm (W : List Nat) (entry : St) (st : St) : St :=
  compact entry.heap.length ⟨st.n, takeTm st.tmps W entry.tmps, st.heap, st.defers⟩

def nrmK {β : Type} (W : List Nat) (entry : St) (st : St) (k : St → β) : β :=
  takeK st.tmps W entry.tmps fun t => match compact entry.heap.length ⟨st.n, t, st.heap, st.defers⟩ with
    | ⟨n, t, H, d⟩ => seqL H fun H => k ⟨n, t, H, d⟩

theorem nrmK_eq {β : Type} (W : List Nat) (entry : St) (st : St) (k : St → β) : nrmK W entry st k = k (nrm W entry st) := by
  simp only [nrmK, takeK_eq, seqL_eq, nrm]

/-! ### one operation -/

inductive ORes where
  | val (v : AV) (H : List Blk)
  | skip (H : List Blk)
  | pan (v : AV) (H : List Blk)
  | dfr (f : FuncId) (caps : List AV)

def ev (tmps : Tm) : Operand → Option AV
  | .tmp t => some (getT tmps t)
  | .const v => some (absV v)
  | .global _ => none
  | .func f => some (.fn f [])

def evL (tmps : Tm) : List Operand → Option (List AV)
  | [] => some []
  | x :: xs => match ev tmps x, evL tmps xs with
    | some v, some vs => some (v :: vs)
    | _, _ => none

abbrev CallT := FuncId → List AV → List Blk → Option (CRes × List Blk)

def doCall (C : Ctx) (call : CallT) (at_ : Option Nat) (f : FuncId) (args : List AV) (H : List Blk) : Option ORes :=
  match C.prims f with
  | some F => match frzL H args with
    | some us => match F us with
      | some v => if isScalar v then some (.val v H) else if isData v then some (.val v (mark H (slIdsL args))) else none
      | none => none
    | none => none
  | none =>
    match (if C.byRef f then none else frzL H args) with
    | some us => match call f us [] with
      | some (.ret v, H1) =>
        if isScalar v then some (.val v H) else
        let H' := mark H (slIdsL args)
        match (if C.keep f then none else frz H1 v) with
        | some v' => some (.val v' H')
        | none => (adopt H' at_ H1 v).map fun r => .val r.1 r.2
      | some (.pan v, H1) => (frz H1 v).map fun v' => .pan v' (mark H (slIdsL args))
      | none => none
    | none => match at_, call f args H with
      | none, some (.ret v, H1) => some (.val v H1)
      | none, some (.pan v, H1) => some (.pan v H1)
      | _, _ => none

/-- A function of no body that the model answers itself, from plain values. -/
def externA (C : Ctx) (f : FuncId) (args : List AV) : Option AV :=
  match concL args with
  | some vs => match pureRun C.P (callFunc f vs.toArray) with
    | some (.value r) => some (absV r)
    | _ => none
  | none => none

def callA (C : Ctx) (call : CallT) (at_ : Option Nat) (f : FuncId) (args : List AV) (H : List Blk) : Option ORes :=
  if C.ext f then (externA C f args).map fun v => .val v H else doCall C call at_ f args H

def valOf (r : Option (AV × List Blk)) : Option ORes := r.map fun p => .val p.1 p.2

def snapOne (H : List Blk) : AV → Option AV
  | .ptr b g 0 0 => match H[b]? with
    | some (.cells _ g' [row] _) => if g = g' ∧ isDataL row = true then some (AV.rp row 0) else none
    | _ => none
  | c => if isData c then some c else none

def snapL (H : List Blk) : List AV → Option (List AV)
  | [] => some []
  | c :: cs => match snapOne H c, snapL H cs with
    | some v, some vs => some (v :: vs)
    | _, _ => none

def ptrIds : List AV → List Nat
  | [] => []
  | .ptr b _ _ _ :: cs => b :: ptrIds cs
  | _ :: cs => ptrIds cs

def capOf (C : Ctx) (H : List Blk) (f : FuncId) (cs : List AV) : Option (List AV × List Blk) :=
  if C.snap f then (snapL H cs).map fun l => (l, mark H (ptrIds cs)) else some (cs, H)

/-! ### ranges over texts; maps -/

def rangeA (P : Program) (H : List Blk) (at_ : Option Nat) (t : TypeId) (x : AV) : Option (AV × List Blk) :=
  match P.underlying t, x with
  | some .string, .sc (.string s) => (newAt H at_ (.siter s 0)).map fun r => (.ptr r.1 0 0 0, r.2)
  | _, _ => none

def nextA (H : List Blk) (it : AV) (isString : Bool) : Option (AV × List Blk) :=
  match it, isString with
  | .ptr b 0 0 0, true => match H[b]? with
    | some (.siter s pos) =>
      if pos < s.size then
        some (.tup [.sc (.bool true), .sc (goInt pos), .sc (.int .i32 (Utf8.decode s pos).1)], H.set b (.siter s (pos + (Utf8.decode s pos).2)))
      else some (.tup [.sc (.bool false)], H)
    | _ => none
  | _, _ => none

def keyKind : TypeDesc → Bool
  | .int _ | .string | .bool => true
  | _ => false

def findNowA (d : TypeDesc) (k : Value) : List (Value × AV × Nat) → Nat → Option (Option Nat)
  | [], _ => some none
  | e :: es, i => match Instr.sameNow d k e.1 with
    | some true => some (some i)
    | some false => findNowA d k es (i + 1)
    | none => none

def findAskA (P : Program) (kt : TypeId) (k : Value) : List (Value × AV × Nat) → Nat → Option (Option Nat)
  | [], _ => some none
  | e :: es, i => match pureRun P (Op.equal kt k e.1) with
    | some true => some (some i)
    | some false => findAskA P kt k es (i + 1)
    | none => none

def findA (P : Program) (kt : TypeId) (k : Value) (es : List (Value × AV × Nat)) : Option (Option Nat) :=
  match P.underlying kt with
  | some d => if keyKind d then findNowA d k es 0 else findAskA P kt k es 0
  | none => none

def entsA (H : List Blk) : AV → Option (List (Value × AV × Nat))
  | .sc (.map none) => some []
  | .mp b => match H[b]? with
    | some (.map es _) => some es
    | _ => none
  | _ => none

def lookupA (P : Program) (H : List Blk) (t : TypeId) (x ix : AV) (commaOk : Bool) : Option AV :=
  match P.underlying t with
  | some (.map kt et) => match conc ix, entsA H x, zeroT P et with
    | some k, some es, some z => match pureRun P (Instr.checkKey es.isEmpty 10000 kt k), findA P kt k es with
      | some _, some (some i) => match es[i]? with
        | some e => some (if commaOk then .tup [e.2.1, .sc (.bool true)] else e.2.1)
        | none => none
      | some _, some none => some (if commaOk then .tup [absV z, .sc (.bool false)] else absV z)
      | _, _ => none
    | _, _, _ => none
  | _ => none

def mapUpdateA (P : Program) (H : List Blk) (t : TypeId) (m ix v : AV) : Option (List Blk) :=
  match P.underlying t, m, conc ix with
  | some (.map kt _), .mp b, some k => match H[b]? with
    | some (.map es clock) => match pureRun P (Instr.checkKey false 10000 kt k), findA P kt k es with
      | some _, some (some i) => match es[i]? with
        | some e => if Instr.sameBits 10000 e.1 k then some (H.set b (.map (es.set i (k, v, e.2.2)) clock)) else none
        | none => none
      | some _, some none => some (H.set b (.map (es ++ [(k, v, clock)]) (clock + 1)))
      | _, _ => none
    | _ => none
  | _, _, _ => none

def deleteA (P : Program) (H : List Blk) (t : TypeId) (m ix : AV) : Option (List Blk) :=
  match P.underlying t, m, conc ix with
  | some (.map kt _), .sc (.map none), some k => match pureRun P (Instr.checkKey true 10000 kt k) with
    | some _ => some H
    | none => none
  | some (.map kt _), .mp b, some k => match H[b]? with
    | some (.map es clock) => match pureRun P (Instr.checkKey es.isEmpty 10000 kt k), findA P kt k es with
      | some _, some (some i) => some (H.set b (.map (es.eraseIdx i) clock))
      | some _, some none => some H
      | _, _ => none
    | _ => none
  | _, _, _ => none

def clearA (P : Program) (H : List Blk) (t : TypeId) (x : AV) : Option (List Blk) :=
  match P.underlying t, x with
  | some (.map ..), .sc (.map none) => some H
  | some (.map ..), .mp b => match H[b]? with
    | some (.map _ clock) => some (H.set b (.map [] clock))
    | _ => none
  | some (.slice _), .sc (.slice none 0 0) => some H
  | some (.slice elem), .sl b g start len _ => match H[b]?, szT P elem, (zeroT P elem).bind (fun z => cellsA (absV z)) with
    | some (.cells sz g' es false), some size, some zs =>
      if len = 0 then some H else
      if sz = size ∧ size ≠ 0 ∧ zs.length = size ∧ g = g' ∧ start + len ≤ es.length then
        some (H.set b (.cells sz g (es.take start ++ List.replicate len zs ++ es.drop (start + len)) false)) else none
    | _, _, _ => none
  | _, _ => none

def evalOp (C : Ctx) (call : CallT) (at_ : Option Nat) (tmps : Tm) (H : List Blk) (o : Oper) : Option ORes :=
  let P := C.P
  let pure1 (r : Option AV) : Option ORes := r.map fun v => .val v H
  match o.op with
  | .move x | .assign x => pure1 (ev tmps x)
  | .pick c a b => match ev tmps c with
    | some (.sc (.bool t)) => pure1 (if t then ev tmps a else ev tmps b)
    | _ => none
  | .alloc t => valOf (allocA P H at_ t)
  | .box _ x => (ev tmps x).bind fun v => valOf (boxA H at_ v)
  | .build t ps => (evL tmps (ps.toList.map (·.2))).bind fun vs => pure1 (buildA P t ((ps.toList.map (·.1)).zip vs))
  | .buildSlice t n ps => (evL tmps (ps.toList.map (·.2))).bind fun vs => valOf (buildSliceA P H at_ t n ((ps.toList.map (·.1)).zip vs))
  | .load t a => (ev tmps a).bind fun v => pure1 (loadA P H t v)
  | .store t a x => match ev tmps a, ev tmps x with
    | some a, some v => (storeA P H t a v).map .skip
    | _, _ => none
  | .nilCheck x => match ev tmps x with
    | some (.ptr b g i off) => pure1 (some (.ptr b g i off))
    | some (.rp r off) => pure1 (some (.rp r off))
    | some (.fn f cs) => pure1 (some (.fn f cs))
    | _ => none
  | .binOp op t x y _ => match ev tmps x, ev tmps y with
    | some a, some b => pure1 (binA P op t x y a b)
    | _, _ => none
  | .unOp op _ x => pure1 (((ev tmps x).bind conc).bind fun v => (pureRun P (Op.unary op v)).map absV)
  | .convert s d x => (ev tmps x).bind fun v => pure1 (convertA P H s d v)
  | .makeInterface t x => match P.underlying t with
    | some (.interface _) | none => none
    | _ => pure1 ((ev tmps x).map (.ifc t))
  | .makeFunc (.func f) fs cs => if fs.size = 0 then
      (evL tmps cs.toList).bind fun cs => (capOf C H f cs).map fun r => .val (.fn f r.1) r.2 else none
  | .makeMap _ none => valOf ((newAt H at_ (.map [] 0)).map fun r => (.mp r.1, r.2))
  | .makeSlice t l c => match ev tmps l, ev tmps c with
    | some l, some c => valOf (makeSliceA P H at_ t l c)
    | _, _ => none
  | .slice t x lo hi mx => match ev tmps x, lo.mapM (ev tmps), hi.mapM (ev tmps), mx.mapM (ev tmps) with
    | some x, some lo, some hi, some mx => valOf (sliceA P H t x lo hi mx)
    | _, _, _, _ => none
  | .fieldAddr s x f => (ev tmps x).bind fun a => pure1 (fieldAddrA P s a f)
  | .field s x f => (ev tmps x).bind fun a => pure1 (fieldA P s a f)
  | .indexAddr t x i => match ev tmps x, ev tmps i with
    | some x, some i => pure1 (indexAddrA P H t x i)
    | _, _ => none
  | .index t x i => match (ev tmps x).bind conc, (ev tmps i).bind conc with
    | some x, some i => pure1 ((pureRun P (Instr.index t x i)).map absV)
    | _, _ => none
  | .extract t i => match ev tmps t with
    | some (.tup vs) => pure1 vs[i]?
    | _ => none
  | .call { callee := .builtin .append, args, argTypes } => match (evL tmps args.toList) with
    | some [s, x] => valOf (appendA P H at_ argTypes s x)
    | _ => none
  | .call { callee := .builtin .len, args, argTypes } => match (evL tmps args.toList), argTypes[0]? with
    | some [x], some t => pure1 (lenA P H t x)
    | _, _ => none
  | .call { callee := .builtin .max, args, .. } => match (evL tmps args.toList).bind concL with
    | some vs => pure1 ((pureRun P (Builtin.max_ #[] 0 vs.toArray)).map absV)
    | none => none
  | .call { callee := .builtin .min, args, .. } => match (evL tmps args.toList).bind concL with
    | some vs => pure1 ((pureRun P (Builtin.min_ #[] 0 vs.toArray)).map absV)
    | none => none
  | .call { callee := .value f, args, .. } => match ev tmps f, evL tmps args.toList with
    | some (.fn f cs), some us => callA C call at_ f (us ++ cs) H
    | some (.sc (.func (.func f) fs cs)), some us => if fs.size = 0 ∧ cs.size = 0 then callA C call at_ f us H else none
    | _, _ => none
  | .call { callee := .builtin .delete, args, argTypes } => match (evL tmps args.toList), argTypes[0]? with
    | some [m, k], some t => (deleteA P H t m k).map fun H' => .val unit H'
    | _, _ => none
  | .call { callee := .builtin .clear, args, argTypes } => match (evL tmps args.toList), argTypes[0]? with
    | some [x], some t => (clearA P H t x).map fun H' => .val unit H'
    | _, _ => none
  | .range t x => (ev tmps x).bind fun v => valOf (rangeA P H at_ t v)
  | .next it str => (ev tmps it).bind fun v => valOf (nextA H v str)
  | .lookup t x i ok => match ev tmps x, ev tmps i with
    | some x, some i => pure1 (lookupA P H t x i ok)
    | _, _ => none
  | .mapUpdate t m k v | .insert t m k v => match ev tmps m, ev tmps k, ev tmps v with
    | some m, some k, some v => (mapUpdateA P H t m k v).map .skip
    | _, _, _ => none
  | .defer { callee := .value f, args, .. } => match ev tmps f with
    | some (.fn f cs) => if args.size = 0 then some (.dfr f cs) else none
    | _ => none
  | .panic x => match ev tmps x with
    | some (.ifc t v) => some (.pan (.ifc t v) H)
    | _ => none
  | _ => none

def putA (n : Nat) (tmps : Tm) (dst : Option Tmp) (v : AV) : Option Tm :=
  match dst with
  | some d => match Nat.blt d n with
    | true => some ((d, v) :: tmps)
    | false => none
  | none => some tmps

/-- Is an operation asked for? -/
def wantedA (ops : Array Oper) (tmps : Tm) (o : Oper) : Option Bool :=
  match o.guard with
  | none => some true
  | some (j, want) => match (ops[j]?).bind (·.dst) with
    | none => some false
    | some d => match getT tmps d with
      | .sc (.bool b) => some (b == want)
      | .sc (.tuple _) => some false
      | _ => none

def runList (C : Ctx) (call : CallT) (ops : Array Oper) : List Nat → St → Option (Ex × St)
  | [], st => some (.normal, st)
  | i :: rest, st => match ops[i]? with
    | none => runList C call ops rest st
    | some o => match wantedA ops st.tmps o with
      | some true => match evalOp C call none st.tmps st.heap o with
        | some (.val v H) => seqV v fun v => match putA st.n st.tmps o.dst v with
          | some t => seqL H fun H => runList C call ops rest ⟨st.n, t, H, st.defers⟩
          | none => none
        | some (.skip H) => match putA st.n st.tmps o.dst unit with
          | some t => seqL H fun H => runList C call ops rest ⟨st.n, t, H, st.defers⟩
          | none => none
        | some (.dfr f cs) => match putA st.n st.tmps o.dst unit with
          | some t => runList C call ops rest ⟨st.n, t, st.heap, (f, cs) :: st.defers⟩
          | none => none
        | some (.pan v H) => some (.pan v, ⟨st.n, st.tmps, H, st.defers⟩)
        | none => none
      | some false => match putA st.n st.tmps o.dst unit with
        | some t => runList C call ops rest ⟨st.n, t, st.heap, st.defers⟩
        | none => none
      | none => none

end Go.Ai
