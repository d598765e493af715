/-
  AN EVALUATOR OF THE LOADED PROGRAM'S CODE ON ABSTRACT VALUES: slices that nobody writes any more bear their elements; what a call makes and may yet write stands in an abstract heap. Definitions alone; that it tells what the machine does stands in the texts behind this one.
-/
import GoSem.Step
import Derived.Defers
import Derived.Orders
import Derived.Laws.MakeOwn
set_option linter.unusedVariables false
namespace Go.Ai

/-- The part of an operation that asks neither memory nor the tape. -/
def pureRun {α : Type} (P : Program) : Sem α → Option α
  | .pure a => some a
  | .program k => pureRun P (k P)
  | .mark _ k => pureRun P k
  | _ => none

theorem pureRun_run {α : Type} (P : Program) : ∀ (s : Sem α) (a : α), pureRun P s = some a → ∀ w, s.run P w = .ok a w
  | .pure _, _, h, w => by simp only [pureRun, Option.some.injEq] at h; subst h; rfl
  | .program k, a, h, w => by
    simp only [pureRun] at h
    simp only [Sem.run]
    exact pureRun_run P (k P) a h w
  | .mark m k, a, h, w => by
    simp only [pureRun] at h
    simp only [Sem.run]
    exact pureRun_run P k a h w
  | .load .., _, h, _ => by simp [pureRun] at h
  | .store .., _, h, _ => by simp [pureRun] at h
  | .new .., _, h, _ => by simp [pureRun] at h
  | .shape .., _, h, _ => by simp [pureRun] at h
  | .freeze .., _, h, _ => by simp [pureRun] at h
  | .frozen .., _, h, _ => by simp [pureRun] at h
  | .getObj .., _, h, _ => by simp [pureRun] at h
  | .setObj .., _, h, _ => by simp [pureRun] at h
  | .choose .., _, h, _ => by simp [pureRun] at h
  | .sys .., _, h, _ => by simp [pureRun] at h
  | .halt .., _, h, _ => by simp [pureRun] at h

/-- Abstract values. 'sc': just that value. 'ptr', 'sl', 'mp': into the abstract heap (block, its edition). 'rp', 'ro': into memory that nobody writes any more. -/
inductive AV where
  | undef
  | sc (v : Value)
  | agg (cs : List AV)
  | tup (vs : List AV)
  | ptr (b g i off : Nat)
  | rp (cs : List AV) (off : Nat)
  | sl (b g start len : Nat) (cap : Option Nat)
  | ro (size : Nat) (es : List (List AV)) (cap : Option Nat)
  | mp (b : Nat)
  | fn (f : FuncId) (caps : List AV)
  | ifc (t : TypeId) (v : AV)
  deriving Inhabited

/-- Abstract blocks: 'cells': rows of one size, the edition, and whether what stands there is written no more. -/
inductive Blk where
  | res
  | dead
  | cells (size g : Nat) (es : List (List AV)) (fz : Bool)
  | map (es : List (Value × AV × Nat)) (clock : Nat)
  | siter (s : ByteArray) (pos : Nat)
  | miter (m : Option Nat) (since : Nat) (seen : List Nat) (stepped : Nat)
  deriving Inhabited

abbrev Tm := List (Nat × AV)

structure St where
  n : Nat
  tmps : Tm
  heap : List Blk
  defers : List (FuncId × List AV)
  deriving Inhabited

inductive Ex where
  | normal
  | exit (id : Nat)
  | ret
  | pan (v : AV)
  deriving Inhabited

inductive CRes where
  | ret (v : AV)
  | pan (v : AV)
  deriving Inhabited

/-- What a place's evaluator is given besides the program. -/
structure Ctx where
  P : Program
  byRef : FuncId → Bool := fun _ => false
  keep : FuncId → Bool := fun _ => false
  snap : FuncId → Bool := fun _ => false
  ext : FuncId → Bool := fun _ => false
  own : TypeId → Bool := fun _ => false
  settle : FuncId → Bool := fun _ => false
  lone : FuncId → Bool := fun _ => false
  prims : FuncId → Option (List AV → Option AV) := fun _ => none
  recs : FuncId → Option (List AV → Option AV → List Blk → Option (Bool × List Blk)) := fun _ => none

/-! ### plain helpers on values -/

def abs1 : Value → AV
  | .agg cs => .agg (cs.toList.map .sc)
  | v => .sc v

def absV : Value → AV
  | .tuple vs => if vs.size = 0 then .sc (.tuple vs) else .tup (vs.toList.map abs1)
  | v => abs1 v

mutual
def conc : AV → Option Value
  | .sc v => some v
  | .agg cs => (concL cs).map fun l => .agg l.toArray
  | .tup cs => (concL cs).map fun l => .tuple l.toArray
  | .ifc t v => (conc v).map (.iface t)
  | .fn f cs => (concL cs).map fun l => .func (.func f) #[] l.toArray
  | _ => none
def concL : List AV → Option (List Value)
  | [] => some []
  | c :: cs => match conc c, concL cs with
    | some v, some vs => some (v :: vs)
    | _, _ => none
end

/-- One cell's value. -/
def single : AV → Bool
  | .sc (.agg _) | .sc (.tuple _) => false
  | .sc _ | .ptr .. | .rp .. | .sl .. | .ro .. | .mp _ | .fn .. | .ifc .. => true
  | _ => false

def cellsA : AV → Option (List AV)
  | .agg cs => if cs.all single then some cs else none
  | .sc (.agg cs) => let l := cs.toList.map AV.sc; if l.all single then some l else none
  | v => if single v then some [v] else none

mutual
/-- Holds nothing of the abstract heap. -/
def isData : AV → Bool
  | .sc _ | .rp .. | .ro .. => true
  | .agg cs | .tup cs | .fn _ cs => isDataL cs
  | .ifc _ v => isData v
  | _ => false
def isDataL : List AV → Bool
  | [] => true
  | c :: cs => isData c && isDataL cs
end

mutual
/-- Holds no slice, pointer, map or function but constants. -/
def isScalar : AV → Bool
  | .sc _ => true
  | .agg cs | .tup cs => isScalarL cs
  | .ifc _ v => isScalar v
  | _ => false
def isScalarL : List AV → Bool
  | [] => true
  | c :: cs => isScalar c && isScalarL cs
end

mutual
/-- An abstract value as one of memory that is written no more: the rows behind its slices must be such themselves. -/
def frz (H : List Blk) : AV → Option AV
  | .sc v => some (.sc v)
  | .rp cs o => some (.rp cs o)
  | .ro s es c => some (.ro s es c)
  | .agg cs => (frzL H cs).map .agg
  | .tup cs => (frzL H cs).map .tup
  | .fn f cs => (frzL H cs).map (.fn f)
  | .ifc t v => (frz H v).map (.ifc t)
  | .sl b g start len cap => match H[b]? with
    | some (.cells size g' es _) =>
      let r := (es.drop start).take len
      if g = g' ∧ start + len ≤ es.length ∧ r.all isDataL = true then some (.ro size r cap) else none
    | _ => none
  | _ => none
def frzL (H : List Blk) : List AV → Option (List AV)
  | [] => some []
  | c :: cs => match frz H c, frzL H cs with
    | some v, some vs => some (v :: vs)
    | _, _ => none
end

mutual
/-- The blocks whose slices it holds. -/
def slIds : AV → List Nat
  | .sl b _ _ _ _ => [b]
  | .agg cs | .tup cs | .fn _ cs => slIdsL cs
  | .ifc _ v => slIds v
  | _ => []
def slIdsL : List AV → List Nat
  | [] => []
  | c :: cs => slIds c ++ slIdsL cs
end

/-- What stands there is written no more. -/
def markOne (H : List Blk) (b : Nat) : List Blk :=
  match H[b]? with
  | some (.cells size g es _) => H.set b (.cells size g es true)
  | _ => H
def mark (H : List Blk) (ids : List Nat) : List Blk := ids.foldl markOne H

/-! ### types -/

def szT (P : Program) (t : TypeId) : Option Nat := (P.info? t).map (·.size)
def aggT (P : Program) (t : TypeId) : Option Bool :=
  match P.underlying t with
  | some (.struct _) | some (.array ..) => some true
  | some _ => some false
  | none => none
def zeroT (P : Program) (t : TypeId) : Option Value := (P.info? t).bind (·.zero)
def fieldT (P : Program) (s : TypeId) (f : Nat) : Option Field :=
  match P.underlying s with
  | some (.struct fs) => fs[f]?
  | _ => none

/-- A value of a type out of a row of cells. -/
def takeT (P : Program) (t : TypeId) (row : List AV) (off : Nat) : Option AV :=
  match aggT P t, szT P t with
  | some true, some n => if off + n ≤ row.length then some (.agg ((row.drop off).take n)) else none
  | some false, some 1 => row[off]?
  | _, _ => none

/-! ### memory -/

def loadA (P : Program) (H : List Blk) (t : TypeId) : AV → Option AV
  | .ptr b g i off => match H[b]? with
    | some (.cells _ g' es _) => if g = g' then (es[i]?).bind fun row => takeT P t row off else none
    | _ => none
  | .rp row off => takeT P t row off
  | _ => none

def putRow (row : List AV) (off : Nat) (cs : List AV) : List AV := row.take off ++ cs ++ row.drop (off + cs.length)

def storeA (P : Program) (H : List Blk) (t : TypeId) (a v : AV) : Option (List Blk) :=
  match a, cellsA v, szT P t with
  | .ptr b g i off, some cs, some n => match H[b]? with
    | some (.cells size g' es false) => match es[i]? with
      | some row => if g = g' ∧ cs.length = n ∧ off + n ≤ row.length then
          some (H.set b (.cells size g (es.set i (putRow row off cs)) false)) else none
      | none => none
    | _ => none
  | _, _, _ => none

/-- A new block: behind all, or at a place that was kept for it. -/
def newAt (H : List Blk) (at_ : Option Nat) (k : Blk) : Option (Nat × List Blk) :=
  match at_ with
  | none => some (H.length, H ++ [k])
  | some b => match H[b]? with
    | some .res => some (b, H.set b k)
    | _ => none

def allocA (P : Program) (H : List Blk) (at_ : Option Nat) (t : TypeId) : Option (AV × List Blk) :=
  match (zeroT P t).bind (fun z => cellsA (absV z)), szT P t with
  | some cs, some n => if cs.length = n then (newAt H at_ (.cells n 0 [cs] false)).map fun r => (.ptr r.1 0 0 0, r.2) else none
  | _, _ => none

def boxA (H : List Blk) (at_ : Option Nat) (v : AV) : Option (AV × List Blk) :=
  match cellsA v with
  | some cs => (newAt H at_ (.cells cs.length 0 [cs] false)).map fun r => (.ptr r.1 0 0 0, r.2)
  | none => none

/-- The elements of a slice, or of a text as bytes. -/
def elemsA (H : List Blk) (size : Nat) : AV → Option (List (List AV))
  | .sc (.slice none 0 0) => some []
  | .sc (.string s) => if size = 1 then some (s.data.toList.map fun b => [.sc (.int .u8 b.toNat)]) else none
  | .ro sz es _ => if sz = size then some es else none
  | .sl b g start len _ => match H[b]? with
    | some (.cells sz g' es _) => if sz = size ∧ g = g' ∧ start + len ≤ es.length then some ((es.drop start).take len) else none
    | _ => none
  | _ => none

def frzRows (H : List Blk) : List (List AV) → Option (List (List AV))
  | [] => some []
  | r :: rs => match frzL H r, frzRows H rs with
    | some v, some vs => some (v :: vs)
    | _, _ => none

def roomA : Nat := 140737488355328

def okXD : TypeDesc → Bool
  | .slice _ | .string => true
  | _ => false

def appendA (P : Program) (H : List Blk) (at_ : Option Nat) (argTypes : Array TypeId) (s x : AV) : Option (AV × List Blk) :=
  match argTypes[0]?, argTypes[1]? with
  | some sT, some xT =>
    match P.underlying sT, P.underlying xT with
    | some (.slice elem), some xd =>
      if okXD xd = false then none else
      match szT P elem, (P.info? elem).map (·.bytes), (zeroT P elem).map (·.cells.size) with
      | some size, some bytes, some zs =>
        if size = 0 ∨ zs ≠ size ∨ bytes = 0 then none else
        match elemsA H size x with
        | some ys =>
          let n := ys.length
          let fresh (old : List (List AV)) : Option (AV × List Blk) :=
            if (old.length + n) * bytes ≤ roomA then
              (newAt H at_ (.cells size 0 (old ++ ys) false)).map fun r => (.sl r.1 0 0 (old.length + n) none, r.2)
            else none
          match s with
          | .sc (.slice none 0 0) => if n = 0 then some (s, H) else fresh []
          | .ro sz es cap => if n = 0 then some (s, H) else if sz = size ∧ cap = some es.length then fresh es else none
          | .sl b g start len cap => match H[b]? with
            | some (.cells sz g' es fz) =>
              if sz = size ∧ g = g' ∧ start + len ≤ es.length then
                if n = 0 then some (s, H) else
                match cap with
                | none => if start + len = es.length ∧ (len + n) * bytes ≤ roomA then
                    some (.sl b (g + 1) 0 (len + n) none, H.set b (.cells size (g + 1) (es.drop start ++ ys) fz)) else none
                | some c => if len + n ≤ c then
                    if fz = false ∧ start + c ≤ es.length then
                      some (.sl b g start (len + n) (some c), H.set b (.cells size g (es.take (start + len) ++ ys ++ es.drop (start + len + n)) false)) else none
                  else fresh ((es.drop start).take len)
              else none
            | _ => none
          | _ => none
        | none => none
      | _, _, _ => none
    | _, _ => none
  | _, _ => none

def makeSliceA (P : Program) (H : List Blk) (at_ : Option Nat) (t : TypeId) (l c : AV) : Option (AV × List Blk) :=
  match P.underlying t, l, c with
  | some (.slice elem), .sc (.int .i64 l), .sc (.int .i64 c) =>
    match szT P elem, (P.info? elem).map (·.bytes), (zeroT P elem).bind (fun z => cellsA (absV z)) with
    | some size, some bytes, some zs =>
      if zs.length = size ∧ size ≠ 0 ∧ bytes ≠ 0 ∧ 0 ≤ l ∧ l ≤ c ∧ (bytes : Int) * c ≤ roomA then
        (newAt H at_ (.cells size 0 (List.replicate c.toNat zs) false)).map fun r => (.sl r.1 0 0 l.toNat (some c.toNat), r.2)
      else none
    | _, _, _ => none
  | _, _, _ => none

/-- A row of parts, by their places. -/
def fillA (place : Nat → Option (Nat × Nat)) (cells : List AV) : List (Nat × AV) → Option (List AV)
  | [] => some cells
  | (i, v) :: rest => match place i, cellsA v with
    | some (off, size), some cs => if cs.length = size ∧ off + size ≤ cells.length then fillA place (putRow cells off cs) rest else none
    | _, _ => none

def placesA (P : Program) : List Field → Option (List (Nat × Nat))
  | [] => some []
  | f :: fs => match szT P f.type, placesA P fs with
    | some n, some ps => some ((f.offset, n) :: ps)
    | _, _ => none

def buildA (P : Program) (t : TypeId) (parts : List (Nat × AV)) : Option AV :=
  match (zeroT P t).bind (fun z => cellsA (absV z)), P.underlying t with
  | some zero, some (.struct fields) =>
    (placesA P fields.toList).bind fun ps => (fillA (fun i => ps[i]?) zero parts).map .agg
  | some zero, some (.array _ elem) =>
    (szT P elem).bind fun size => (fillA (fun i => some (i * size, size)) zero parts).map .agg
  | _, _ => none

def setRows (size : Nat) (rows : List (List AV)) : List (Nat × AV) → Option (List (List AV))
  | [] => some rows
  | (i, v) :: rest => match cellsA v with
    | some cs => if cs.length = size ∧ i < rows.length then setRows size (rows.set i cs) rest else none
    | none => none

def buildSliceA (own : Bool) (P : Program) (H : List Blk) (at_ : Option Nat) (t : TypeId) (len : Nat) (parts : List (Nat × AV)) : Option (AV × List Blk) :=
  match P.underlying t with
  | some (.slice elem) => match szT P elem, (zeroT P elem).bind (fun z => cellsA (absV z)) with
    | some size, some zero =>
      if zero.length = size ∧ size ≠ 0 ∧ len * size ≤ 16777216 then
        match setRows size (List.replicate len zero) parts with
        | some rows => match (match own with | true => none | false => frzRows H rows) with
          | some rows' => some (.ro size rows' (some len), mark H (rows.flatMap slIdsL))
          | none => (newAt H at_ (.cells size 0 rows false)).map fun r => (.sl r.1 0 0 len (some len), r.2)
        | none => none
      else none
    | _, _ => none
  | _ => none

def fieldAddrA (P : Program) (s : TypeId) (a : AV) (f : Nat) : Option AV :=
  match fieldT P s f with
  | some fd => match szT P fd.type with
    | some (n + 1) => match a with
      | .ptr b g i off => some (.ptr b g i (off + fd.offset))
      | .rp row off => some (.rp row (off + fd.offset))
      | _ => none
    | _ => none
  | none => none

def fieldA (P : Program) (s : TypeId) (v : AV) (f : Nat) : Option AV :=
  match fieldT P s f, cellsA v with
  | some fd, some cs => match v with
    | .agg _ | .sc (.agg _) => takeT P fd.type cs fd.offset
    | _ => none
  | _, _ => none

def indexAddrA (P : Program) (H : List Blk) (t : TypeId) (x ix : AV) : Option AV :=
  match ix with
  | .sc (.int _ i) =>
    if i < 0 then none else
    match P.underlying t with
    | some (.slice elem) => match szT P elem with
      | some size => match x with
        | .ro sz es _ => if sz = size then (es[i.toNat]?).map fun row => .rp row 0 else none
        | .sl b g start len _ => match H[b]? with
          | some (.cells sz g' es _) => if sz = size ∧ g = g' ∧ i.toNat < len ∧ start + len ≤ es.length then some (.ptr b g (start + i.toNat) 0) else none
          | _ => none
        | _ => none
      | none => none
    | some (.array n elem) => match szT P elem with
      | some size => if i.toNat < n then (match x with
        | .ptr b g j off => some (.ptr b g j (off + i.toNat * size))
        | .rp row off => some (.rp row (off + i.toNat * size))
        | _ => none) else none
      | none => none
    | _ => none
  | _ => none

/-- The bound's number. -/
def numA (d : Nat) : Option AV → Option Nat
  | none => some d
  | some (.sc (.int _ i)) => if 0 ≤ i then some i.toNat else none
  | _ => none

/-- The bounds of a slice expression within a length; 'cap': what is known of the capacity. -/
def boundsA (len : Nat) (cap : Option Nat) (lo hi mx : Option AV) : Option (Nat × Nat × Option Nat) :=
  match numA 0 lo, numA len hi with
  | some l, some h => match mx with
    | none => if l ≤ h ∧ h ≤ len then some (l, h, cap.map (· - l)) else none
    | some m => match numA 0 (some m) with
      | some m => if l ≤ h ∧ h ≤ m ∧ m ≤ len ∧ hi.isSome then some (l, h, some (m - l)) else none
      | none => none
  | _, _ => none

/-- Rows of so many cells each. -/
def chunks (size : Nat) : Nat → List AV → List (List AV)
  | 0, _ => []
  | n + 1, cs => cs.take size :: chunks size n (cs.drop size)

def sliceA (P : Program) (H : List Blk) (t : TypeId) (x : AV) (lo hi mx : Option AV) : Option (AV × List Blk) :=
  match P.underlying t, x with
  | some .string, .sc (.string s) =>
    match lo.mapM conc, hi.mapM conc, mx with
    | some l, some h, none => (pureRun P (Instr.sliceAt t (.string s) l h none)).map fun v => (absV v, H)
    | _, _, _ => none
  | some (.slice elem), .sc (.slice none 0 0) => match szT P elem, boundsA 0 (some 0) lo hi mx with
    | some _, some _ => some (x, H)
    | _, _ => none
  | some (.slice elem), .ro size es cap => match szT P elem, boundsA es.length cap lo hi mx with
    | some sz, some (l, h, c) => if sz = size then some (.ro size ((es.drop l).take (h - l)) c, H) else none
    | _, _ => none
  | some (.slice elem), .sl b g start len cap => match szT P elem, boundsA len cap lo hi mx, H[b]? with
    | some sz, some (l, h, c), some (.cells size g' es _) =>
      if sz = size ∧ g = g' ∧ start + len ≤ es.length then some (.sl b g (start + l) (h - l) c, H) else none
    | _, _, _ => none
  | some (.array n elem), .ptr b g i off => match szT P elem, boundsA n (some n) lo hi mx, H[b]? with
    | some size, some (l, h, _), some (.cells _ g' es _) => match es[i]? with
      | some row =>
        let part := ((row.drop (off + l * size)).take ((h - l) * size))
        if g = g' ∧ size ≠ 0 ∧ off + n * size ≤ row.length ∧ isDataL part = true then some (.ro size (chunks size (h - l) part) none, markOne H b) else none
      | none => none
    | _, _, _ => none
  | _, _ => none

def bytesA (rows : List (List AV)) : Option (List UInt8) :=
  rows.mapM fun
    | [.sc (.int .u8 n)] => some (UInt8.ofNat n.toNat)
    | _ => none

def convertA (P : Program) (H : List Blk) (src dst : TypeId) (x : AV) : Option AV :=
  match x with
  | .ro .. | .sl .. => match P.underlying src, P.underlying dst with
    | some (.slice e), some .string => match P.underlying e with
      | some (.int .u8) => ((elemsA H 1 x).bind bytesA).map fun l => .sc (.string ⟨l.toArray⟩)
      | _ => none
    | _, _ => none
  | .sc (.string s) => match P.underlying src, P.underlying dst with
    | some .string, some (.slice e) => match P.underlying e with
      | some (.int .u8) => some (.ro 1 (s.data.toList.map fun b => [.sc (.int .u8 b.toNat)]) none)
      | _ => none
    | _, _ => (pureRun P (convert src dst (.string s))).map absV
  | _ => ((conc x).bind fun v => pureRun P (convert src dst v)).map absV

def lenA (P : Program) (H : List Blk) (t : TypeId) (x : AV) : Option AV :=
  match P.underlying t, x with
  | some (.slice _), .ro _ es _ => some (.sc (goInt es.length))
  | some (.slice _), .sl _ _ _ len _ => some (.sc (goInt len))
  | some (.map _ _), .mp b => match H[b]? with
    | some (.map es _) => some (.sc (goInt es.length))
    | _ => none
  | _, _ => ((conc x).bind fun v => pureRun P (Builtin.len_ #[t] 0 #[v])).map absV

def eqBytes : List UInt8 → List UInt8 → Bool
  | [], [] => true
  | a :: x, b :: y => match Nat.beq a.toNat b.toNat with
    | true => eqBytes x y
    | false => false
  | _, _ => false

def eqKind : IntKind → IntKind → Bool
  | .i64, .i64 | .u8, .u8 | .u64, .u64 | .i32, .i32 | .u32, .u32 | .i16, .i16 | .u16, .u16 | .i8, .i8 => true
  | _, _ => false

/-- Two whole numbers of one kind: what needs no look at the program. -/
def intA (op : BinOp) (k : IntKind) (a b : Int) : Option AV :=
  match op with
  | .add => some (.sc (.int k (k.wrap (a + b))))
  | .sub => some (.sc (.int k (k.wrap (a - b))))
  | .mul => some (.sc (.int k (k.wrap (a * b))))
  | .eql => some (.sc (.bool (a == b)))
  | .neq => some (.sc (.bool (a != b)))
  | .lss => some (.sc (.bool (decide (a < b))))
  | .leq => some (.sc (.bool (decide (a ≤ b))))
  | .gtr => some (.sc (.bool (decide (a > b))))
  | .geq => some (.sc (.bool (decide (a ≥ b))))
  | _ => none

def strA (op : BinOp) (a b : ByteArray) : Option AV :=
  match op with
  | .eql => some (.sc (.bool (eqBytes a.data.toList b.data.toList)))
  | .neq => some (.sc (.bool (!eqBytes a.data.toList b.data.toList)))
  | _ => none

def fastA (op : BinOp) (x y : AV) : Option AV :=
  match x, y with
  | .sc (.int k a), .sc (.int k' b) => match eqKind k k' with
    | true => intA op k a b
    | false => none
  | .sc (.string a), .sc (.string b) => strA op a b
  | _, _ => none

def nilT (d : TypeDesc) (v : AV) : Bool :=
  match d, v with
  | .slice _, .sc (.slice none 0 0) | .pointer _, .sc (.pointer none) | .map .., .sc (.map none) | .func .., .sc .nilFunc | .interface _, .sc .nilIface => true
  | _, _ => false

def fitsT (d : TypeDesc) (v : AV) : Bool :=
  match d, v with
  | .slice _, .ro .. | .slice _, .sl .. | .pointer _, .rp .. | .pointer _, .ptr .. | .map .., .mp _ | .func .., .fn .. | .interface _, .ifc .. => true
  | _, _ => false

def nilA (op : BinOp) : Option AV :=
  match op with
  | .eql => some (.sc (.bool false))
  | .neq => some (.sc (.bool true))
  | _ => none

def slowA (P : Program) (op : BinOp) (t : TypeId) (ox oy : Operand) (x y : AV) : Option AV :=
  match conc x, conc y with
  | some a, some b => (pureRun P (do eqGuard op t ox oy a b; binOp op t a b)).map absV
  | _, _ => match P.underlying t with
    | some d => if (fitsT d x && nilT d y) || (nilT d x && fitsT d y) then nilA op else none
    | none => none

def binA (P : Program) (op : BinOp) (t : TypeId) (ox oy : Operand) (x y : AV) : Option AV :=
  match fastA op x y with
  | some v => some v
  | none => slowA P op t ox oy x y

end Go.Ai

set_option linter.unusedVariables false
namespace Go.Ai

/-! ### renaming: what stands from 'base' on is kept where 'ids' names it (block, edition), and stands then from 'tgt' on, in edition 0 -/

def renB (base tgt : Nat) (ids : List (Nat × Nat)) (b g : Nat) : Option (Nat × Nat) :=
  if b < base then some (b, g) else (ids.findIdx? fun p => p.1 == b && p.2 == g).map fun k => (tgt + k, 0)

mutual
def ren (base tgt : Nat) (ids : List (Nat × Nat)) : AV → AV
  | .ptr b g i o => match renB base tgt ids b g with
    | some p => .ptr p.1 p.2 i o
    | none => .undef
  | .sl b g s l c => match renB base tgt ids b g with
    | some p => .sl p.1 p.2 s l c
    | none => .undef
  | .mp b => match renB base tgt ids b 0 with
    | some p => .mp p.1
    | none => .undef
  | .agg cs => .agg (renL base tgt ids cs)
  | .tup cs => .tup (renL base tgt ids cs)
  | .fn f cs => .fn f (renL base tgt ids cs)
  | .ifc t v => .ifc t (ren base tgt ids v)
  | v => v
def renL (base tgt : Nat) (ids : List (Nat × Nat)) : List AV → List AV
  | [] => []
  | c :: cs => ren base tgt ids c :: renL base tgt ids cs
end

def renBlk (base tgt : Nat) (ids : List (Nat × Nat)) : Blk → Blk
  | .cells size g es fz => .cells size g (es.map (renL base tgt ids)) fz
  | .map es clock => .map (es.map fun e => (e.1, ren base tgt ids e.2.1, e.2.2)) clock
  | .miter (some b) a c d => match renB base tgt ids b 0 with
    | some p => .miter (some p.1) a c d
    | none => .dead
  | k => k

mutual
/-- The blocks from 'base' on that a value leads to. -/
def refs (base : Nat) : AV → List Nat
  | .ptr b _ _ _ | .sl b _ _ _ _ | .mp b => if b < base then [] else [b]
  | .agg cs | .tup cs | .fn _ cs => refsL base cs
  | .ifc _ v => refs base v
  | _ => []
def refsL (base : Nat) : List AV → List Nat
  | [] => []
  | c :: cs => refs base c ++ refsL base cs
end

def refsBlk (base : Nat) : Blk → List Nat
  | .cells _ _ es _ => es.flatMap (refsL base)
  | .map es _ => es.flatMap fun e => refs base e.2.1
  | .miter (some b) _ _ _ => if b < base then [] else [b]
  | _ => []

def reach (base : Nat) (H : List Blk) : Nat → List Nat → List Nat → List Nat
  | 0, _, seen => seen
  | _ + 1, [], seen => seen
  | n + 1, b :: todo, seen =>
    if seen.contains b then reach base H n todo seen
    else reach base H n (((H[b]?).map (refsBlk base)).getD [] ++ todo) (seen ++ [b])

def genOf (H : List Blk) (b : Nat) : Nat := match H[b]? with | some (.cells _ g _ _) => g | _ => 0

def setGen : Blk → Blk
  | .cells size _ es fz => .cells size 0 es fz
  | k => k

/-- Another call's blocks that a value leads to become blocks of this one. -/
def adopt (H : List Blk) (at_ : Option Nat) (H1 : List Blk) (v : AV) : Option (AV × List Blk) :=
  let l := reach 0 H1 100000 (refs 0 v) []
  let ids := l.map fun b => (b, genOf H1 b)
  match at_ with
  | none => some (ren 0 H.length ids v, H ++ l.map fun b => setGen (renBlk 0 H.length ids ((H1[b]?).getD .dead)))
  | some a => match l, H[a]? with
    | [b], some .res => some (ren 0 a ids v, H.set a (setGen (renBlk 0 a ids ((H1[b]?).getD .dead))))
    | _, _ => none

/-! ### forcing: of no sense of their own: they keep the kernel's terms small -/

def seqL {α β : Type} : List α → (List α → β) → β
  | [], k => k []
  | a :: l, k => seqL l fun l' => k (a :: l')
theorem seqL_eq {α β : Type} : ∀ (l : List α) (k : List α → β), seqL l k = k l
  | [], _ => rfl
  | a :: l, k => by simp only [seqL]; rw [seqL_eq l]

def seqN {β : Type} (n : Nat) (k : Nat → β) : β := match n with
  | 0 => k 0
  | m + 1 => k (m + 1)
theorem seqN_eq {β : Type} (n : Nat) (k : Nat → β) : seqN n k = k n := by cases n <;> rfl

def seqV {β : Type} (v : AV) (k : AV → β) : β := match v with
  | .sc (.int d (.ofNat n)) => seqN n fun n => k (.sc (.int d (.ofNat n)))
  | .sc (.int d (.negSucc n)) => seqN n fun n => k (.sc (.int d (.negSucc n)))
  | .sc (.bool true) => k (.sc (.bool true))
  | .sc (.bool false) => k (.sc (.bool false))
  | .sc (.string ⟨⟨l⟩⟩) => seqL l fun l => k (.sc (.string ⟨⟨l⟩⟩))
  | .agg cs => seqL cs fun cs => k (.agg cs)
  | .tup cs => seqL cs fun cs => k (.tup cs)
  | .ro s es c => seqL es fun es => k (.ro s es c)
  | v => k v
theorem seqV_eq {β : Type} (v : AV) (k : AV → β) : seqV v k = k v := by
  unfold seqV
  split <;> simp only [seqL_eq, seqN_eq]

def unit : AV := .sc (.tuple #[])

/-- A slot's value. -/
def getT : Tm → Nat → AV
  | [], _ => .undef
  | (k, v) :: r, t => match Nat.beq k t with
    | true => v
    | false => getT r t

def renT (base tgt : Nat) (ids : List (Nat × Nat)) : Tm → Tm
  | [] => []
  | (k, v) :: r => (k, ren base tgt ids v) :: renT base tgt ids r

def refsT (base : Nat) : Tm → List Nat
  | [] => []
  | (_, v) :: r => refs base v ++ refsT base r

/-- Blocks from L on that nothing leads to any more are forgotten. -/
def compact (L : Nat) (st : St) : St :=
  if st.heap.length = L then st else if st.defers.isEmpty = false then st else
  let outer := st.heap.take L
  let oroots := outer.flatMap (refsBlk L)
  let l := reach L st.heap 100000 (refsT L st.tmps ++ oroots) []
  let ids := l.map fun b => (b, genOf st.heap b)
  let outer' := if oroots.isEmpty then outer else outer.map (renBlk L L ids)
  { st with tmps := renT L L ids st.tmps,
            heap := outer' ++ l.map fun b => setGen (renBlk L L ids ((st.heap[b]?).getD .dead)) }

def isUndef : AV → Bool
  | .undef => true
  | _ => false

/-- The slots that a code writes. -/
def writes : Code → List Nat
  | .region _ ops _ => ops.toList.filterMap (·.dst)
  | .seq a b => writes a ++ writes b
  | .cond _ a b => writes a ++ writes b
  | .block _ b => writes b
  | .loop b => writes b
  | .scope b => writes b
  | _ => []

/-- Of those the ones that bear something where a loop begins. -/
def carried (tmps : Tm) : List Nat → List Nat → List Nat
  | [], acc => acc
  | s :: r, acc => if acc.contains s || isUndef (getT tmps s) then carried tmps r acc else carried tmps r (s :: acc)

def takeTm (tmps : Tm) : List Nat → Tm → Tm
  | [], e => e
  | s :: r, e => (s, getT tmps s) :: takeTm tmps r e

def takeK {β : Type} (tmps : Tm) : List Nat → Tm → (Tm → β) → β
  | [], e, k => k e
  | s :: r, e, k => takeK tmps r e fun e' => seqV (getT tmps s) fun v => k ((s, v) :: e')

theorem takeK_eq {β : Type} (tmps : Tm) : ∀ (W : List Nat) (e : Tm) (k : Tm → β), takeK tmps W e k = k (takeTm tmps W e)
  | [], _, _ => rfl
  | s :: r, e, k => by simp only [takeK, takeTm, seqV_eq]; rw [takeK_eq tmps r e]

/-- At a loop's head: what was not known when the loop began is not known. -/
def nrm (W : List Nat) (entry : St) (st : St) : St :=
  compact entry.heap.length ⟨st.n, takeTm st.tmps W entry.tmps, st.heap, st.defers⟩

def nrmK {β : Type} (W : List Nat) (entry : St) (st : St) (k : St → β) : β :=
  takeK st.tmps W entry.tmps fun t => match compact entry.heap.length ⟨st.n, t, st.heap, st.defers⟩ with
    | ⟨n, t, H, d⟩ => seqL H fun H => k ⟨n, t, H, d⟩

theorem nrmK_eq {β : Type} (W : List Nat) (entry : St) (st : St) (k : St → β) : nrmK W entry st k = k (nrm W entry st) := by
  simp only [nrmK, takeK_eq, seqL_eq, nrm]

/-! ### one operation -/

inductive ORes where
  | val (v : AV) (H : List Blk)
  | skip (H : List Blk)
  | pan (v : AV) (H : List Blk)
  | dfr (f : FuncId) (caps : List AV)

def ev (tmps : Tm) : Operand → Option AV
  | .tmp t => some (getT tmps t)
  | .const v => some (absV v)
  | .global _ => none
  | .func f => some (.fn f [])

def evL (tmps : Tm) : List Operand → Option (List AV)
  | [] => some []
  | x :: xs => match ev tmps x, evL tmps xs with
    | some v, some vs => some (v :: vs)
    | _, _ => none

abbrev CallT := FuncId → List AV → List Blk → Option (CRes × List Blk)

def doCall (C : Ctx) (call : CallT) (at_ : Option Nat) (f : FuncId) (args : List AV) (H : List Blk) : Option ORes :=
  match C.prims f with
  | some F => match frzL H args with
    | some us => match F us with
      | some v => if isScalar v then some (.val v H) else if isData v then some (.val v (mark H (slIdsL args))) else none
      | none => none
    | none => none
  | none =>
    match (if C.byRef f then none else frzL H args) with
    | some us => match call f us [] with
      | some (.ret v, H1) =>
        if isScalar v then some (.val v H) else
        let H' := mark H (slIdsL args)
        match (if C.keep f then none else frz H1 v) with
        | some v' => some (.val v' H')
        | none => (adopt H' at_ H1 v).map fun r => .val r.1 r.2
      | some (.pan v, H1) => (frz H1 v).map fun v' => .pan v' (mark H (slIdsL args))
      | none => none
    | none => match at_, call f args H with
      | none, some (.ret v, H1) => some (.val v H1)
      | none, some (.pan v, H1) => some (.pan v H1)
      | _, _ => none

/-- A function of no body that the model answers itself, from plain values. -/
def externA (C : Ctx) (f : FuncId) (args : List AV) : Option AV :=
  match concL args with
  | some vs => match pureRun C.P (callFunc f vs.toArray) with
    | some (.value r) => some (absV r)
    | _ => none
  | none => none

/-- What a block's slices lead to is written no more. -/
def settleOne (H : List Blk) (b : Nat) : List Blk :=
  match H[b]? with
  | some (.cells size g es _) => match frzRows H es, (mark H (es.flatMap slIdsL))[b]? with
    | some rows, some (.cells _ _ _ fz) => (mark H (es.flatMap slIdsL)).set b (.cells size g rows fz)
    | _, _ => H
  | _ => H
def settleAll : List Blk → List Nat → List Blk
  | H, [] => H
  | H, b :: ids => settleAll (settleOne H b) ids
def preCall (C : Ctx) (f : FuncId) (args : List AV) (H : List Blk) : List Blk := match C.settle f with
  | true => settleAll H (slIdsL args)
  | false => H

def callA (C : Ctx) (call : CallT) (at_ : Option Nat) (f : FuncId) (args : List AV) (H : List Blk) : Option ORes :=
  if C.ext f then (externA C f args).map fun v => .val v H else doCall C call at_ f args (preCall C f args H)

def valOf (r : Option (AV × List Blk)) : Option ORes := r.map fun p => .val p.1 p.2

def snapOne (H : List Blk) : AV → Option AV
  | .ptr b g 0 0 => match H[b]? with
    | some (.cells _ g' [row] _) => if g = g' ∧ isDataL row = true then some (AV.rp row 0) else none
    | _ => none
  | c => if isData c then some c else none

def snapL (H : List Blk) : List AV → Option (List AV)
  | [] => some []
  | c :: cs => match snapOne H c, snapL H cs with
    | some v, some vs => some (v :: vs)
    | _, _ => none

def ptrIds : List AV → List Nat
  | [] => []
  | .ptr b _ _ _ :: cs => b :: ptrIds cs
  | _ :: cs => ptrIds cs

def capOf (C : Ctx) (H : List Blk) (f : FuncId) (cs : List AV) : Option (List AV × List Blk) :=
  if C.snap f then (snapL H cs).map fun l => (l, mark H (ptrIds cs)) else some (cs, H)

/-! ### ranges over texts; maps -/

def rangeA (P : Program) (H : List Blk) (at_ : Option Nat) (t : TypeId) (x : AV) : Option (AV × List Blk) :=
  match P.underlying t, x with
  | some .string, .sc (.string s) => (newAt H at_ (.siter s 0)).map fun r => (.ptr r.1 0 0 0, r.2)
  | _, _ => none

def nextA (H : List Blk) (it : AV) (isString : Bool) : Option (AV × List Blk) :=
  match it, isString with
  | .ptr b 0 0 0, true => match H[b]? with
    | some (.siter s pos) =>
      if pos < s.size then
        some (.tup [.sc (.bool true), .sc (goInt pos), .sc (.int .i32 (Utf8.decode s pos).1)], H.set b (.siter s (pos + (Utf8.decode s pos).2)))
      else some (.tup [.sc (.bool false)], H)
    | _ => none
  | _, _ => none

def keyKind : TypeDesc → Bool
  | .int _ | .string | .bool => true
  | _ => false

def findNowA (d : TypeDesc) (k : Value) : List (Value × AV × Nat) → Nat → Option (Option Nat)
  | [], _ => some none
  | e :: es, i => match Instr.sameNow d k e.1 with
    | some true => some (some i)
    | some false => findNowA d k es (i + 1)
    | none => none

def findAskA (P : Program) (kt : TypeId) (k : Value) : List (Value × AV × Nat) → Nat → Option (Option Nat)
  | [], _ => some none
  | e :: es, i => match pureRun P (Op.equal kt k e.1) with
    | some true => some (some i)
    | some false => findAskA P kt k es (i + 1)
    | none => none

def findA (P : Program) (kt : TypeId) (k : Value) (es : List (Value × AV × Nat)) : Option (Option Nat) :=
  match P.underlying kt with
  | some d => if keyKind d then findNowA d k es 0 else findAskA P kt k es 0
  | none => none

def entsA (H : List Blk) : AV → Option (List (Value × AV × Nat))
  | .sc (.map none) => some []
  | .mp b => match H[b]? with
    | some (.map es _) => some es
    | _ => none
  | _ => none

def lookupA (P : Program) (H : List Blk) (t : TypeId) (x ix : AV) (commaOk : Bool) : Option AV :=
  match P.underlying t with
  | some (.map kt et) => match conc ix, entsA H x, zeroT P et with
    | some k, some es, some z => match pureRun P (Instr.checkKey es.isEmpty 10000 kt k), findA P kt k es with
      | some _, some (some i) => match es[i]? with
        | some e => some (if commaOk then .tup [e.2.1, .sc (.bool true)] else e.2.1)
        | none => none
      | some _, some none => some (if commaOk then .tup [absV z, .sc (.bool false)] else absV z)
      | _, _ => none
    | _, _, _ => none
  | _ => none

def mapUpdateA (P : Program) (H : List Blk) (t : TypeId) (m ix v : AV) : Option (List Blk) :=
  match P.underlying t, m, conc ix with
  | some (.map kt _), .mp b, some k => match H[b]? with
    | some (.map es clock) => match pureRun P (Instr.checkKey false 10000 kt k), findA P kt k es with
      | some _, some (some i) => match es[i]? with
        | some e => if Instr.sameBits 10000 e.1 k then some (H.set b (.map (es.set i (k, v, e.2.2)) clock)) else none
        | none => none
      | some _, some none => some (H.set b (.map (es ++ [(k, v, clock)]) (clock + 1)))
      | _, _ => none
    | _ => none
  | _, _, _ => none

def deleteA (P : Program) (H : List Blk) (t : TypeId) (m ix : AV) : Option (List Blk) :=
  match P.underlying t, m, conc ix with
  | some (.map kt _), .sc (.map none), some k => match pureRun P (Instr.checkKey true 10000 kt k) with
    | some _ => some H
    | none => none
  | some (.map kt _), .mp b, some k => match H[b]? with
    | some (.map es clock) => match pureRun P (Instr.checkKey es.isEmpty 10000 kt k), findA P kt k es with
      | some _, some (some i) => some (H.set b (.map (es.eraseIdx i) clock))
      | some _, some none => some H
      | _, _ => none
    | _ => none
  | _, _, _ => none

def clearA (P : Program) (H : List Blk) (t : TypeId) (x : AV) : Option (List Blk) :=
  match P.underlying t, x with
  | some (.map ..), .sc (.map none) => some H
  | some (.map ..), .mp b => match H[b]? with
    | some (.map _ clock) => some (H.set b (.map [] clock))
    | _ => none
  | some (.slice _), .sc (.slice none 0 0) => some H
  | some (.slice elem), .sl b g start len _ => match H[b]?, szT P elem, (zeroT P elem).bind (fun z => cellsA (absV z)) with
    | some (.cells sz g' es false), some size, some zs =>
      if len = 0 then some H else
      if sz = size ∧ size ≠ 0 ∧ zs.length = size ∧ g = g' ∧ start + len ≤ es.length then
        some (H.set b (.cells sz g (es.take start ++ List.replicate len zs ++ es.drop (start + len)) false)) else none
    | _, _, _ => none
  | _, _ => none

def evalOp (C : Ctx) (call : CallT) (at_ : Option Nat) (tmps : Tm) (H : List Blk) (o : Oper) : Option ORes :=
  let P := C.P
  let pure1 (r : Option AV) : Option ORes := r.map fun v => .val v H
  match o.op with
  | .move x | .assign x => pure1 (ev tmps x)
  | .pick c a b => match ev tmps c with
    | some (.sc (.bool t)) => pure1 (if t then ev tmps a else ev tmps b)
    | _ => none
  | .alloc t => valOf (allocA P H at_ t)
  | .box _ x => (ev tmps x).bind fun v => valOf (boxA H at_ v)
  | .build t ps => (evL tmps (ps.toList.map (·.2))).bind fun vs => pure1 (buildA P t ((ps.toList.map (·.1)).zip vs))
  | .buildSlice t n ps => (evL tmps (ps.toList.map (·.2))).bind fun vs => valOf (buildSliceA (C.own t) P H at_ t n ((ps.toList.map (·.1)).zip vs))
  | .load t a => (ev tmps a).bind fun v => pure1 (loadA P H t v)
  | .store t a x => match ev tmps a, ev tmps x with
    | some a, some v => (storeA P H t a v).map .skip
    | _, _ => none
  | .nilCheck x => match ev tmps x with
    | some (.ptr b g i off) => pure1 (some (.ptr b g i off))
    | some (.rp r off) => pure1 (some (.rp r off))
    | some (.fn f cs) => pure1 (some (.fn f cs))
    | _ => none
  | .binOp op t x y _ => match ev tmps x, ev tmps y with
    | some a, some b => pure1 (binA P op t x y a b)
    | _, _ => none
  | .unOp op _ x => pure1 (((ev tmps x).bind conc).bind fun v => (pureRun P (Op.unary op v)).map absV)
  | .convert s d x => (ev tmps x).bind fun v => pure1 (convertA P H s d v)
  | .makeInterface t x => match P.underlying t with
    | some (.interface _) | none => none
    | _ => pure1 ((ev tmps x).map (.ifc t))
  | .makeFunc (.func f) fs cs => if fs.size = 0 then
      (evL tmps cs.toList).bind fun cs => (capOf C H f cs).map fun r => .val (.fn f r.1) r.2 else none
  | .makeMap _ none => valOf ((newAt H at_ (.map [] 0)).map fun r => (.mp r.1, r.2))
  | .makeSlice t l c => match ev tmps l, ev tmps c with
    | some l, some c => valOf (makeSliceA P H at_ t l c)
    | _, _ => none
  | .slice t x lo hi mx => match ev tmps x, lo.mapM (ev tmps), hi.mapM (ev tmps), mx.mapM (ev tmps) with
    | some x, some lo, some hi, some mx => valOf (sliceA P H t x lo hi mx)
    | _, _, _, _ => none
  | .fieldAddr s x f => (ev tmps x).bind fun a => pure1 (fieldAddrA P s a f)
  | .field s x f => (ev tmps x).bind fun a => pure1 (fieldA P s a f)
  | .indexAddr t x i => match ev tmps x, ev tmps i with
    | some x, some i => pure1 (indexAddrA P H t x i)
    | _, _ => none
  | .index t x i => match (ev tmps x).bind conc, (ev tmps i).bind conc with
    | some x, some i => pure1 ((pureRun P (Instr.index t x i)).map absV)
    | _, _ => none
  | .extract t i => match ev tmps t with
    | some (.tup vs) => pure1 vs[i]?
    | _ => none
  | .call { callee := .builtin .append, args, argTypes } => match (evL tmps args.toList) with
    | some [s, x] => valOf (appendA P H at_ argTypes s x)
    | _ => none
  | .call { callee := .builtin .len, args, argTypes } => match (evL tmps args.toList), argTypes[0]? with
    | some [x], some t => pure1 (lenA P H t x)
    | _, _ => none
  | .call { callee := .builtin .max, args, .. } => match (evL tmps args.toList).bind concL with
    | some vs => pure1 ((pureRun P (Builtin.max_ #[] 0 vs.toArray)).map absV)
    | none => none
  | .call { callee := .builtin .min, args, .. } => match (evL tmps args.toList).bind concL with
    | some vs => pure1 ((pureRun P (Builtin.min_ #[] 0 vs.toArray)).map absV)
    | none => none
  | .call { callee := .value f, args, .. } => match ev tmps f, evL tmps args.toList with
    | some (.fn f cs), some us => callA C call at_ f (us ++ cs) H
    | some (.sc (.func (.func f) fs cs)), some us => if fs.size = 0 ∧ cs.size = 0 then callA C call at_ f us H else none
    | _, _ => none
  | .call { callee := .builtin .delete, args, argTypes } => match (evL tmps args.toList), argTypes[0]? with
    | some [m, k], some t => (deleteA P H t m k).map fun H' => .val unit H'
    | _, _ => none
  | .call { callee := .builtin .clear, args, argTypes } => match (evL tmps args.toList), argTypes[0]? with
    | some [x], some t => (clearA P H t x).map fun H' => .val unit H'
    | _, _ => none
  | .range t x => (ev tmps x).bind fun v => valOf (rangeA P H at_ t v)
  | .next it str => (ev tmps it).bind fun v => valOf (nextA H v str)
  | .lookup t x i ok => match ev tmps x, ev tmps i with
    | some x, some i => pure1 (lookupA P H t x i ok)
    | _, _ => none
  | .mapUpdate t m k v | .insert t m k v => match ev tmps m, ev tmps k, ev tmps v with
    | some m, some k, some v => (mapUpdateA P H t m k v).map .skip
    | _, _, _ => none
  | .defer { callee := .value f, args, .. } => match ev tmps f with
    | some (.fn f cs) => if args.size = 0 then some (.dfr f cs) else none
    | _ => none
  | .panic x => match ev tmps x with
    | some (.ifc t v) => some (.pan (.ifc t v) H)
    | _ => none
  | _ => none

def putA (n : Nat) (tmps : Tm) (dst : Option Tmp) (v : AV) : Option Tm :=
  match dst with
  | some d => match Nat.blt d n with
    | true => some ((d, v) :: tmps)
    | false => none
  | none => some tmps

/-- Is an operation asked for? -/
def wantedA (ops : Array Oper) (tmps : Tm) (o : Oper) : Option Bool :=
  match o.guard with
  | none => some true
  | some (j, want) => match (ops[j]?).bind (·.dst) with
    | none => some false
    | some d => match getT tmps d with
      | .sc (.bool b) => some (b == want)
      | .sc (.tuple _) => some false
      | _ => none

def runList (C : Ctx) (call : CallT) (ops : Array Oper) : List Nat → St → Option (Ex × St)
  | [], st => some (.normal, st)
  | i :: rest, st => match ops[i]? with
    | none => runList C call ops rest st
    | some o => match wantedA ops st.tmps o with
      | some true => match evalOp C call none st.tmps st.heap o with
        | some (.val v H) => seqV v fun v => match putA st.n st.tmps o.dst v with
          | some t => seqL H fun H => runList C call ops rest ⟨st.n, t, H, st.defers⟩
          | none => none
        | some (.skip H) => match putA st.n st.tmps o.dst unit with
          | some t => seqL H fun H => runList C call ops rest ⟨st.n, t, H, st.defers⟩
          | none => none
        | some (.dfr f cs) => match putA st.n st.tmps o.dst unit with
          | some t => runList C call ops rest ⟨st.n, t, st.heap, (f, cs) :: st.defers⟩
          | none => none
        | some (.pan v H) => some (.pan v, ⟨st.n, st.tmps, H, st.defers⟩)
        | none => none
      | some false => match putA st.n st.tmps o.dst unit with
        | some t => runList C call ops rest ⟨st.n, t, st.heap, st.defers⟩
        | none => none
      | none => none

end Go.Ai

/-
  A REGION WHOSE ORDER IS DRAWN: it is run in the text's order, and each thing that may come sooner or later is looked at: what only reads must find the same.
-/
set_option linter.unusedVariables false
namespace Go.Ai

/-- What must stand before an operation, as bits. -/
def befOf (acc : List Nat) (o : Oper) : Nat :=
  o.after.toList.foldl (fun s e => if Region.binds .any e then s ||| (2 ^ e.on ||| acc.getD e.on 0) else s) 0

def befs : List Oper → List Nat → List Nat
  | [], acc => acc
  | o :: os, acc => befs os (acc ++ [befOf acc o])

def edgesOK : List Oper → Nat → Bool
  | [], _ => true
  | o :: os, i => (o.after.toList.all fun e => !Region.binds .any e || Nat.blt e.on i) && edgesOK os (i + 1)

def apartAll (ops : Array Oper) (B : Nat) (y : Oper) : List Oper → Nat → Bool
  | [], _ => true
  | x :: xs, i => (Nat.testBit B i || x.apart ops y) && apartAll ops B y xs (i + 1)

def pairsOK (ops : Array Oper) (B : List Nat) : List Oper → Nat → List Oper → Bool
  | [], _, _ => true
  | y :: ys, j, before => apartAll ops (B.getD j 0) y before 0 && pairsOK ops B ys (j + 1) (before ++ [y])

def drawOK (ops : Array Oper) (B : List Nat) : Bool := edgesOK ops.toList 0 && pairsOK ops B ops.toList 0 []

inductive Kind where
  | pure | looks | lit | alloc (t : TypeId) | spine

def kindOf : Op → Kind
  | .move _ | .assign _ | .pick .. | .build .. | .nilCheck _ | .binOp .. | .unOp .. | .makeInterface .. | .fieldAddr .. | .field .. | .index .. | .extract .. => .pure
  | .call { callee := .builtin .max, .. } | .call { callee := .builtin .min, .. } => .pure
  | .load .. | .indexAddr .. | .convert .. | .lookup .. => .looks
  | .call { callee := .builtin .len, .. } => .looks
  | .buildSlice .. => .lit
  | .alloc t => .alloc t
  | _ => .spine

/-- A literal that is written no more. -/
def litOK (C : Ctx) : Op → Bool
  | .buildSlice t _ _ => !C.own t
  | _ => true

def blkOf : AV → List Nat
  | .ptr b _ _ _ | .sl b _ _ _ _ | .mp b => [b]
  | _ => []

/-- The blocks that an operation may change where they stand; none: all. -/
abbrev Dirt := Option (List Nat)

def hits (D : Dirt) (b : Nat) : Bool := match D with
  | none => true
  | some l => l.contains b

def freeOf (D : Dirt) (T : List Nat) : Bool := T.all fun b => !hits D b

def dirtOf (C : Ctx) (tmps : Tm) (H : List Blk) (o : Oper) : Option Dirt :=
  match o.op with
  | .store _ a _ => (ev tmps a).map fun v => some (blkOf v)
  | .call { callee := .builtin .append, args, .. } => match evL tmps args.toList with
    | some (s :: _) => some (some (blkOf s))
    | _ => none
  | .call { callee := .value f, args, .. } => match ev tmps f, evL tmps args.toList with
    | some (.fn f cs), some us => if C.ext f || (!C.settle f && ((C.prims f).isSome || (!C.byRef f && (frzL H (us ++ cs)).isSome))) then some (some []) else some none
    | _, _ => some none
  | .makeSlice .. | .slice .. | .buildSlice .. => some (some [])
  | _ => none

/-- What is seen of the operations of the drawn region: their places, and the blocks. -/
abbrev Seen := List (Nat × List Nat)
abbrev Moved := List (Nat × Dirt)

/-- How an operation of a drawn region goes: never reached (behind a panic); it may come at any time, having looked at blocks T; it turns blocks D, in its order; it panics. -/
inductive DRes where
  | dead
  | val (v : AV) (T : List Nat)
  | mov (v : AV) (H : List Blk) (D : Dirt)
  | pan (v : AV) (H : List Blk)

def looksOK (Bi : Nat) (sp : Moved) (T : List Nat) (n : Nat) : Bool := T.all (Nat.blt · n) && sp.all (fun e => Nat.testBit Bi e.1 || freeOf e.2 T)
def movesOK (Bi : Nat) (sp : Moved) (fl : Seen) (D : Dirt) : Bool := sp.all (fun e => Nat.testBit Bi e.1) && fl.all (fun e => Nat.testBit Bi e.1 || freeOf D e.2)

def drawMove (C : Ctx) (call : CallT) (Bi : Nat) (sp : Moved) (fl : Seen) (tmps : Tm) (H : List Blk) (o : Oper) : Option DRes :=
  match dirtOf C tmps H o with
  | none => none
  | some D => if movesOK Bi sp fl D then (match evalOp C call none tmps H o with
      | some (.val v H') => some (.mov v H' D)
      | some (.skip H') => some (.mov unit H' D)
      | some (.pan v H') => some (.pan v H')
      | _ => none) else none

def drawOp (C : Ctx) (call : CallT) (ops : Array Oper) (Bi : Nat) (pan : Option Nat) (k : Nat) (sp : Moved) (fl : Seen) (tmps : Tm) (H : List Blk) (o : Oper) : Option DRes :=
  match (match pan with | some j => Nat.testBit Bi j | none => false) with
  | true => some .dead
  | false => match wantedA ops tmps o with
    | none => none
    | some false => some (.val unit [])
    | some true => match kindOf o.op with
      | .alloc _ => if sp.all (fun e => !hits e.2 k) then some (.val (.ptr k 0 0 0) [k]) else none
      | .pure => match evalOp C call none tmps H o with
        | some (.val v _) => some (.val v [])
        | _ => none
      | .looks => match evL tmps o.op.operands.toList with
        | some us => if looksOK Bi sp (refsL 0 us) H.length then (match evalOp C call none tmps H o with
          | some (.val v _) => some (.val v (refsL 0 us))
          | _ => none) else none
        | none => none
      | .lit => match evL tmps o.op.operands.toList with
        | some us => if isDataL us && litOK C o.op then (match evalOp C call none tmps H o with
            | some (.val v _) => some (.val v [])
            | _ => none)
          else match pan with
            | none => drawMove C call Bi sp fl tmps H o
            | some _ => none
        | none => none
      | .spine => match pan with
        | none => drawMove C call Bi sp fl tmps H o
        | some _ => none

def nextK (o : Oper) (k : Nat) : Nat := match kindOf o.op with | .alloc _ => k + 1 | _ => k

structure DSt where
  tmps : Tm
  heap : List Blk
  pan : Option (Nat × AV × List Blk)

def drawList (C : Ctx) (call : CallT) (ops : Array Oper) (B : List Nat) (n : Nat) : List Nat → Nat → Moved → Seen → Option (Nat × AV × List Blk) → Tm → List Blk → Option DSt
  | [], _, _, _, pan, tmps, H => some ⟨tmps, H, pan⟩
  | i :: rest, k, sp, fl, pan, tmps, H => match ops[i]? with
    | none => none
    | some o => match drawOp C call ops (B.getD i 0) (pan.map (·.1)) k sp fl tmps H o with
      | none => none
      | some .dead => drawList C call ops B n rest (nextK o k) sp fl pan tmps H
      | some (.val v T) => seqV v fun v => match putA n tmps o.dst v with
        | some t => drawList C call ops B n rest (nextK o k) sp ((i, T) :: fl) pan t H
        | none => none
      | some (.mov v H' D) => seqV v fun v => match putA n tmps o.dst v with
        | some t => seqL H' fun H' => drawList C call ops B n rest (nextK o k) ((i, D) :: sp) fl pan t H'
        | none => none
      | some (.pan v H') => drawList C call ops B n rest (nextK o k) sp fl (some (i, v, H')) tmps H

def undefs : List Oper → Tm → Tm
  | [], e => e
  | o :: os, e => match o.dst with
    | some d => (d, .undef) :: undefs os e
    | none => undefs os e

/-- The variables that the region makes: they stand from its beginning. -/
def layAllocs (P : Program) : List Oper → Option (List Blk)
  | [] => some []
  | o :: os => match kindOf o.op with
    | .alloc t => match (zeroT P t).bind (fun z => cellsA (absV z)), szT P t, layAllocs P os with
      | some cs, some n, some bs => if cs.length = n then some (.cells n 0 [cs] false :: bs) else none
      | _, _, _ => none
    | _ => layAllocs P os

def drawW (C : Ctx) (call : CallT) (ops : Array Oper) (st : St) : Option (Ex × St) :=
  let B := befs ops.toList []
  if drawOK ops B then
    match layAllocs C.P ops.toList with
    | some bs => match drawList C call ops B st.n (List.range ops.size) st.heap.length [] [] none st.tmps (st.heap ++ bs) with
      | some ⟨t, H, none⟩ => some (.normal, ⟨st.n, t, H, st.defers⟩)
      | some ⟨_, _, some (_, v, H)⟩ => some (.pan v, ⟨st.n, undefs ops.toList st.tmps, H, st.defers⟩)
      | none => none
    | none => none
  else none

end Go.Ai

set_option linter.unusedVariables false
namespace Go.Ai

def loopW (ex : St → Option (Ex × St)) (nx : St → (St → Option (Ex × St)) → Option (Ex × St)) : Nat → St → Option (Ex × St)
  | 0, _ => none
  | k + 1, st => match ex st with
    | some (.normal, st') => nx st' (loopW ex nx k)
    | r => r

def regionW (C : Ctx) (call : CallT) (draw : Bool) (ops : Array Oper) (st : St) : Option (Ex × St) :=
  if draw then drawW C call ops st else runList C call ops (List.range ops.size) st

def execW (C : Ctx) (call : CallT) (ex : Code → St → Option (Ex × St)) (n : Nat) : Code → St → Option (Ex × St)
  | .skip, st => some (.normal, st)
  | .label _, st => some (.normal, st)
  | .region _ ops draw, st => regionW C call draw ops st
  | .seq a b, st => match ex a st with
    | some (.normal, st') => ex b st'
    | r => r
  | .cond c a b, st => match ev st.tmps c with
    | some (.sc (.bool true)) => ex a st
    | some (.sc (.bool false)) => ex b st
    | _ => none
  | .block id b, st => match ex b st with
    | some (.exit j, st') => if j = id then some (.normal, st') else some (.exit j, st')
    | r => r
  | .loop b, st => loopW (ex b) (nrmK (carried st.tmps (writes b) []) st) n st
  | .scope b, st => ex b st
  | .exit id, st => some (.exit id, st)
  | .ret, st => some (.ret, st)
  | _, _ => none

/-- The results of a call that comes to its end. -/
def resultA (P : Program) (tmps : Tm) (H : List Blk) : ResultVar → Option AV
  | .tmp t => some (getT tmps t)
  | .cell a t => loadA P H t (getT tmps a)

def resultsA (P : Program) (tmps : Tm) (H : List Blk) : List ResultVar → Option (List AV)
  | [] => some []
  | r :: rs => match resultA P tmps H r, resultsA P tmps H rs with
    | some v, some vs => some (v :: vs)
    | _, _ => none

def oneOr (vs : List AV) : AV := match vs with
  | [] => unit
  | [v] => v
  | vs => .tup vs

def leaveA (C : Ctx) (fn : Func) (e : Option AV) (st : St) : Option (CRes × List Blk) :=
  match st.defers with
  | [] => match e with
    | none => (resultsA C.P st.tmps st.heap fn.results.toList).map fun vs => (.ret (oneOr vs), st.heap)
    | some v => some (.pan v, st.heap)
  | [(g, cs)] => match C.recs g with
    | some F => match F cs e st.heap with
      | some (back, H) => match e, back with
        | some v, false => some (.pan v, H)
        | _, _ => (resultsA C.P st.tmps H fn.results.toList).map fun vs => (.ret (oneOr vs), H)
      | none => none
    | none => none
  | _ => none

def initT : Nat → List AV → Tm
  | _, [] => []
  | i, v :: vs => (i, v) :: initT (i + 1) vs

/-- A call that is handed one block of data (by its pointer) and data: it sees nothing else. -/
def loneW (call : CallT) : CallT := fun f args H => match args with
  | .ptr b g 0 0 :: rest => match H[b]? with
    | some (.cells size g' [row] false) => match Nat.beq g g', isDataL row, isDataL rest with
      | true, true, true => match call f (.ptr 0 0 0 0 :: rest) [.cells size 0 [row] false] with
        | some (.ret v, .cells size' g1 [row'] false :: _) => match isData v, isDataL row', Nat.beq size size', Nat.beq g1 0 with
          | true, true, true, true => some (.ret v, H.set b (.cells size g [row'] false))
          | _, _, _, _ => none
        | _ => none
      | _, _, _ => none
    | _ => none
  | _ => none

def runW (C : Ctx) (ex : Code → St → Option (Ex × St)) : CallT := fun f args H =>
  match C.P.funcs[f]? with
  | none => none
  | some fn => match fn.body with
    | none => none
    | some body =>
      match ex body { n := args.length + (fn.ntmps - args.length), tmps := initT 0 args, heap := H, defers := [] } with
      | some (.normal, st) => leaveA C fn none st
      | some (.ret, st) => leaveA C fn none st
      | some (.pan v, st) => leaveA C fn (some v) st
      | _ => none

def callW (C : Ctx) (ex : Code → St → Option (Ex × St)) : CallT := fun f args H => match C.lone f with
  | true => loneW (runW C ex) f args H
  | false => runW C ex f args H

def exec (C : Ctx) : Nat → Code → St → Option (Ex × St)
  | 0 => fun _ _ => none
  | n + 1 => execW C (callW C (exec C n)) (exec C n) n

def call (C : Ctx) (n : Nat) : CallT := callW C (exec C n)

end Go.Ai

/-
  WHAT AN ABSTRACT VALUE SAYS OF A VALUE, an abstract heap of a world; and that both are kept where the world goes on.
-/
set_option linter.unusedVariables false
namespace Go.Ai

/-- Where an abstract block lies: block B, from cell o on, room for K rows of 'size' cells; its edition; is it there at all? -/
structure LB where
  live : Bool
  g : Nat
  B : Nat
  o : Nat
  K : Nat
  size : Nat

abbrev Env := Nat → Option LB
def noE : Env := fun _ => none

def Le (E E' : Env) : Prop := ∀ b l, E b = some l → ∃ l', E' b = some l' ∧ l.g ≤ l'.g ∧
  (l'.live = true → l'.g = l.g → l.live = true ∧ l'.B = l.B ∧ l'.o = l.o ∧ l'.K = l.K ∧ l'.size = l.size)

theorem Le.refl (E : Env) : Le E E := fun b l h => ⟨l, h, Nat.le_refl _, fun hl _ => ⟨hl, rfl, rfl, rfl, rfl⟩⟩
theorem Le.trans {E E' E'' : Env} (h : Le E E') (h' : Le E' E'') : Le E E'' := by
  intro b l hb
  obtain ⟨l', hb', hg, hl⟩ := h b l hb
  obtain ⟨l'', hb'', hg', hl'⟩ := h' b l' hb'
  refine ⟨l'', hb'', Nat.le_trans hg hg', fun hv he => ?_⟩
  have e1 : l''.g = l'.g := by omega
  obtain ⟨v1, a1, a2, a3, a4⟩ := hl' hv e1
  obtain ⟨v2, c1, c2, c3, c4⟩ := hl v1 (by omega)
  exact ⟨v2, a1.trans c1, a2.trans c2, a3.trans c3, a4.trans c4⟩
theorem Le.none (E : Env) : Le noE E := fun b l h => by cases h

mutual
def V (im : Nat → Nat → Prop) (w : World) : AV → Env → Value → Prop
  | .undef, _, _ => True
  | .sc v, _, x => x = v
  | .agg cs, E, x => ∃ vs, x = .agg vs ∧ VL im w cs E vs.toList
  | .tup cs, E, x => ∃ vs, x = .tuple vs ∧ VL im w cs E vs.toList
  | .ptr b g i off, E, x => ∃ l a, E b = some l ∧ g ≤ l.g ∧ x = .pointer (some a) ∧
      (l.live = true → l.g = g → a = ⟨l.B, l.o + i * l.size + off, none⟩)
  | .rp cs off, _, x => ∃ B o, x = .pointer (some ⟨B, o + off, none⟩) ∧ VR im w cs B o
  | .sl b g start len cap, E, x => ∃ l a c, E b = some l ∧ g ≤ l.g ∧ x = .slice (some a) len c ∧
      (l.live = true → l.g = g → len ≤ c ∧ (c = 0 ∨ a = ⟨l.B, l.o + start * l.size, none⟩) ∧ (match cap with | none => start + c = l.K | some k => c = k))
  | .ro size es cap, _, x => ∃ a c, x = .slice (some a) es.length c ∧ es.length ≤ c ∧ (∀ k, cap = some k → c = k) ∧
      (es ≠ [] → a.spot = none) ∧ VRR im w es size a.block a.off
  | .mp b, E, x => ∃ l r, E b = some l ∧ x = .map (some r) ∧ (l.live = true → l.g = 0 → r = l.B)
  | .fn f cs, E, x => ∃ vs, x = .func (.func f) #[] vs ∧ VL im w cs E vs.toList
  | .ifc t v, E, x => ∃ y, x = .iface t y ∧ V im w v E y
def VL (im : Nat → Nat → Prop) (w : World) : List AV → Env → List Value → Prop
  | [], _, vs => vs = []
  | c :: cs, E, vs => ∃ v r, vs = v :: r ∧ V im w c E v ∧ VL im w cs E r
def VR (im : Nat → Nat → Prop) (w : World) : List AV → Nat → Nat → Prop
  | [], _, _ => True
  | c :: cs, B, o => (im B o ∧ ∃ x, w.cell? ⟨B, o, none⟩ = some x ∧ x.oneCell' = true ∧ V im w c noE x) ∧ VR im w cs B (o + 1)
def VRR (im : Nat → Nat → Prop) (w : World) : List (List AV) → Nat → Nat → Nat → Prop
  | [], _, _, _ => True
  | e :: es, size, B, o => e.length = size ∧ VR im w e B o ∧ VRR im w es size B (o + size)
end

mutual
theorem V_mono {im im' : Nat → Nat → Prop} {w w' : World} (hi : ∀ B o, im B o → im' B o ∧ w'.cell? ⟨B, o, none⟩ = w.cell? ⟨B, o, none⟩) :
    ∀ (c : AV) {E E' : Env} {x : Value}, Le E E' → V im w c E x → V im' w' c E' x
  | .undef, _, _, _, _, _ => by simp [V]
  | .sc v, _, _, _, _, h => by simpa [V] using h
  | .agg cs, E, E', x, he, h => by
    simp only [V] at h ⊢
    obtain ⟨vs, hx, hv⟩ := h
    exact ⟨vs, hx, VL_mono hi cs he hv⟩
  | .tup cs, E, E', x, he, h => by
    simp only [V] at h ⊢
    obtain ⟨vs, hx, hv⟩ := h
    exact ⟨vs, hx, VL_mono hi cs he hv⟩
  | .ptr b g i off, E, E', x, he, h => by
    simp only [V] at h ⊢
    obtain ⟨l, a, hb, hg, hx, hl⟩ := h
    obtain ⟨l', hb', hg', hl'⟩ := he b l hb
    refine ⟨l', a, hb', Nat.le_trans hg hg', hx, fun hv e => ?_⟩
    obtain ⟨v1, a1, a2, a3, a4⟩ := hl' hv (by omega)
    rw [a1, a2, a4]
    exact hl v1 (by omega)
  | .rp cs off, E, E', x, he, h => by
    simp only [V] at h ⊢
    obtain ⟨B, o, hx, hv⟩ := h
    exact ⟨B, o, hx, VR_mono hi cs hv⟩
  | .sl b g start len cap, E, E', x, he, h => by
    simp only [V] at h ⊢
    obtain ⟨l, a, c, hb, hg, hx, hl⟩ := h
    obtain ⟨l', hb', hg', hl'⟩ := he b l hb
    refine ⟨l', a, c, hb', Nat.le_trans hg hg', hx, fun hv e => ?_⟩
    obtain ⟨v1, a1, a2, a3, a4⟩ := hl' hv (by omega)
    rw [a1, a2, a3, a4]
    exact hl v1 (by omega)
  | .ro size es cap, E, E', x, he, h => by
    simp only [V] at h ⊢
    obtain ⟨a, c, hx, h1, h2, h3, hv⟩ := h
    exact ⟨a, c, hx, h1, h2, h3, VRR_mono hi es hv⟩
  | .mp b, E, E', x, he, h => by
    simp only [V] at h ⊢
    obtain ⟨l, r, hb, hx, hl⟩ := h
    obtain ⟨l', hb', hg', hl'⟩ := he b l hb
    refine ⟨l', r, hb', hx, fun hv e => ?_⟩
    obtain ⟨v1, a1, a2, a3, a4⟩ := hl' hv (by omega)
    rw [a1]
    exact hl v1 (by omega)
  | .fn f cs, E, E', x, he, h => by
    simp only [V] at h ⊢
    obtain ⟨vs, hx, hv⟩ := h
    exact ⟨vs, hx, VL_mono hi cs he hv⟩
  | .ifc t v, E, E', x, he, h => by
    simp only [V] at h ⊢
    obtain ⟨y, hx, hv⟩ := h
    exact ⟨y, hx, V_mono hi v he hv⟩
theorem VL_mono {im im' : Nat → Nat → Prop} {w w' : World} (hi : ∀ B o, im B o → im' B o ∧ w'.cell? ⟨B, o, none⟩ = w.cell? ⟨B, o, none⟩) :
    ∀ (cs : List AV) {E E' : Env} {xs : List Value}, Le E E' → VL im w cs E xs → VL im' w' cs E' xs
  | [], _, _, _, _, h => by simpa [VL] using h
  | c :: cs, E, E', xs, he, h => by
    simp only [VL] at h ⊢
    obtain ⟨v, r, hx, h1, h2⟩ := h
    exact ⟨v, r, hx, V_mono hi c he h1, VL_mono hi cs he h2⟩
theorem VR_mono {im im' : Nat → Nat → Prop} {w w' : World} (hi : ∀ B o, im B o → im' B o ∧ w'.cell? ⟨B, o, none⟩ = w.cell? ⟨B, o, none⟩) :
    ∀ (cs : List AV) {B o : Nat}, VR im w cs B o → VR im' w' cs B o
  | [], _, _, _ => by simp [VR]
  | c :: cs, B, o, h => by
    simp only [VR] at h ⊢
    obtain ⟨⟨h1, x, h2, h3⟩, h4⟩ := h
    exact ⟨⟨(hi _ _ h1).1, x, ((hi _ _ h1).2).trans h2, h3.1, V_mono hi c (Le.none _) h3.2⟩, VR_mono hi cs h4⟩
theorem VRR_mono {im im' : Nat → Nat → Prop} {w w' : World} (hi : ∀ B o, im B o → im' B o ∧ w'.cell? ⟨B, o, none⟩ = w.cell? ⟨B, o, none⟩) :
    ∀ (es : List (List AV)) {size B o : Nat}, VRR im w es size B o → VRR im' w' es size B o
  | [], _, _, _, _ => by simp [VRR]
  | e :: es, size, B, o, h => by
    simp only [VRR] at h ⊢
    exact ⟨h.1, VR_mono hi e h.2.1, VRR_mono hi es h.2.2⟩
end

end Go.Ai

/-
  THE ABSTRACT HEAP AND THE WORLD: that one block is laid, or turned, and all else is kept.
-/
set_option linter.unusedVariables false
namespace Go.Ai

/-- What may yet be written. -/
def Wr (E : Env) (H : List Blk) (B off : Nat) : Prop :=
  ∃ b l, E b = some l ∧ l.live = true ∧ l.B = B ∧ ∀ size g es, H[b]? = some (.cells size g es true) → l.o + es.length * size ≤ off

/-- What is written no more. X: what others hold. -/
def Im (X : Nat → Nat → Prop) (E : Env) (H : List Blk) (w : World) (B off : Nat) : Prop := B < w.heap.size ∧ ¬ X B off ∧ ¬ Wr E H B off

def RowsIn (im : Nat → Nat → Prop) (w : World) (E : Env) (C : Array Value) (o size : Nat) (es : List (List AV)) : Prop :=
  ∀ i row, es[i]? = some row → row.length = size ∧ ∀ j c, row[j]? = some c → ∃ x, C[o + i * size + j]? = some x ∧ x.oneCell' = true ∧ V im w c E x

def EntsIn (im : Nat → Nat → Prop) (w : World) (E : Env) : List (Value × AV × Nat) → List MapEntry → Prop
  | [], ms => ms = []
  | e :: es, ms => ∃ m r, ms = m :: r ∧ m.key = e.1 ∧ V im w e.2.1 E m.val ∧ m.born = e.2.2 ∧ EntsIn im w E es r

def BRel (im : Nat → Nat → Prop) (w : World) (E : Env) : Blk → Option LB → Prop
  | .res, e => e = none
  | .dead, e => ∃ l, e = some l ∧ l.live = false
  | .cells size g es fz, e => e = none ∨ ∃ l C t, e = some l ∧ l.live = true ∧ l.g = g ∧ l.size = size ∧ es.length ≤ l.K ∧
      w.heap[l.B]? = some (.cells C t (0, 0)) ∧ l.o + l.K * size ≤ C.size ∧ RowsIn im w E C l.o size es
  | .map es clock, e => ∃ l ms, e = some l ∧ l.live = true ∧ l.g = 0 ∧ w.heap[l.B]? = some (.map ms clock) ∧ EntsIn im w E es ms.toList
  | .siter s pos, e => ∃ l, e = some l ∧ l.live = true ∧ l.g = 0 ∧ l.o = 0 ∧ l.size = 0 ∧ w.heap[l.B]? = some (.stringIter s pos)
  | .miter m since seen stepped, e => ∃ l r, e = some l ∧ l.live = true ∧ l.g = 0 ∧ l.o = 0 ∧ l.size = 0 ∧
      w.heap[l.B]? = some (.mapIter r since seen.toArray stepped) ∧
      (match m with
        | none => r = none
        | some b => ∃ l' q, E b = some l' ∧ r = some q ∧ (l'.live = true → l'.g = 0 → q = l'.B))

structure HRel (X : Nat → Nat → Prop) (E : Env) (H : List Blk) (w : World) : Prop where
  dom : ∀ b, H[b]? = none → E b = none
  blk : ∀ b k, H[b]? = some k → BRel (Im X E H w) w E k (E b)
  sep : ∀ b b' l l', E b = some l → E b' = some l' → l.live = true → l'.live = true → l.B = l'.B → b = b'
  xs : ∀ b l, E b = some l → l.live = true → ∀ off, ¬ X l.B off
  xlt : ∀ B off, X B off → B < w.heap.size

/-- What no call of ours touches. -/
def Still (w w' : World) : Prop := (w'.os = w.os ∧ w'.tape = w.tape) ∧ w'.output = w.output

theorem Still.refl {w : World} : Still w w := ⟨⟨rfl, rfl⟩, rfl⟩
theorem Still.trans {w w' w'' : World} (h : Still w w') (h' : Still w' w'') : Still w w'' := ⟨⟨h'.1.1.trans h.1.1, h'.1.2.trans h.1.2⟩, h'.2.trans h.2⟩

/-- Which part of an object is read alone. -/
def frzO : Option Obj → Nat × Nat
  | some (.cells _ _ fr) => fr
  | _ => (0, 0)

theorem frozen_eq (w : World) (a : Addr) : w.frozen? a = (decide ((frzO w.heap[a.block]?).1 ≤ a.off) && decide (a.off < (frzO w.heap[a.block]?).2)) := by
  unfold World.frozen?
  split
  · rename_i h; rw [h]; rfl
  · rename_i h
    have : frzO w.heap[a.block]? = (0, 0) := by
      unfold frzO
      split
      · rename_i C t fr hc; exact absurd hc (h C t fr.1 fr.2)
      · rfl
    rw [this]
    simp

theorem Still.of_one {w w' : World} (h1 : w'.os = w.os ∧ w'.tape = w.tape) (h2 : w'.output = w.output) {B : Nat} (h3 : ∀ x, x ≠ B → w'.heap[x]? = w.heap[x]?) (h4 : frzO w.heap[B]? = (0, 0)) (h5 : frzO w'.heap[B]? = (0, 0)) : Still w w' := ⟨h1, h2⟩

theorem Still.push {w w' : World} {o : Obj} (h1 : w'.os = w.os ∧ w'.tape = w.tape) (h2 : w'.output = w.output) (h3 : w'.heap = w.heap.push o) (h4 : frzO (some o) = (0, 0)) : Still w w' := by
  refine Still.of_one h1 h2 (B := w.heap.size) (fun x hx => ?_) ?_ ?_
  · rw [h3, Array.getElem?_push, if_neg hx]
  · rw [Array.getElem?_eq_none (Nat.le_refl _)]; rfl
  · rw [h3, Array.getElem?_push, if_pos rfl]; exact h4

/-- A block of cells stands there. -/
def IsC (H : List Blk) (b : Nat) : Prop := ∃ size g es fz, H[b]? = some (.cells size g es fz)

structure Step (X : Nat → Nat → Prop) (E : Env) (H : List Blk) (w : World) (E' : Env) (H' : List Blk) (w' : World) : Prop where
  le : Le E E'
  size : w.heap.size ≤ w'.heap.size
  im : ∀ B o, Im X E H w B o → Im X E' H' w' B o ∧ w'.cell? ⟨B, o, none⟩ = w.cell? ⟨B, o, none⟩
  obj : ∀ B, B < w.heap.size → (∀ b l, E b = some l → l.live = true → l.B ≠ B) → w'.heap[B]? = w.heap[B]?
  new : ∀ b l', E' b = some l' → l'.live = true → (∃ b0 l, E b0 = some l ∧ l.live = true ∧ l.B = l'.B) ∨ w.heap.size ≤ l'.B
  len : H.length ≤ H'.length
  nb : ∀ b, IsC H b → E b = none → IsC H' b ∧ E' b = none
  still : Still w w'

theorem Step.refl {X E H w} : Step X E H w E H w :=
  ⟨Le.refl _, Nat.le_refl _, fun _ _ h => ⟨h, rfl⟩, fun _ _ _ => rfl, fun b l hb hl => .inl ⟨b, l, hb, hl, rfl⟩, Nat.le_refl _, fun _ h1 h2 => ⟨h1, h2⟩, Still.refl⟩

theorem Step.trans {X E H w E' H' w' E'' H'' w''} (h : Step X E H w E' H' w') (h' : Step X E' H' w' E'' H'' w'') : Step X E H w E'' H'' w'' where
  le := h.le.trans h'.le
  size := Nat.le_trans h.size h'.size
  im := fun B o hi => ⟨(h'.im B o (h.im B o hi).1).1, (h'.im B o (h.im B o hi).1).2.trans (h.im B o hi).2⟩
  obj := fun B hB hn => by
    refine (h'.obj B (Nat.lt_of_lt_of_le hB h.size) fun b l' hb hl => ?_).trans (h.obj B hB hn)
    rcases h.new b l' hb hl with ⟨b0, l, h0, h1, h2⟩ | h3
    · exact h2 ▸ hn b0 l h0 h1
    · omega
  new := fun b l'' hb hl => by
    rcases h'.new b l'' hb hl with ⟨b0, l', h0, h1, h2⟩ | h3
    · rcases h.new b0 l' h0 h1 with ⟨b1, l, h4, h5, h6⟩ | h7
      · exact .inl ⟨b1, l, h4, h5, h6.trans h2⟩
      · exact .inr (h2 ▸ h7)
    · exact .inr (Nat.le_trans h.size h3)
  len := Nat.le_trans h.len h'.len
  nb := fun b h1 h2 => h'.nb b (h.nb b h1 h2).1 (h.nb b h1 h2).2
  still := h.still.trans h'.still

theorem Step.V {X E H w E' H' w'} (h : Step X E H w E' H' w') {c : AV} {x : Value} (hv : V (Im X E H w) w c E x) : V (Im X E' H' w') w' c E' x :=
  V_mono h.im c h.le hv
theorem Step.VL {X E H w E' H' w'} (h : Step X E H w E' H' w') {c : List AV} {x : List Value} (hv : VL (Im X E H w) w c E x) : VL (Im X E' H' w') w' c E' x :=
  VL_mono h.im c h.le hv

theorem EntsIn_mono {im im' : Nat → Nat → Prop} {w w' : World} {E E' : Env} (hi : ∀ B o, im B o → im' B o ∧ w'.cell? ⟨B, o, none⟩ = w.cell? ⟨B, o, none⟩) (he : Le E E') :
    ∀ {es : List (Value × AV × Nat)} {ms : List MapEntry}, EntsIn im w E es ms → EntsIn im' w' E' es ms
  | [], _, h => h
  | e :: es, ms, h => by
    obtain ⟨m, r, h1, h2, h3, h4, h5⟩ := h
    exact ⟨m, r, h1, h2, V_mono hi _ he h3, h4, EntsIn_mono hi he h5⟩

theorem RowsIn_mono {im im' : Nat → Nat → Prop} {w w' : World} {E E' : Env} (hi : ∀ B o, im B o → im' B o ∧ w'.cell? ⟨B, o, none⟩ = w.cell? ⟨B, o, none⟩) (he : Le E E')
    {C : Array Value} {o size : Nat} {es : List (List AV)} (h : RowsIn im w E C o size es) : RowsIn im' w' E' C o size es := by
  intro i row hr
  obtain ⟨h1, h2⟩ := h i row hr
  refine ⟨h1, fun j c hc => ?_⟩
  obtain ⟨x, h3, h5, h4⟩ := h2 j c hc
  exact ⟨x, h3, h5, V_mono hi _ he h4⟩

/-- A block that nobody touches is as it was. -/
theorem BRel_mono {im im' : Nat → Nat → Prop} {w w' : World} {E E' : Env} (hi : ∀ B o, im B o → im' B o ∧ w'.cell? ⟨B, o, none⟩ = w.cell? ⟨B, o, none⟩) (he : Le E E')
    {k : Blk} {e : Option LB} (ho : ∀ l, e = some l → l.live = true → w'.heap[l.B]? = w.heap[l.B]?) (h : BRel im w E k e) : BRel im' w' E' k e := by
  cases k with
  | res => exact h
  | dead => exact h
  | cells size g es fz =>
    rcases h with h | ⟨l, C, t, h1, h2, h3, h4, h5, h6, h7, h8⟩
    · exact .inl h
    exact .inr ⟨l, C, t, h1, h2, h3, h4, h5, (ho l h1 h2).trans h6, h7, RowsIn_mono hi he h8⟩
  | map es clock =>
    obtain ⟨l, ms, h1, h2, h3, h4, h5⟩ := h
    exact ⟨l, ms, h1, h2, h3, (ho l h1 h2).trans h4, EntsIn_mono hi he h5⟩
  | siter s pos =>
    obtain ⟨l, h1, h2, h3, h4, h5, h6⟩ := h
    exact ⟨l, h1, h2, h3, h4, h5, (ho l h1 h2).trans h6⟩
  | miter m since seen stepped =>
    obtain ⟨l, r, h1, h2, h3, h4, h5, h6, h7⟩ := h
    refine ⟨l, r, h1, h2, h3, h4, h5, (ho l h1 h2).trans h6, ?_⟩
    cases m with
    | none => exact h7
    | some b =>
      obtain ⟨l', q, h8, h9, h10⟩ := h7
      obtain ⟨l'', h11, h12, h13⟩ := he b l' h8
      refine ⟨l'', q, h11, h9, fun hv e0 => ?_⟩
      obtain ⟨v1, a1, _⟩ := h13 hv (by omega)
      rw [a1]
      exact h10 v1 (by omega)

theorem HRel.inDom {X E H w} (h : HRel X E H w) {b : Nat} {l : LB} (hb : E b = some l) : ∃ k, H[b]? = some k := by
  cases hk : H[b]? with
  | none => rw [h.dom b hk] at hb; cases hb
  | some k => exact ⟨k, rfl⟩

theorem HRel.lt {X E H w} (h : HRel X E H w) {b : Nat} {l : LB} (hb : E b = some l) (hl : l.live = true) : l.B < w.heap.size := by
  obtain ⟨k, hk⟩ := h.inDom hb
  have hB := h.blk b k hk
  rw [hb] at hB
  have key : ∀ o, w.heap[l.B]? = some o → l.B < w.heap.size := fun o ho => by
    rcases Nat.lt_or_ge l.B w.heap.size with h1 | h1
    · exact h1
    · rw [Array.getElem?_eq_none h1] at ho; cases ho
  cases k with
  | res => cases hB
  | dead => obtain ⟨l', e, e'⟩ := hB; cases e; rw [hl] at e'; cases e'
  | cells size g es fz =>
    rcases hB with hB | ⟨l', C, t, e, _, _, _, _, h6, _⟩
    · cases hB
    · cases e; exact key _ h6
  | map es clock => obtain ⟨l', ms, e, _, _, h4, _⟩ := hB; cases e; exact key _ h4
  | siter s pos => obtain ⟨l', e, _, _, _, _, h6⟩ := hB; cases e; exact key _ h6
  | miter m since seen stepped => obtain ⟨l', r, e, _, _, _, _, h6, _⟩ := hB; cases e; exact key _ h6

/-- Block b is k now. -/
def Put (H : List Blk) (b : Nat) (k : Blk) (H' : List Blk) : Prop := H'[b]? = some k ∧ ∀ x, x ≠ b → H'[x]? = H[x]?

theorem Put.len {H H' : List Blk} {b : Nat} {k : Blk} (h : Put H b k H') : H.length ≤ H'.length := by
  rcases Nat.lt_or_ge H'.length H.length with h1 | h1
  · have h2 := h.2 H'.length
    by_cases e : H'.length = b
    · have h3 := h.1
      rw [← e] at h3
      simp at h3
    · have h3 := h2 e
      rw [List.getElem?_eq_none (Nat.le_refl _), List.getElem?_eq_getElem h1] at h3
      cases h3
  · exact h1

theorem Put.set {H : List Blk} {b : Nat} {k0 k : Blk} (h : H[b]? = some k0) : Put H b k (H.set b k) := by
  have hlt : b < H.length := by
    rcases Nat.lt_or_ge b H.length with h1 | h1
    · exact h1
    · rw [List.getElem?_eq_none h1] at h; cases h
  exact ⟨by simp [hlt], fun x hx => by rw [List.getElem?_set_ne (Ne.symm hx)]⟩

theorem newAt_put {H : List Blk} {at_ : Option Nat} {k : Blk} {b : Nat} {H' : List Blk} (h : newAt H at_ k = some (b, H')) :
    Put H b k H' ∧ (H[b]? = none ∨ H[b]? = some .res) := by
  unfold newAt at h
  cases at_ with
  | none =>
    simp only [Option.some.injEq, Prod.mk.injEq] at h
    obtain ⟨rfl, rfl⟩ := h
    refine ⟨⟨by simp, fun x hx => ?_⟩, .inl (by simp)⟩
    rcases Nat.lt_or_ge x H.length with h1 | h1
    · rw [List.getElem?_append_left h1]
    · rw [List.getElem?_eq_none (by simp; omega), List.getElem?_eq_none h1]
  | some a =>
    simp only at h
    split at h
    · rename_i hr
      simp only [Option.some.injEq, Prod.mk.injEq] at h
      obtain ⟨rfl, rfl⟩ := h
      exact ⟨Put.set hr, .inr hr⟩
    · cases h

def upd (E : Env) (b : Nat) (l : LB) : Env := fun x => if x = b then some l else E x
@[simp] theorem upd_same (E : Env) (b : Nat) (l : LB) : upd E b l b = some l := by simp [upd]
theorem upd_ne (E : Env) {b x : Nat} (l : LB) (h : x ≠ b) : upd E b l x = E x := by simp [upd, h]

/-- What is asked of a turn of one block, but for the new block's own sense. -/
structure Turn (X : Nat → Nat → Prop) (E : Env) (H : List Blk) (w : World) (b : Nat) (k : Blk) (l' : LB) (w' : World) : Prop where
  live : l'.live = true
  still : Still w w'
  size : w.heap.size ≤ w'.heap.size
  other : ∀ B, B < w.heap.size → (∀ l, E b = some l → l.live = true → l.B ≠ B) → w'.heap[B]? = w.heap[B]?
  place : w.heap.size ≤ l'.B ∨ ∃ l, E b = some l ∧ l.live = true ∧ l.B = l'.B
  ed : ∀ l, E b = some l → l.g ≤ l'.g ∧ (l'.g = l.g → l.live = true ∧ l'.B = l.B ∧ l'.o = l.o ∧ l'.K = l.K ∧ l'.size = l.size)
  zone : ∀ l, E b = some l → l.live = true → ∀ size g es, H[b]? = some (.cells size g es true) → l.B = l'.B → ∃ size' g' es', k = .cells size' g' es' true ∧ l.o + es.length * size ≤ l'.o + es'.length * size'
  cell : ∀ l, E b = some l → l.live = true → ∀ size g es, H[b]? = some (.cells size g es true) → ∀ o, o < l.o + es.length * size → w'.cell? ⟨l.B, o, none⟩ = w.cell? ⟨l.B, o, none⟩

theorem Turn.le {X E H w b k l' w'} (t : Turn X E H w b k l' w') : Le E (upd E b l') := by
  intro x l hx
  by_cases e : x = b
  · subst e
    obtain ⟨h1, h2⟩ := t.ed l hx
    exact ⟨l', upd_same _ _ _, h1, fun _ e => h2 e⟩
  · exact ⟨l, by rw [upd_ne _ _ e]; exact hx, Nat.le_refl _, fun hl _ => ⟨hl, rfl, rfl, rfl, rfl⟩⟩

theorem cell_of_heap {w w' : World} {B : Nat} (h : w'.heap[B]? = w.heap[B]?) (o : Nat) : w'.cell? ⟨B, o, none⟩ = w.cell? ⟨B, o, none⟩ := by
  simp only [World.cell?, h]

theorem Turn.im {X E H w b k l' w' H'} (h : HRel X E H w) (hp : Put H b k H') (t : Turn X E H w b k l' w') :
    ∀ B o, Im X E H w B o → Im X (upd E b l') H' w' B o ∧ w'.cell? ⟨B, o, none⟩ = w.cell? ⟨B, o, none⟩ := by
  intro B o ⟨h1, h2, h3⟩
  refine ⟨⟨Nat.lt_of_lt_of_le h1 t.size, h2, fun ⟨x, l0, hx, hl0, hB, hz⟩ => ?_⟩, ?_⟩
  · by_cases e : x = b
    · subst e
      rw [upd_same] at hx
      cases hx
      rcases t.place with hge | ⟨l, hb, hl, hlB⟩
      · omega
      · refine h3 ⟨x, l, hb, hl, hlB.trans hB, fun size g es hk => ?_⟩
        obtain ⟨size', g', es', rfl, hle⟩ := t.zone l hb hl size g es hk hlB
        exact Nat.le_trans hle (hz size' g' es' hp.1)
    · rw [upd_ne _ _ e] at hx
      exact h3 ⟨x, l0, hx, hl0, hB, fun size g es hk => hz size g es (by rw [hp.2 x e]; exact hk)⟩
  · by_cases hc : ∃ l, E b = some l ∧ l.live = true ∧ l.B = B
    · obtain ⟨l, hb, hl, rfl⟩ := hc
      by_cases hz : ∀ size g es, H[b]? = some (.cells size g es true) → l.o + es.length * size ≤ o
      · exact absurd ⟨b, l, hb, hl, rfl, hz⟩ h3
      · obtain ⟨size, hz⟩ := Classical.not_forall.1 hz
        obtain ⟨g, hz⟩ := Classical.not_forall.1 hz
        obtain ⟨es, hz⟩ := Classical.not_forall.1 hz
        obtain ⟨hk, hlt⟩ := Classical.not_imp.1 hz
        exact t.cell l hb hl size g es hk o (by omega)
    · exact cell_of_heap (t.other B h1 fun l hb hl e => hc ⟨l, hb, hl, e⟩) o

/-- One block is turned, or laid. -/
theorem HRel.turn {X E H w b k l' w' H'} (h : HRel X E H w) (hp : Put H b k H') (t : Turn X E H w b k l' w')
    (hx : ∀ off, ¬ X l'.B off) (hk : BRel (Im X (upd E b l') H' w') w' (upd E b l') k (some l')) (hnb : IsC H b → E b ≠ none := by intro _; simp [*]) :
    HRel X (upd E b l') H' w' ∧ Step X E H w (upd E b l') H' w' := by
  have him := t.im h hp
  refine ⟨⟨?_, ?_, ?_, ?_, ?_⟩, ⟨t.le, t.size, him, ?_, ?_, hp.len, ?_, t.still⟩⟩
  · intro x hx0
    have e : x ≠ b := by rintro rfl; rw [hp.1] at hx0; cases hx0
    rw [upd_ne _ _ e]
    exact h.dom x (by rw [← hp.2 x e]; exact hx0)
  · intro x k0 hk0
    by_cases e : x = b
    · subst e
      rw [hp.1] at hk0
      cases hk0
      rw [upd_same]
      exact hk
    · rw [upd_ne _ _ e]
      refine BRel_mono him t.le (fun l hl hv => ?_) (h.blk x k0 (by rw [← hp.2 x e]; exact hk0))
      refine t.other l.B (h.lt hl hv) fun l0 h0 h0v e0 => ?_
      exact e (h.sep x b l l0 hl h0 hv h0v e0.symm)
  · have one : ∀ b1 l1 l2, b1 ≠ b → upd E b l' b1 = some l1 → upd E b l' b = some l2 → l1.live = true → l1.B = l2.B → False := by
      intro b1 l1 l2 e1 h1 h2 v1 e
      rw [upd_ne _ _ e1] at h1
      rw [upd_same] at h2
      cases h2
      rcases t.place with hge | ⟨l, hb, hl, hlB⟩
      · have := h.lt h1 v1
        omega
      · exact e1 (h.sep b1 b l1 l h1 hb v1 hl (e.trans hlB.symm))
    intro b1 b2 l1 l2 h1 h2 v1 v2 e
    by_cases e1 : b1 = b <;> by_cases e2 : b2 = b
    · rw [e1, e2]
    · subst e1; exact (one b2 l2 l1 e2 h2 h1 v2 e.symm).elim
    · subst e2; exact (one b1 l1 l2 e1 h1 h2 v1 e).elim
    · rw [upd_ne _ _ e1] at h1
      rw [upd_ne _ _ e2] at h2
      exact h.sep b1 b2 l1 l2 h1 h2 v1 v2 e
  · intro x l0 hx0 hl off
    by_cases e : x = b
    · subst e; rw [upd_same] at hx0; cases hx0; exact hx off
    · rw [upd_ne _ _ e] at hx0; exact h.xs x l0 hx0 hl off
  · exact fun B off hX => Nat.lt_of_lt_of_le (h.xlt B off hX) t.size
  · exact fun B hB hn => t.other B hB fun l hb hl => hn b l hb hl
  · intro x l0 hx0 hl
    by_cases e : x = b
    · subst e
      rw [upd_same] at hx0
      cases hx0
      rcases t.place with hge | ⟨l, hb, hl', hlB⟩
      · exact .inr hge
      · exact .inl ⟨x, l, hb, hl', hlB⟩
    · rw [upd_ne _ _ e] at hx0
      exact .inl ⟨x, l0, hx0, hl, rfl⟩
  · intro x h1 h2
    have e : x ≠ b := by rintro rfl; exact hnb h1 h2
    refine ⟨?_, by rw [upd_ne _ _ e]; exact h2⟩
    obtain ⟨s, g, es, fz, hk0⟩ := h1
    exact ⟨s, g, es, fz, by rw [hp.2 x e]; exact hk0⟩

/-- Nothing of ours is turned: draws, and blocks that nobody of ours sees. -/
theorem HRel.idle {X E H w w'} (h : HRel X E H w) (hst : Still w w') (hs : w.heap.size ≤ w'.heap.size) (ho : ∀ B, B < w.heap.size → w'.heap[B]? = w.heap[B]?) :
    HRel X E H w' ∧ Step X E H w E H w' := by
  have him : ∀ B o, Im X E H w B o → Im X E H w' B o ∧ w'.cell? ⟨B, o, none⟩ = w.cell? ⟨B, o, none⟩ :=
    fun B o ⟨h1, h2, h3⟩ => ⟨⟨Nat.lt_of_lt_of_le h1 hs, h2, h3⟩, cell_of_heap (ho B h1) o⟩
  exact ⟨⟨h.dom, fun b k hk => BRel_mono him (Le.refl _) (fun l hl hv => ho l.B (h.lt hl hv)) (h.blk b k hk), h.sep, h.xs, fun B off hX => Nat.lt_of_lt_of_le (h.xlt B off hX) hs⟩,
    ⟨Le.refl _, hs, him, fun B hB _ => ho B hB, fun b l hb hl => .inl ⟨b, l, hb, hl, rfl⟩, Nat.le_refl _, fun _ h1 h2 => ⟨h1, h2⟩, hst⟩⟩

end Go.Ai

/-
  ABSTRACT VALUES AND THEIR PARTS: lists of values, rows of cells, constants, operands.
-/
set_option linter.unusedVariables false
namespace Go.Ai
section
variable {im : Nat → Nat → Prop} {w : World}

theorem VL_length : ∀ {cs : List AV} {E : Env} {xs : List Value}, VL im w cs E xs → xs.length = cs.length
  | [], _, _, h => by simp only [VL] at h; subst h; rfl
  | c :: cs, _, _, h => by
    simp only [VL] at h
    obtain ⟨v, r, rfl, _, h2⟩ := h
    simp [VL_length h2]

theorem VL_get : ∀ {cs : List AV} {E : Env} {xs : List Value} {i : Nat} {c : AV}, VL im w cs E xs → cs[i]? = some c → ∃ x, xs[i]? = some x ∧ V im w c E x
  | [], _, _, i, _, _, h => by simp at h
  | c :: cs, _, _, 0, d, h, e => by
    simp only [VL] at h
    obtain ⟨v, r, rfl, h1, _⟩ := h
    simp only [List.getElem?_cons_zero, Option.some.injEq] at e
    subst e
    exact ⟨v, by simp, h1⟩
  | c :: cs, _, _, i + 1, d, h, e => by
    simp only [VL] at h
    obtain ⟨v, r, rfl, _, h2⟩ := h
    simp only [List.getElem?_cons_succ] at e ⊢
    exact VL_get h2 e

theorem VL_of_get : ∀ {cs : List AV} {E : Env} {xs : List Value}, xs.length = cs.length → (∀ (i : Nat) (c : AV) (x : Value), cs[i]? = some c → xs[i]? = some x → V im w c E x) → VL im w cs E xs
  | [], _, xs, hl, _ => by simp only [VL]; exact List.length_eq_zero_iff.1 hl
  | c :: cs, _, [], hl, _ => by simp at hl
  | c :: cs, _, x :: xs, hl, h => by
    simp only [VL]
    exact ⟨x, xs, rfl, h 0 c x (by simp) (by simp), VL_of_get (by simpa using hl) fun i c x h1 h2 => h (i + 1) c x (by simpa using h1) (by simpa using h2)⟩

theorem VL_set {cs : List AV} {E : Env} {xs : List Value} {c : AV} {x : Value} (h : VL im w cs E xs) (i : Nat) (hv : V im w c E x) : VL im w (cs.set i c) E (xs.set i x) := by
  refine VL_of_get (by simp [VL_length h]) fun j d y hd hy => ?_
  rw [List.getElem?_set] at hd hy
  by_cases e : i = j
  · subst e
    simp only [if_true] at hd hy
    split at hd
    · rename_i h1
      rw [if_pos (by rw [VL_length h]; exact h1)] at hy
      simp only [Option.some.injEq] at hd hy
      subst hd; subst hy; exact hv
    · cases hd
  · simp only [e, if_false] at hd hy
    obtain ⟨y', hy', h2⟩ := VL_get h hd
    rw [hy'] at hy; cases hy; exact h2

theorem VL_append {cs ds : List AV} {E : Env} {xs ys : List Value} (h : VL im w cs E xs) (h' : VL im w ds E ys) : VL im w (cs ++ ds) E (xs ++ ys) := by
  induction cs generalizing xs with
  | nil => simp only [VL] at h; subst h; simpa using h'
  | cons c cs ih =>
    simp only [VL] at h
    obtain ⟨v, r, rfl, h1, h2⟩ := h
    simp only [List.cons_append, VL]
    exact ⟨v, r ++ ys, rfl, h1, ih h2⟩

theorem VL_drop {cs : List AV} {E : Env} {xs : List Value} (h : VL im w cs E xs) (n : Nat) : VL im w (cs.drop n) E (xs.drop n) := by
  refine VL_of_get (by simp [VL_length h]) fun i c x hc hx => ?_
  rw [List.getElem?_drop] at hc hx
  obtain ⟨y, hy, hv⟩ := VL_get h hc
  rw [hy] at hx; cases hx; exact hv

theorem VL_take {cs : List AV} {E : Env} {xs : List Value} (h : VL im w cs E xs) (n : Nat) : VL im w (cs.take n) E (xs.take n) := by
  refine VL_of_get (by simp [VL_length h]) fun i c x hc hx => ?_
  rw [List.getElem?_take] at hc hx
  split at hc
  · rename_i hlt
    rw [if_pos hlt] at hx
    obtain ⟨y, hy, hv⟩ := VL_get h hc
    rw [hy] at hx; cases hx; exact hv
  · cases hc

theorem VL_undef (n : Nat) (E : Env) : VL im w (List.replicate n unit) E (List.replicate n Go.undef) := by
  refine VL_of_get (by simp) fun i c x hc hx => ?_
  rw [List.getElem?_replicate] at hc hx
  split at hc
  · rename_i h1
    rw [if_pos h1] at hx
    cases hc; cases hx
    simp [V, unit, Go.undef]
  · cases hc

theorem VL_sc (E : Env) : ∀ (l : List Value), VL im w (l.map AV.sc) E l
  | [] => by simp [VL]
  | v :: l => by simp only [List.map_cons, VL]; exact ⟨v, l, rfl, by simp [V], VL_sc E l⟩

theorem V_abs1 (E : Env) (v : Value) : V im w (abs1 v) E v := by
  cases v <;> simp only [abs1, V]
  rename_i cs
  exact ⟨cs, rfl, VL_sc E _⟩

theorem V_absV (E : Env) (v : Value) : V im w (absV v) E v := by
  cases v <;> simp only [absV] <;> try exact V_abs1 E _
  rename_i vs
  split
  · simp [V]
  · simp only [V]
    refine ⟨vs, rfl, VL_of_get (by simp) fun i c x hc hx => ?_⟩
    simp only [List.getElem?_map] at hc
    rw [hx] at hc
    simp only [Option.map_some, Option.some.injEq] at hc
    subst hc
    exact V_abs1 E x

mutual
theorem V_conc : ∀ {c : AV} {v : Value} {E : Env} {x : Value}, conc c = some v → V im w c E x → x = v
  | .sc _, _, _, _, h, h' => by
    simp only [conc, Option.some.injEq] at h
    simp only [V] at h'
    rw [h', h]
  | .agg cs, v, E, x, h, h' => by
    simp only [conc, Option.map_eq_some_iff] at h
    obtain ⟨l, hl, rfl⟩ := h
    simp only [V] at h'
    obtain ⟨vs, rfl, hv⟩ := h'
    rw [← VL_conc hl hv]
  | .tup cs, v, E, x, h, h' => by
    simp only [conc, Option.map_eq_some_iff] at h
    obtain ⟨l, hl, rfl⟩ := h
    simp only [V] at h'
    obtain ⟨vs, rfl, hv⟩ := h'
    rw [← VL_conc hl hv]
  | .fn f cs, v, E, x, h, h' => by
    simp only [conc, Option.map_eq_some_iff] at h
    obtain ⟨l, hl, rfl⟩ := h
    simp only [V] at h'
    obtain ⟨vs, rfl, hv⟩ := h'
    rw [← VL_conc hl hv]
  | .ifc t a, v, E, x, h, h' => by
    simp only [conc, Option.map_eq_some_iff] at h
    obtain ⟨y, hy, rfl⟩ := h
    simp only [V] at h'
    obtain ⟨z, rfl, hz⟩ := h'
    rw [V_conc hy hz]
  | .undef, _, _, _, h, _ => by simp [conc] at h
  | .ptr .., _, _, _, h, _ => by simp [conc] at h
  | .rp .., _, _, _, h, _ => by simp [conc] at h
  | .sl .., _, _, _, h, _ => by simp [conc] at h
  | .ro .., _, _, _, h, _ => by simp [conc] at h
  | .mp _, _, _, _, h, _ => by simp [conc] at h
theorem VL_conc : ∀ {cs : List AV} {l : List Value} {E : Env} {xs : List Value}, concL cs = some l → VL im w cs E xs → xs = l
  | [], l, _, xs, h, h' => by
    simp only [concL, Option.some.injEq] at h
    simp only [VL] at h'
    rw [h', h]
  | c :: cs, l, E, xs, h, h' => by
    simp only [concL] at h
    simp only [VL] at h'
    obtain ⟨v, r, rfl, h1, h2⟩ := h'
    split at h
    · rename_i v' vs' e1 e2
      simp only [Option.some.injEq] at h
      subst h
      rw [V_conc e1 h1, VL_conc e2 h2]
    · cases h
end

theorem V_single {c : AV} {E : Env} {x : Value} (h : single c = true) (hv : V im w c E x) : (∀ cs, x ≠ .agg cs) ∧ (∀ vs, x ≠ .tuple vs) ∧ x.cells = #[x] := by
  have fin : ∀ x : Value, (∀ cs, x ≠ .agg cs) → (∀ vs, x ≠ .tuple vs) → (∀ cs, x ≠ .agg cs) ∧ (∀ vs, x ≠ .tuple vs) ∧ x.cells = #[x] := by
    intro x h1 h2
    refine ⟨h1, h2, ?_⟩
    cases x <;> simp [Value.cells]
    exact (h1 _ rfl).elim
  cases c with
  | sc v =>
    simp only [V] at hv
    subst hv
    apply fin
    · rintro cs rfl; simp [single] at h
    · rintro cs rfl; simp [single] at h
  | ptr => simp only [V] at hv; obtain ⟨_, _, _, _, rfl, _⟩ := hv; exact fin _ (by simp) (by simp)
  | rp => simp only [V] at hv; obtain ⟨_, _, rfl, _⟩ := hv; exact fin _ (by simp) (by simp)
  | sl => simp only [V] at hv; obtain ⟨_, _, _, _, _, rfl, _⟩ := hv; exact fin _ (by simp) (by simp)
  | ro => simp only [V] at hv; obtain ⟨_, _, rfl, _⟩ := hv; exact fin _ (by simp) (by simp)
  | mp => simp only [V] at hv; obtain ⟨_, _, _, rfl, _⟩ := hv; exact fin _ (by simp) (by simp)
  | fn => simp only [V] at hv; obtain ⟨_, rfl, _⟩ := hv; exact fin _ (by simp) (by simp)
  | ifc => simp only [V] at hv; obtain ⟨_, rfl, _⟩ := hv; exact fin _ (by simp) (by simp)
  | agg => simp [single] at h
  | tup => simp [single] at h
  | undef => simp [single] at h

theorem V_cells {c : AV} {cs : List AV} {E : Env} {x : Value} (h : cellsA c = some cs) (hv : V im w c E x) :
    VL im w cs E x.cells.toList ∧ (∀ d ∈ cs, single d = true) := by
  have one : ∀ c : AV, single c = true → V im w c E x → VL im w [c] E x.cells.toList := by
    intro c hc hv
    rw [(V_single hc hv).2.2]
    simp only [VL]
    exact ⟨x, [], rfl, hv, rfl⟩
  cases c with
  | agg ds =>
    simp only [cellsA] at h
    split at h
    · rename_i ha
      cases h
      simp only [V] at hv
      obtain ⟨vs, rfl, hv⟩ := hv
      exact ⟨by simpa [Value.cells] using hv, List.all_eq_true.1 ha⟩
    · cases h
  | sc v =>
    cases v with
    | agg ds =>
      simp only [cellsA] at h
      split at h
      · rename_i ha
        cases h
        simp only [V] at hv
        subst hv
        exact ⟨by simpa [Value.cells] using VL_sc E _, List.all_eq_true.1 ha⟩
      · cases h
    | _ =>
      simp only [cellsA] at h
      split at h
      · rename_i hs; cases h; exact ⟨one _ hs hv, by simpa using hs⟩
      · cases h
  | _ =>
    simp only [cellsA] at h
    split at h
    · rename_i hs; cases h; exact ⟨one _ hs hv, by simpa using hs⟩
    · cases h

/-! ### rows -/

theorem VR_get : ∀ {cs : List AV} {B o i : Nat} {c : AV}, VR im w cs B o → cs[i]? = some c → im B (o + i) ∧ ∃ x, w.cell? ⟨B, o + i, none⟩ = some x ∧ x.oneCell' = true ∧ V im w c noE x
  | [], _, _, _, _, _, h => by simp at h
  | c :: cs, B, o, 0, d, h, e => by
    simp only [VR] at h
    simp only [List.getElem?_cons_zero, Option.some.injEq] at e
    subst e
    exact h.1
  | c :: cs, B, o, i + 1, d, h, e => by
    simp only [VR] at h
    simp only [List.getElem?_cons_succ] at e
    have := VR_get h.2 e
    rw [show o + (i + 1) = o + 1 + i from by omega]
    exact this

theorem VR_of_get : ∀ {cs : List AV} {B o : Nat}, (∀ i c, cs[i]? = some c → im B (o + i) ∧ ∃ x, w.cell? ⟨B, o + i, none⟩ = some x ∧ x.oneCell' = true ∧ V im w c noE x) → VR im w cs B o
  | [], _, _, _ => by simp [VR]
  | c :: cs, B, o, h => by
    simp only [VR]
    refine ⟨by simpa using h 0 c (by simp), VR_of_get fun i d hd => ?_⟩
    have := h (i + 1) d (by simpa using hd)
    rw [show o + 1 + i = o + (i + 1) from by omega]
    exact this

theorem VRR_get : ∀ {es : List (List AV)} {size B o i : Nat} {row : List AV}, VRR im w es size B o → es[i]? = some row → row.length = size ∧ VR im w row B (o + i * size)
  | [], _, _, _, _, _, _, h => by simp at h
  | e :: es, size, B, o, 0, d, h, hd => by
    simp only [VRR] at h
    simp only [List.getElem?_cons_zero, Option.some.injEq] at hd
    subst hd
    simpa using ⟨h.1, h.2.1⟩
  | e :: es, size, B, o, i + 1, d, h, hd => by
    simp only [VRR] at h
    simp only [List.getElem?_cons_succ] at hd
    have := VRR_get h.2.2 hd
    rw [show o + (i + 1) * size = o + size + i * size from by rw [Nat.add_mul]; omega]
    exact this

theorem VRR_of_get : ∀ {es : List (List AV)} {size B o : Nat}, (∀ i row, es[i]? = some row → row.length = size ∧ VR im w row B (o + i * size)) → VRR im w es size B o
  | [], _, _, _, _ => by simp [VRR]
  | e :: es, size, B, o, h => by
    simp only [VRR]
    have h0 := h 0 e (by simp)
    refine ⟨h0.1, by simpa using h0.2, VRR_of_get fun i row hr => ?_⟩
    have := h (i + 1) row (by simpa using hr)
    rw [show o + size + i * size = o + (i + 1) * size from by rw [Nat.add_mul]; omega]
    exact this

/-! ### data -/

mutual
theorem V_data : ∀ {c : AV} {E E' : Env} {x : Value}, isData c = true → V im w c E x → V im w c E' x
  | .sc _, _, _, _, _, h => by simpa [V] using h
  | .rp .., _, _, _, _, h => by simpa [V] using h
  | .ro .., _, _, _, _, h => by simpa [V] using h
  | .agg cs, E, E', x, hd, h => by
    simp only [isData] at hd
    simp only [V] at h ⊢
    obtain ⟨vs, hx, hv⟩ := h
    exact ⟨vs, hx, VL_data hd hv⟩
  | .tup cs, E, E', x, hd, h => by
    simp only [isData] at hd
    simp only [V] at h ⊢
    obtain ⟨vs, hx, hv⟩ := h
    exact ⟨vs, hx, VL_data hd hv⟩
  | .fn f cs, E, E', x, hd, h => by
    simp only [isData] at hd
    simp only [V] at h ⊢
    obtain ⟨vs, hx, hv⟩ := h
    exact ⟨vs, hx, VL_data hd hv⟩
  | .ifc t v, E, E', x, hd, h => by
    simp only [isData] at hd
    simp only [V] at h ⊢
    obtain ⟨y, hx, hv⟩ := h
    exact ⟨y, hx, V_data hd hv⟩
  | .undef, _, _, _, hd, _ => by simp [isData] at hd
  | .ptr .., _, _, _, hd, _ => by simp [isData] at hd
  | .sl .., _, _, _, hd, _ => by simp [isData] at hd
  | .mp _, _, _, _, hd, _ => by simp [isData] at hd
theorem VL_data : ∀ {cs : List AV} {E E' : Env} {xs : List Value}, isDataL cs = true → VL im w cs E xs → VL im w cs E' xs
  | [], _, _, _, _, h => by simpa [VL] using h
  | c :: cs, E, E', xs, hd, h => by
    simp only [isDataL, Bool.and_eq_true] at hd
    simp only [VL] at h ⊢
    obtain ⟨v, r, hx, h1, h2⟩ := h
    exact ⟨v, r, hx, V_data hd.1 h1, VL_data hd.2 h2⟩
end

theorem isDataL_get : ∀ {cs : List AV} {i : Nat} {c : AV}, isDataL cs = true → cs[i]? = some c → isData c = true
  | [], _, _, _, h => by simp at h
  | d :: cs, 0, c, h, e => by
    simp only [isDataL, Bool.and_eq_true] at h
    simp only [List.getElem?_cons_zero, Option.some.injEq] at e
    exact e ▸ h.1
  | d :: cs, i + 1, c, h, e => by
    simp only [isDataL, Bool.and_eq_true] at h
    exact isDataL_get h.2 (by simpa using e)

/-! ### operands -/

/-- The slots. -/
def TRel (im : Nat → Nat → Prop) (w : World) (E : Env) (n : Nat) (tmps : Tm) (a : Act) : Prop :=
  a.tmps.size = n ∧ ∀ t, V im w (getT tmps t) E (a.tmps.getD t Go.undef)

theorem ev_sound {n : Nat} {tmps : Tm} {a : Act} {E : Env} (ht : TRel im w E n tmps a) {x : Operand} {v : AV} (h : ev tmps x = some v) : V im w v E (a.eval x) := by
  cases x with
  | tmp t =>
    simp only [ev, Option.some.injEq] at h
    subst h
    exact ht.2 t
  | const c => simp only [ev, Option.some.injEq] at h; subst h; exact V_absV E c
  | global g => simp [ev] at h
  | func f =>
    simp only [ev, Option.some.injEq] at h
    subst h
    simp only [V, Act.eval]
    exact ⟨#[], rfl, by simp [VL]⟩

theorem TRel.put {n : Nat} {tmps t' : Tm} {a : Act} {E : Env} (ht : TRel im w E n tmps a) {d : Option Tmp} {v : AV} {x : Value} (hp : putA n tmps d v = some t') (hv : V im w v E x) :
    TRel im w E n t' (a.put d x) := by
  cases d with
  | none =>
    simp only [putA, Option.some.injEq] at hp
    subst hp
    exact ht
  | some d =>
    simp only [putA] at hp
    split at hp
    · rename_i hb
      cases hp
      have hlt : d < n := by rw [← Nat.blt_eq]; exact hb
      refine ⟨by simp [Act.put, ht.1], fun t => ?_⟩
      simp only [Act.put, getT]
      have hsz := ht.1
      split
      · rename_i hbe
        have : d = t := by simpa using Nat.beq_eq.mp hbe
        subst this
        rw [Array.getD_eq_getD_getElem?, Array.getElem?_setIfInBounds_self_of_lt (by rw [hsz]; exact hlt)]
        exact hv
      · rename_i hbe
        have : d ≠ t := by
          rintro rfl
          simp at hbe
        rw [Array.getD_eq_getD_getElem?, Array.getElem?_setIfInBounds_ne this, ← Array.getD_eq_getD_getElem?]
        exact ht.2 t
    · cases hp

theorem TRel.mono {im' : Nat → Nat → Prop} {w' : World} {n : Nat} {tmps : Tm} {a : Act} {E E' : Env} (hi : ∀ B o, im B o → im' B o ∧ w'.cell? ⟨B, o, none⟩ = w.cell? ⟨B, o, none⟩) (he : Le E E')
    (ht : TRel im w E n tmps a) : TRel im' w' E' n tmps a := ⟨ht.1, fun t => V_mono hi _ he (ht.2 t)⟩

theorem evL_sound {n : Nat} {tmps : Tm} {a : Act} {E : Env} (ht : TRel im w E n tmps a) : ∀ {xs : List Operand} {vs : List AV}, evL tmps xs = some vs → VL im w vs E (xs.map a.eval)
  | [], vs, h => by simp only [evL, Option.some.injEq] at h; subst h; simp [VL]
  | x :: xs, vs, h => by
    simp only [evL] at h
    split at h
    · rename_i v us e1 e2
      cases h
      simp only [List.map_cons, VL]
      exact ⟨_, _, rfl, ev_sound ht e1, evL_sound ht e2⟩
    · cases h

end
end Go.Ai

/-
  READING AND WRITING MEMORY: what the abstract heap says that a load or a store does, the world does.
-/
set_option linter.unusedVariables false
namespace Go.Ai

theorem addr_add (B o j : Nat) : (⟨B, o, none⟩ : Addr).add j = ⟨B, o + j, none⟩ := by
  unfold Addr.add; split <;> simp_all

section
variable {P : Program}

theorem run_sizeOf {t n : Nat} (h : szT P t = some n) (w : World) : (sizeOf t).run P w = .ok n w := by
  simp only [szT, Option.map_eq_some_iff] at h
  obtain ⟨i, hi, rfl⟩ := h
  simp [sizeOf, typeInfo, hi]

theorem run_isAgg {t : Nat} {b : Bool} (h : aggT P t = some b) (w : World) : (isAgg t).run P w = .ok b w := by
  unfold aggT at h
  unfold isAgg
  cases hu : P.underlying t with
  | none => rw [hu] at h; cases h
  | some d =>
    rw [hu] at h
    rw [Sem.run_bind, run_underlying hu w]
    cases d <;> simp_all

theorem run_zeroValue {t : Nat} {z : Value} (h : zeroT P t = some z) (w : World) : (zeroValue t).run P w = .ok z w := by
  simp only [zeroT, Option.bind_eq_some_iff] at h
  obtain ⟨i, hi, hz⟩ := h
  simp [zeroValue, typeInfo, hi, hz]

variable {im : Nat → Nat → Prop} {w : World} {E : Env}

/-- Cells that stand at a place. -/
def At (im : Nat → Nat → Prop) (w : World) (E : Env) (B o : Nat) (row : List AV) : Prop :=
  ∀ j c, row[j]? = some c → ∃ x, w.cell? ⟨B, o + j, none⟩ = some x ∧ x.oneCell' = true ∧ V im w c E x

theorem At.list {B o : Nat} {row : List AV} (h : At im w E B o row) : ∃ xs : List Value, VL im w row E xs ∧ ∀ (j : Nat) (x : Value), xs[j]? = some x → w.cell? ⟨B, o + j, none⟩ = some x ∧ x.oneCell' = true := by
  induction row generalizing o with
  | nil => exact ⟨[], by simp [VL], by simp⟩
  | cons c row ih =>
    obtain ⟨xs, h1, h2⟩ := ih (o := o + 1) (fun j d hd => by
      have := h (j + 1) d (by simpa using hd)
      rw [show o + 1 + j = o + (j + 1) from by omega]; exact this)
    obtain ⟨x, hx, h1c, hv⟩ := h 0 c (by simp)
    refine ⟨x :: xs, by simp only [VL]; exact ⟨x, xs, rfl, hv, h1⟩, fun j y hy => ?_⟩
    cases j with
    | zero => simp only [List.getElem?_cons_zero, Option.some.injEq] at hy; subst hy; exact ⟨hx, h1c⟩
    | succ j =>
      have := h2 j y (by simpa using hy)
      rw [show o + (j + 1) = o + 1 + j from by omega]; exact this

theorem At.sub {B o : Nat} {row : List AV} (h : At im w E B o row) (n m : Nat) : At im w E B (o + n) ((row.drop n).take m) := by
  intro j c hc
  rw [List.getElem?_take] at hc
  split at hc
  · rw [List.getElem?_drop] at hc
    have := h (n + j) c hc
    rwa [← Nat.add_assoc] at this
  · cases hc

theorem loadVar_sound {t B o off : Nat} {row : List AV} {v : AV} (h : At im w E B o row) (hv : takeT P t row off = some v) :
    ∃ x, (loadVar t ⟨B, o + off, none⟩).run P w = .ok x w ∧ V im w v E x := by
  unfold takeT at hv
  split at hv
  · rename_i n ha hn
    split at hv
    · rename_i hle
      cases hv
      obtain ⟨xs, h1, h2⟩ := (h.sub off n).list
      have hlen : xs.length = n := by rw [VL_length h1]; simp; omega
      have hl := run_loadCells_list (P := P) w ⟨B, o + off, none⟩ xs (fun j x hx => by rw [addr_add]; exact (h2 j x hx).1)
      rw [hlen] at hl
      refine ⟨.agg xs.toArray, ?_, ?_⟩
      · simp [loadVar, run_isAgg ha, run_sizeOf hn, hl]
      · simp only [V]; exact ⟨_, rfl, by simpa using h1⟩
    · cases hv
  · rename_i ha hn
    obtain ⟨x, hx, _, hvx⟩ := h off v hv
    exact ⟨x, by simp [loadVar, run_isAgg ha, hx], hvx⟩
  · cases hv

theorem splice_get {α : Type} (l : List α) (p : Nat) (vs : List α) (h : p + vs.length ≤ l.length) (q : Nat) :
    (l.take p ++ vs ++ l.drop (p + vs.length))[q]? = if p ≤ q ∧ q < p + vs.length then vs[q - p]? else l[q]? := by
  have hp : (l.take p).length = p := by simp; omega
  by_cases h1 : q < p
  · rw [List.append_assoc, List.getElem?_append_left (by omega), List.getElem?_take, if_pos h1, if_neg (by omega)]
  · rw [List.append_assoc, List.getElem?_append_right (by omega), hp]
    by_cases h2 : q < p + vs.length
    · rw [List.getElem?_append_left (by omega), if_pos ⟨by omega, h2⟩]
    · rw [List.getElem?_append_right (by omega), List.getElem?_drop, if_neg (by omega)]
      congr 1
      omega

theorem putRow_get (row : List AV) (off : Nat) (cs : List AV) (h : off + cs.length ≤ row.length) (q : Nat) :
    (putRow row off cs)[q]? = if off ≤ q ∧ q < off + cs.length then cs[q - off]? else row[q]? := splice_get row off cs h q

theorem putRow_length (row : List AV) (off : Nat) (cs : List AV) (h : off + cs.length ≤ row.length) : (putRow row off cs).length = row.length := by
  simp [putRow]; omega

theorem oneCell_of_single {c : AV} {x : Value} (h : single c = true) (hv : V im w c E x) : x.oneCell' = true := by
  obtain ⟨h1, h2, _⟩ := V_single h hv
  cases x <;> simp [Value.oneCell']
  · exact (h1 _ rfl).elim
  · exact (h2 _ rfl).elim

theorem VL_mem {cs : List AV} {xs : List Value} (h : VL im w cs E xs) {x : Value} (hx : x ∈ xs) : ∃ c, c ∈ cs ∧ V im w c E x := by
  obtain ⟨i, hi, rfl⟩ := List.getElem_of_mem hx
  have hi' : i < cs.length := by rw [VL_length h] at hi; exact hi
  obtain ⟨y, hy, hv⟩ := VL_get h (List.getElem?_eq_getElem hi')
  rw [List.getElem?_eq_getElem hi] at hy
  cases hy
  exact ⟨cs[i], List.getElem_mem hi', hv⟩

theorem Still.setRow {w : World} {B : Nat} {cs old : Array Value} {t : TypeId} (h : w.heap[B]? = some (.cells old t (0, 0))) : Still w (w.setRow B cs) :=
  Still.of_one ⟨rfl, rfl⟩ rfl (B := B) (fun x hx => setRow_other w B x _ hx) (by rw [h]; rfl) (by rw [setRow_heap _ _ _ _ _ _ h]; rfl)

/-- An own block of cells. -/
theorem HRel.own {X H} (h : HRel X E H w) {b size g : Nat} {es : List (List AV)} {fz : Bool} (hb : H[b]? = some (.cells size g es fz)) (he : ∃ l, E b = some l) :
    ∃ l C t, E b = some l ∧ l.live = true ∧ l.g = g ∧ l.size = size ∧ es.length ≤ l.K ∧
      w.heap[l.B]? = some (.cells C t (0, 0)) ∧ l.o + l.K * size ≤ C.size ∧ RowsIn (Im X E H w) w E C l.o size es := by
  have hB := h.blk b _ hb
  obtain ⟨l0, he⟩ := he
  rcases hB with hB | ⟨l, C, t, h1, h2⟩
  · rw [hB] at he; cases he
  exact ⟨l, C, t, h1, h2⟩

theorem V_ptr_has {b g i off : Nat} {x : Value} (h : V im w (.ptr b g i off) E x) : ∃ l, E b = some l := by
  simp only [V] at h
  obtain ⟨l, _, h, _⟩ := h
  exact ⟨l, h⟩

theorem V_sl_has {b g start len : Nat} {cap : Option Nat} {x : Value} (h : V im w (.sl b g start len cap) E x) : ∃ l, E b = some l := by
  simp only [V] at h
  obtain ⟨l, _, _, h, _⟩ := h
  exact ⟨l, h⟩

theorem RowsIn.at {C : Array Value} {o size B i : Nat} {t : TypeId} {fr : Nat × Nat} {es : List (List AV)} {row : List AV} (h : RowsIn im w E C o size es) (hB : w.heap[B]? = some (.cells C t fr)) (hr : es[i]? = some row) :
    At im w E B (o + i * size) row := by
  intro j c hc
  obtain ⟨x, hx, h1, hv⟩ := (h i row hr).2 j c hc
  exact ⟨x, by simp [World.cell?, hB, hx], h1, hv⟩

theorem loadA_sound {X H} (h : HRel X E H w) {t : Nat} {a v : AV} {x : Value} (ha : V (Im X E H w) w a E x) (hv : loadA P H t a = some v) :
    ∃ y, (Instr.loadAt t x).run P w = .ok y w ∧ V (Im X E H w) w v E y := by
  unfold loadA at hv
  split at hv
  · rename_i b g i off
    split at hv
    · rename_i size g' es fz hk
      split at hv
      · rename_i hg
        subst hg
        simp only [Option.bind_eq_some_iff] at hv
        obtain ⟨row, hr, hv⟩ := hv
        obtain ⟨l, C, t0, hE, hl, hg, hs, hK, hh, hC, hR⟩ := h.own hk (V_ptr_has ha)
        simp only [V] at ha
        obtain ⟨l', a, hE', _, rfl, hpl⟩ := ha
        rw [hE] at hE'
        cases hE'
        rw [hpl hl hg, hs]
        obtain ⟨y, h1, h2⟩ := loadVar_sound (P := P) (hR.at hh hr) hv
        exact ⟨y, by simpa [Instr.loadAt, Instr.sureAddr] using h1, h2⟩
      · cases hv
    · cases hv
  · rename_i row off
    simp only [V] at ha
    obtain ⟨B, o, rfl, hR⟩ := ha
    have hat : At (Im X E H w) w noE B o row := fun j c hc => by
      obtain ⟨_, y, h1, h2⟩ := VR_get hR hc
      exact ⟨y, h1, h2⟩
    obtain ⟨y, h1, h2⟩ := loadVar_sound (P := P) hat hv
    exact ⟨y, by simpa [Instr.loadAt, Instr.sureAddr] using h1, V_mono (fun _ _ h => ⟨h, rfl⟩) v (Le.none E) h2⟩
  · cases hv

theorem upd_self {b : Nat} {l : LB} (h : E b = some l) : upd E b l = E := by
  funext x
  by_cases e : x = b
  · subst e; rw [upd_same, h]
  · rw [upd_ne _ _ e]

theorem storeA_sound {X H H'} (h : HRel X E H w) {t : Nat} {a v : AV} {x y : Value} (ha : V (Im X E H w) w a E x) (hy : V (Im X E H w) w v E y)
    (hv : storeA P H t a v = some H') : ∃ w', (Instr.storeAt t x y).run P w = .ok () w' ∧ HRel X E H' w' ∧ Step X E H w E H' w' := by
  unfold storeA at hv
  split at hv
  · rename_i b g i off cs n hcs hn
    split at hv
    · rename_i size g' es hk
      split at hv
      · rename_i row hr
        split at hv
        · rename_i hc
          obtain ⟨rfl, hlen, hle⟩ := hc
          cases hv
          obtain ⟨l, C, t0, hE, hl, hg, hs, hK, hh, hC, hR⟩ := h.own hk (V_ptr_has ha)
          simp only [V] at ha
          obtain ⟨l', a, hE', _, rfl, hpl⟩ := ha
          rw [hE] at hE'
          cases hE'
          rw [hpl hl hg, hs]
          obtain ⟨hvl, hsg⟩ := V_cells hcs hy
          have hyl : y.cells.toList.length = n := by rw [VL_length hvl, hlen]
          have hrow := (hR i row hr).1
          have hi : i < es.length := by
            rcases Nat.lt_or_ge i es.length with h1 | h1
            · exact h1
            · rw [List.getElem?_eq_none h1] at hr; cases hr
          have hfit : l.o + i * size + off + y.cells.toList.length ≤ C.size := by
            have h1 : (i + 1) * size ≤ l.K * size := Nat.mul_le_mul_right _ (by omega)
            rw [Nat.add_mul] at h1
            omega
          have hst := run_storeCells_at P l.B (l.o + i * size + off) t0 y.cells.toList 0 C w hh (by simpa using hfit) (fun u hu => by
            obtain ⟨c, hc, hcv⟩ := VL_mem hvl hu
            exact oneCell_of_single (hsg c hc) hcv)
          simp only [Nat.add_zero] at hst
          have hrun : (Instr.storeAt t (.pointer (some ⟨l.B, l.o + i * size + off, none⟩)) y).run P w = .ok () (w.setRow l.B (C.toList.take (l.o + i * size + off) ++ y.cells.toList ++ C.toList.drop (l.o + i * size + off + y.cells.toList.length)).toArray) := by
            have h2 : ¬ (y.cells.size ≠ n) := by simpa using hyl
            simp [Instr.storeAt, Instr.sureAddr, storeVar, run_sizeOf hn, h2, hst]
          refine ⟨_, hrun, ?_⟩
          generalize hC' : C.toList.take (l.o + i * size + off) ++ y.cells.toList ++ C.toList.drop (l.o + i * size + off + y.cells.toList.length) = C' at *
          have hget : ∀ q : Nat, C'[q]? = if l.o + i * size + off ≤ q ∧ q < l.o + i * size + off + n then y.cells.toList[q - (l.o + i * size + off)]? else C[q]? := by
            intro q
            rw [← hC', splice_get _ _ _ (by simpa using hfit), hyl, Array.getElem?_toList (xs := C)]
          have hlenC : C'.length = C.size := by rw [← hC']; simp at hfit ⊢; omega
          have hT : Turn X E H w b (.cells size g (es.set i (putRow row off cs)) false) l (w.setRow l.B C'.toArray) :=
            { live := hl, still := Still.setRow hh, size := by simp, place := .inr ⟨l, hE, hl, rfl⟩,
              other := fun B hB hn => setRow_other w l.B B _ fun e => hn l hE hl e.symm
              ed := fun l0 h0 => by rw [hE] at h0; cases h0; exact ⟨Nat.le_refl _, fun _ => ⟨hl, rfl, rfl, rfl, rfl⟩⟩
              zone := fun l0 h0 _ size' g' es' hk' => by rw [hk] at hk'; cases hk'
              cell := fun l0 h0 _ size' g' es' hk' => by rw [hk] at hk'; cases hk' }
          have hP : Put H b (.cells size g (es.set i (putRow row off cs)) false) (H.set b (.cells size g (es.set i (putRow row off cs)) false)) := Put.set hk
          have him := hT.im h hP
          have hres := h.turn hP hT (h.xs b l hE hl) (by
            refine .inr ⟨l, C'.toArray, t0, rfl, hl, hg, hs, by simpa using hK, setRow_heap w l.B C _ t0 _ hh, by rw [List.size_toArray, hlenC]; exact hC, ?_⟩
            intro i' row' hr'
            rw [List.getElem?_set] at hr'
            by_cases e : i = i'
            · subst e
              rw [if_pos rfl, if_pos hi] at hr'
              cases hr'
              refine ⟨by rw [putRow_length _ _ _ (by omega)]; exact hrow, fun j c hc => ?_⟩
              rw [putRow_get _ _ _ (by omega)] at hc
              have hq := hget (l.o + i * size + j)
              simp only [List.getElem?_toArray]
              by_cases hj : off ≤ j ∧ j < off + cs.length
              · rw [if_pos hj] at hc
                rw [if_pos (by omega)] at hq
                obtain ⟨z, hz, hzv⟩ := VL_get hvl hc
                refine ⟨z, ?_, oneCell_of_single (hsg c (List.mem_of_getElem? hc)) hzv, V_mono him c hT.le hzv⟩
                rw [hq, show l.o + i * size + j - (l.o + i * size + off) = j - off from by omega]
                exact hz
              · rw [if_neg hj] at hc
                rw [if_neg (by omega)] at hq
                obtain ⟨z, hz, hz1, hzv⟩ := (hR i row hr).2 j c hc
                exact ⟨z, hq.trans hz, hz1, V_mono him c hT.le hzv⟩
            · rw [if_neg e] at hr'
              have h0 := hR i' row' hr'
              refine ⟨h0.1, fun j c hc => ?_⟩
              obtain ⟨z, hz, hz1, hzv⟩ := h0.2 j c hc
              refine ⟨z, ?_, hz1, V_mono him c hT.le hzv⟩
              have hj : j < size := by
                rcases Nat.lt_or_ge j row'.length with h1 | h1
                · omega
                · rw [List.getElem?_eq_none h1] at hc; cases hc
              simp only [List.getElem?_toArray]
              rw [hget, if_neg, hz]
              rcases Nat.lt_or_gt_of_ne e with h1 | h1
              · have : (i + 1) * size ≤ i' * size := Nat.mul_le_mul_right _ h1
                rw [Nat.add_mul] at this
                omega
              · have : (i' + 1) * size ≤ i * size := Nat.mul_le_mul_right _ h1
                rw [Nat.add_mul] at this
                omega)
          rw [upd_self hE] at hres
          exact hres
        · cases hv
      · cases hv
    · cases hv
  · cases hv

end
end Go.Ai

/-
  NEW MEMORY: variables, slices that are made, what an append makes.
-/
set_option linter.unusedVariables false
namespace Go.Ai
section
variable {P : Program} {X : Nat → Nat → Prop} {E : Env} {H : List Blk} {w : World}

/-- What an operation leaves: a value, the heap and the world behind it. -/
def Good (X : Nat → Nat → Prop) (E : Env) (H : List Blk) (w : World) (v : AV) (H' : List Blk) (x : Value) (w' : World) : Prop :=
  ∃ E', HRel X E' H' w' ∧ Step X E H w E' H' w' ∧ V (Im X E' H' w') w' v E' x

theorem Good.here {v : AV} {x : Value} (h : HRel X E H w) (hv : V (Im X E H w) w v E x) : Good X E H w v H x w := ⟨E, h, Step.refl, hv⟩

theorem none_of_new {b : Nat} (h : HRel X E H w) (hb : H[b]? = none ∨ H[b]? = some .res) : E b = none := by
  rcases hb with hb | hb
  · exact h.dom b hb
  · exact h.blk b _ hb

theorem HRel.lay (h : HRel X E H w) {at_ : Option Nat} {k : Blk} {b : Nat} {H' : List Blk} (hn : newAt H at_ k = some (b, H')) {o : Obj} {w' : World}
    (hw : w'.heap = w.heap.push o) {l : LB} (hl : l.live = true) (hB : l.B = w.heap.size)
    (hk : ∀ im', (∀ B o, Im X E H w B o → im' B o ∧ w'.cell? ⟨B, o, none⟩ = w.cell? ⟨B, o, none⟩) → Le E (upd E b l) → w'.heap[l.B]? = some o → BRel im' w' (upd E b l) k (some l))
    (hos : w'.os = w.os ∧ w'.tape = w.tape := by exact ⟨rfl, rfl⟩) (hout : w'.output = w.output := by rfl) (hfr : frzO (some o) = (0, 0) := by rfl) :
    HRel X (upd E b l) H' w' ∧ Step X E H w (upd E b l) H' w' := by
  obtain ⟨hp, hb⟩ := newAt_put hn
  have he := none_of_new h hb
  have hT : Turn X E H w b k l w' :=
    { live := hl, still := Still.push hos hout hw hfr, size := by rw [hw]; simp, place := .inl (by omega),
      other := fun B hB' _ => by rw [hw, Array.getElem?_push, if_neg (Nat.ne_of_lt hB')],
      ed := fun l0 h0 => (by rw [he] at h0; cases h0),
      zone := fun l0 h0 => (by rw [he] at h0; cases h0),
      cell := fun l0 h0 => (by rw [he] at h0; cases h0) }
  have him := hT.im h hp
  refine h.turn hp hT (fun off hx => by have := h.xlt _ _ hx; omega) (hk _ him hT.le (by rw [hw, hB]; simp)) ?_
  rintro ⟨s, g, es, fz, hc⟩
  rcases hb with hb | hb <;> rw [hb] at hc <;> cases hc

/-- Rows of values. -/
theorem rows_list {im : Nat → Nat → Prop} {B size : Nat} : ∀ {ys : List (List AV)} {o : Nat}, (∀ i row, ys[i]? = some row → row.length = size ∧ At im w E B (o + i * size) row) →
    ∃ news : List Value, news.length = ys.length * size ∧ RowsIn im w E news.toArray 0 size ys ∧ ∀ (j : Nat) (u : Value), news[j]? = some u → w.cell? ⟨B, o + j, none⟩ = some u ∧ u.oneCell' = true
  | [], o, _ => ⟨[], by simp, fun i row h => by simp at h, by simp⟩
  | y :: ys, o, h => by
    obtain ⟨h1, h2⟩ := h 0 y (by simp)
    simp only [Nat.zero_mul, Nat.add_zero] at h2
    obtain ⟨xs, hx, hc⟩ := h2.list
    have hxl : xs.length = size := by rw [VL_length hx, h1]
    obtain ⟨news, hl, hr, hcell⟩ := rows_list (ys := ys) (o := o + size) (fun i row hi => by
      have := h (i + 1) row (by simpa using hi)
      rw [show o + size + i * size = o + (i + 1) * size from by rw [Nat.add_mul]; omega]
      exact this)
    refine ⟨xs ++ news, by simp [hl, hxl, Nat.add_mul]; omega, ?_, ?_⟩
    · intro i row hi
      cases i with
      | zero =>
        simp only [List.getElem?_cons_zero, Option.some.injEq] at hi
        subst hi
        refine ⟨h1, fun j c hj => ?_⟩
        obtain ⟨x, hx', hv⟩ := VL_get hx hj
        refine ⟨x, ?_, (hc j x hx').2, hv⟩
        have hlt : j < xs.length := by
          rcases Nat.lt_or_ge j xs.length with h3 | h3
          · exact h3
          · rw [List.getElem?_eq_none h3] at hx'; cases hx'
        simp only [Nat.zero_mul, Nat.zero_add, List.getElem?_toArray]
        rw [List.getElem?_append_left hlt]
        exact hx'
      | succ i =>
        have h3 := hr i row (by simpa using hi)
        refine ⟨h3.1, fun j c hj => ?_⟩
        obtain ⟨x, hx', hx1, hv⟩ := h3.2 j c hj
        refine ⟨x, ?_, hx1, hv⟩
        simp only [Nat.zero_add, List.getElem?_toArray] at hx' ⊢
        rw [List.getElem?_append_right (by rw [hxl, Nat.add_mul]; omega), hxl, show (i + 1) * size + j - size = i * size + j from by rw [Nat.add_mul]; omega]
        exact hx'
    · intro j u hu
      by_cases hj : j < size
      · rw [List.getElem?_append_left (by omega)] at hu
        exact hc j u hu
      · rw [List.getElem?_append_right (by omega), hxl] at hu
        have := hcell (j - size) u hu
        rw [show o + size + (j - size) = o + j from by omega] at this
        exact this

theorem allocA_sound (h : HRel X E H w) {at_ : Option Nat} {t : Nat} {v : AV} {H' : List Blk} (hv : allocA P H at_ t = some (v, H')) (u : Value) :
    ∃ x w', (Instr.alloc t true u).run P w = .ok x w' ∧ Good X E H w v H' x w' := by
  unfold allocA at hv
  split at hv
  · rename_i cs n hz hn
    split at hv
    · rename_i hlen
      simp only [Option.map_eq_some_iff] at hv
      obtain ⟨⟨b, H1⟩, hnew, he⟩ := hv
      cases he
      simp only [Option.bind_eq_some_iff] at hz
      obtain ⟨z, hz, hcs⟩ := hz
      obtain ⟨hvl, hsg⟩ := V_cells (im := Im X E H w) (w := w) (E := E) hcs (V_absV E z)
      refine ⟨.pointer (some ⟨w.heap.size, 0, none⟩), w.alloc (.cells z.cells t), by simp [Instr.alloc, run_zeroValue hz, newVar, newRow], ?_⟩
      obtain ⟨h1, h2⟩ := h.lay hnew (o := .cells z.cells t) (w' := w.alloc (.cells z.cells t)) rfl
        (l := { live := true, g := 0, B := w.heap.size, o := 0, K := 1, size := n }) rfl rfl (fun im' him hle ho => Or.inr <|
          ⟨_, z.cells, t, rfl, rfl, rfl, rfl, by simp, ho, by
            have := VL_length hvl
            simp at this
            show 0 + 1 * n ≤ z.cells.size
            omega, fun i row hi => by
            cases i with
            | zero =>
              simp only [List.getElem?_cons_zero, Option.some.injEq] at hi
              subst hi
              refine ⟨hlen, fun j c hj => ?_⟩
              obtain ⟨y, hy, hyv⟩ := VL_get hvl hj
              exact ⟨y, by simpa using hy, oneCell_of_single (hsg c (List.mem_of_getElem? hj)) hyv, V_mono him c hle hyv⟩
            | succ i => simp at hi⟩)
      refine ⟨_, h1, h2, ?_⟩
      simp only [V]
      exact ⟨_, _, upd_same _ _ _, Nat.le_refl _, rfl, fun _ _ => by simp⟩
    · cases hv
  · cases hv

theorem boxA_sound (h : HRel X E H w) {at_ : Option Nat} {t : Nat} {v c : AV} {x : Value} {H' : List Blk} (hc : V (Im X E H w) w c E x) (hv : boxA H at_ c = some (v, H')) :
    ∃ y w', (Instr.box t x).run P w = .ok y w' ∧ Good X E H w v H' y w' := by
  unfold boxA at hv
  split at hv
  · rename_i cs hcs
    simp only [Option.map_eq_some_iff] at hv
    obtain ⟨⟨b, H1⟩, hnew, he⟩ := hv
    cases he
    obtain ⟨hvl, hsg⟩ := V_cells hcs hc
    refine ⟨.pointer (some ⟨w.heap.size, 0, none⟩), w.alloc (.cells x.cells t), by simp [Instr.box, newVar, newRow], ?_⟩
    obtain ⟨h1, h2⟩ := h.lay hnew (o := .cells x.cells t) (w' := w.alloc (.cells x.cells t)) rfl
      (l := { live := true, g := 0, B := w.heap.size, o := 0, K := 1, size := cs.length }) rfl rfl (fun im' him hle ho => Or.inr <|
        ⟨_, x.cells, t, rfl, rfl, rfl, rfl, by simp, ho, by
          have := VL_length hvl
          simp at this
          show 0 + 1 * cs.length ≤ x.cells.size
          omega, fun i row hi => by
          cases i with
          | zero =>
            simp only [List.getElem?_cons_zero, Option.some.injEq] at hi
            subst hi
            refine ⟨rfl, fun j c hj => ?_⟩
            obtain ⟨y, hy, hyv⟩ := VL_get hvl hj
            exact ⟨y, by simpa using hy, oneCell_of_single (hsg c (List.mem_of_getElem? hj)) hyv, V_mono him c hle hyv⟩
          | succ i => simp at hi⟩)
    refine ⟨_, h1, h2, ?_⟩
    simp only [V]
    exact ⟨_, _, upd_same _ _ _, Nat.le_refl _, rfl, fun _ _ => by simp⟩
  · cases hv

/-- What a slice, or a text, hands to an append. -/
theorem elemsA_sound (h : HRel X E H w) {size : Nat} {c : AV} {x : Value} {ys : List (List AV)} (hc : V (Im X E H w) w c E x) (hy : elemsA H size c = some ys) :
    (∀ w' : World, (Builtin.lenOf x).run P w' = .ok ys.length w') ∧
    ∃ news : List Value, news.length = ys.length * size ∧ RowsIn (Im X E H w) w E news.toArray 0 size ys ∧
      (∀ w' : World, w'.heap = w.heap → (Builtin.firstCells size ys.length x).run P w' = .ok news.toArray w') ∧ ∀ u ∈ news, u.oneCell' = true := by
  have mem : ∀ (B o : Nat) (a : Addr) (n c0 : Nat) (ys : List (List AV)), n = ys.length → (ys ≠ [] → a = ⟨B, o, none⟩) →
      (∀ i row, ys[i]? = some row → row.length = size ∧ At (Im X E H w) w E B (o + i * size) row) →
      (∀ w' : World, (Builtin.lenOf (.slice (some a) n c0)).run P w' = .ok ys.length w') ∧
      ∃ news : List Value, news.length = ys.length * size ∧ RowsIn (Im X E H w) w E news.toArray 0 size ys ∧
        (∀ w' : World, w'.heap = w.heap → (Builtin.firstCells size ys.length (.slice (some a) n c0)).run P w' = .ok news.toArray w') ∧ ∀ u ∈ news, u.oneCell' = true := by
    intro B o a n c0 ys hn ha hr
    obtain ⟨news, h1, h2, h3⟩ := rows_list hr
    refine ⟨fun w' => by simp [Builtin.lenOf, hn], news, h1, h2, fun w' hw' => ?_, fun u hu => by
      obtain ⟨j, hj, rfl⟩ := List.getElem_of_mem hu
      exact (h3 j _ (List.getElem?_eq_getElem hj)).2⟩
    refine run_firstCells_some (P := P) w' size ys.length a n c0 news h1 fun j v hv => ?_
    have hne : ys ≠ [] := by
      rintro rfl
      simp at h1
      subst h1
      simp at hv
    rw [ha hne, addr_add]
    have := (h3 j v hv).1
    simpa [World.cell?, hw'] using this
  unfold elemsA at hy
  split at hy
  · cases hy
    simp only [V] at hc
    subst hc
    exact ⟨fun w' => by simp [Builtin.lenOf], [], by simp, fun i row hi => by simp at hi, fun w' _ => by simp [Builtin.firstCells], by simp⟩
  · rename_i s
    split at hy
    · rename_i hs
      cases hy
      simp only [V] at hc
      subst hc
      refine ⟨fun w' => by simp [Builtin.lenOf], s.data.toList.map fun b => .int .u8 b.toNat, by simp [hs], ?_, fun w' _ => ?_, by simp [Value.oneCell']⟩
      · intro i row hi
        subst hs
        rw [List.getElem?_map] at hi
        simp only [Option.map_eq_some_iff] at hi
        obtain ⟨b, hb, rfl⟩ := hi
        refine ⟨rfl, fun j c hj => ?_⟩
        cases j with
        | zero =>
          simp only [List.getElem?_cons_zero, Option.some.injEq] at hj
          subst hj
          exact ⟨.int .u8 b.toNat, by simp at hb ⊢; exact ⟨b, hb, rfl⟩, rfl, by simp [V]⟩
        | succ j => simp at hj
      · have hx : (s.extract 0 (List.map (fun b : UInt8 => [AV.sc (.int .u8 b.toNat)]) s.data.toList).length).data = s.data := by
          simp
        simp only [Builtin.firstCells, hx, Sem.run_pure]
        congr 1
        apply Array.ext'
        simp
    · cases hy
  · rename_i sz es cap
    split at hy
    · rename_i hs
      cases hy
      subst hs
      simp only [V] at hc
      obtain ⟨a, c0, rfl, h1, h2, h3, hR⟩ := hc
      refine mem a.block a.off a _ c0 _ rfl (fun hne => by cases a; simp at h3; simp [h3 hne]) fun i row hi => ?_
      obtain ⟨h4, h5⟩ := VRR_get hR hi
      refine ⟨h4, fun j c hj => ?_⟩
      obtain ⟨_, y, h6, h61, h7⟩ := VR_get h5 hj
      exact ⟨y, h6, h61, V_mono (fun _ _ h => ⟨h, rfl⟩) c (Le.none E) h7⟩
    · cases hy
  · rename_i b g start len cap
    split at hy
    · rename_i sz g' es fz hk
      split at hy
      · rename_i hq
        obtain ⟨hs, hg, hle⟩ := hq
        cases hy
        subst hs; subst hg
        obtain ⟨l, C, t0, hE, hl, hg, hs, hK, hh, hC, hR⟩ := h.own hk (V_sl_has hc)
        simp only [V] at hc
        obtain ⟨l', a, c0, hE', _, rfl, hpl⟩ := hc
        rw [hE] at hE'
        cases hE'
        obtain ⟨hlc, ha, _⟩ := hpl hl hg
        refine mem l.B (l.o + start * l.size) a len c0 _ (by simp; omega) (fun hne => ?_) fun i row hi => ?_
        · rcases ha with h0 | ha
          · have : len = 0 := by omega
            subst this
            simp at hne
          · exact ha
        · rw [List.getElem?_take] at hi
          split at hi
          · rw [List.getElem?_drop] at hi
            have := hR.at hh hi
            rw [hs]
            refine ⟨(hR _ _ hi).1, ?_⟩
            rw [show l.o + start * sz + i * sz = l.o + (start + i) * sz from by rw [Nat.add_mul]; omega]
            exact this
          · cases hi
      · cases hy
    · cases hy
  · cases hy

end
end Go.Ai

/-
  AN APPEND, a slice that is made.
-/
set_option linter.unusedVariables false
set_option linter.unusedSimpArgs false
namespace Go.Ai
section
variable {P : Program} {X : Nat → Nat → Prop} {E : Env} {H : List Blk} {w : World}

theorem run_append_fits {argTypes : Array TypeId} {ty sT xT e : TypeId} {i : TypeInfo} {xd : TypeDesc} (h0 : argTypes[0]? = some sT) (h1 : argTypes[1]? = some xT)
    (ht : P.underlying sT = some (.slice e)) (hu : P.underlying xT = some xd) (hx : okXD xd = true) (hi : P.info? e = some i)
    (B o sLen sCap n : Nat) (x : Value) (hlen : ∀ w' : World, (Builtin.lenOf x).run P w' = .ok n w') (news : List Value)
    (hnews : (Builtin.firstCells i.size n x).run P w = .ok news.toArray w) (hfit : sLen + n ≤ sCap) (w1 : World)
    (hst : (storeCells ⟨B, o + sLen * i.size, none⟩ news).run P w = .ok () w1) :
    (Builtin.append_ argTypes ty #[.slice (some ⟨B, o, none⟩) sLen sCap, x]).run P w = .ok (.slice (some ⟨B, o, none⟩) (sLen + n) sCap) w1 := by
  unfold Builtin.append_
  simp only [h0, h1]
  have hx' : (∃ e', xd = .slice e') ∨ xd = .string := by cases xd <;> simp [okXD] at hx ⊢
  rcases hx' with ⟨e', rfl⟩ | rfl
  all_goals simp [run_underlying ht, run_underlying hu, sizeOf, typeInfo, hi, hlen, hnews, hfit, addr_add, hst]

theorem run_append_grows {argTypes : Array TypeId} {ty sT xT e : TypeId} {i : TypeInfo} {z : Value} {xd : TypeDesc} (h0 : argTypes[0]? = some sT) (h1 : argTypes[1]? = some xT)
    (ht : P.underlying sT = some (.slice e)) (hu : P.underlying xT = some xd) (hx : okXD xd = true) (hi : P.info? e = some i) (hz : i.zero = some z)
    (base : Option Addr) (sLen sCap n : Nat) (x : Value) (hlen : ∀ w' : World, (Builtin.lenOf x).run P w' = .ok n w') (olds news : List Value)
    (holds : (Builtin.firstCells i.size sLen (.slice base sLen sCap)).run P w.drew = .ok olds.toArray w.drew)
    (hnews : (Builtin.firstCells i.size n x).run P w.drew = .ok news.toArray w.drew) (hg : sCap < sLen + n) (hb : (sLen + n) * i.bytes ≤ 140737488355328) (hb0 : i.bytes ≠ 0 ∨ ((sLen + n : Nat) : Int) ≤ 9223372036854775807) :
    (Builtin.append_ argTypes ty #[.slice base sLen sCap, x]).run P w =
      .ok (.slice (some ⟨w.heap.size, 0, none⟩) (sLen + n) (grownCap w (sLen + n) sCap e))
        (w.drew.alloc (.cells (olds ++ news ++ (Builtin.zeroCells z.cells (grownCap w (sLen + n) sCap e - (sLen + n))).toList).toArray e)) := by
  have hn : ¬ (sLen + n ≤ sCap) := by omega
  have hfit := growslice_fits (bytes := i.bytes) hg hb
  have h48' : ¬ (281474976710656 < Builtin.nextslicecap (sLen + n) sCap * i.bytes) := by omega
  have hcond : ¬ (9223372036854775807 < (sLen : Int) + (n : Int) ∧ i.bytes = 0) := by
    rintro ⟨h3, h4⟩
    rcases hb0 with h5 | h5
    · exact h5 h4
    · omega
  unfold Builtin.append_
  simp only [h0, h1]
  have hx' : (∃ e', xd = .slice e') ∨ xd = .string := by cases xd <;> simp [okXD] at hx ⊢
  rcases hx' with ⟨e', rfl⟩ | rfl
  all_goals simp [run_underlying ht, run_underlying hu, sizeOf, typeInfo, zeroValue, hi, hz, hlen, hn, h48', hcond, Question.forced, holds, hnews, newRow, grownCap]
  all_goals (congr 2; apply Array.ext'; simp [List.append_assoc])

theorem RowsIn_append {im : Nat → Nat → Prop} {size : Nat} {xs ys : List (List AV)} {olds news rest : List Value} (h : RowsIn im w E olds.toArray 0 size xs) (hl : olds.length = xs.length * size)
    (h' : RowsIn im w E news.toArray 0 size ys) : RowsIn im w E (olds ++ news ++ rest).toArray 0 size (xs ++ ys) := by
  have inB : ∀ {l : List Value} {q : Nat} {x : Value}, l[q]? = some x → q < l.length := fun {l q x} h => by
    rcases Nat.lt_or_ge q l.length with h1 | h1
    · exact h1
    · rw [List.getElem?_eq_none h1] at h; cases h
  intro i row hi
  by_cases hlt : i < xs.length
  · rw [List.getElem?_append_left hlt] at hi
    obtain ⟨h1, h2⟩ := h i row hi
    refine ⟨h1, fun j c hj => ?_⟩
    obtain ⟨x, hx, hx1, hv⟩ := h2 j c hj
    refine ⟨x, ?_, hx1, hv⟩
    simp only [Nat.zero_add, List.getElem?_toArray] at hx ⊢
    rw [List.append_assoc, List.getElem?_append_left (inB hx)]
    exact hx
  · rw [List.getElem?_append_right (by omega)] at hi
    obtain ⟨h1, h2⟩ := h' _ row hi
    refine ⟨h1, fun j c hj => ?_⟩
    obtain ⟨x, hx, hx1, hv⟩ := h2 j c hj
    refine ⟨x, ?_, hx1, hv⟩
    simp only [Nat.zero_add, List.getElem?_toArray] at hx ⊢
    have e : i * size + j = olds.length + ((i - xs.length) * size + j) := by
      rw [hl, ← Nat.add_assoc, ← Nat.add_mul, show xs.length + (i - xs.length) = i from by omega]
    rw [e, List.append_assoc, List.getElem?_append_right (by omega), Nat.add_sub_cancel_left, List.getElem?_append_left (inB hx)]
    exact hx

/-- A slice in a new array. -/
theorem fresh_sound (h : HRel X E H w) {at_ : Option Nat} {size : Nat} {xs ys : List (List AV)} {b : Nat} {H' : List Blk} (hn : newAt H at_ (.cells size 0 (xs ++ ys) false) = some (b, H'))
    {olds news : List Value} {z : Value} {cap : Nat} {e : TypeId} (hz : z.cells.size = size) (ho : RowsIn (Im X E H w) w E olds.toArray 0 size xs) (hol : olds.length = xs.length * size)
    (hr : RowsIn (Im X E H w) w E news.toArray 0 size ys) (hrl : news.length = ys.length * size) (hcap : xs.length + ys.length ≤ cap) :
    Good X E H w (.sl b 0 0 (xs.length + ys.length) none) H' (.slice (some ⟨w.heap.size, 0, none⟩) (xs.length + ys.length) cap)
      (w.drew.alloc (.cells (olds ++ news ++ (Builtin.zeroCells z.cells (cap - (xs.length + ys.length))).toList).toArray e)) := by
  have hsz : (olds ++ news ++ (Builtin.zeroCells z.cells (cap - (xs.length + ys.length))).toList).toArray.size = cap * size := by
    have e1 : (Builtin.zeroCells z.cells (cap - (xs.length + ys.length))).toList.length = (cap - (xs.length + ys.length)) * size := by
      rw [Array.length_toList, size_zeroCells, hz]
    simp only [List.size_toArray, List.length_append]
    rw [e1, hol, hrl, ← Nat.add_mul, ← Nat.add_mul]
    congr 1
    omega
  obtain ⟨h1, h2⟩ := h.lay hn (o := .cells (olds ++ news ++ (Builtin.zeroCells z.cells (cap - (xs.length + ys.length))).toList).toArray e)
    (w' := w.drew.alloc (.cells (olds ++ news ++ (Builtin.zeroCells z.cells (cap - (xs.length + ys.length))).toList).toArray e)) rfl
    (l := { live := true, g := 0, B := w.heap.size, o := 0, K := cap, size := size }) rfl rfl (fun im' him hle hob => Or.inr <|
      ⟨_, _, e, rfl, rfl, rfl, rfl, by simpa using hcap, hob, by
        rw [hsz]; show 0 + cap * size ≤ _; omega, RowsIn_mono him hle (RowsIn_append ho hol hr)⟩)
  refine ⟨_, h1, h2, ?_⟩
  simp only [V]
  exact ⟨_, _, _, upd_same _ _ _, Nat.le_refl _, rfl, fun _ _ => ⟨hcap, .inr (by simp), by simp⟩⟩

theorem RowsIn_sub {im : Nat → Nat → Prop} {C : Array Value} {o size : Nat} {es : List (List AV)} (h : RowsIn im w E C o size es) (n m : Nat) : RowsIn im w E C (o + n * size) size ((es.drop n).take m) := by
  intro i row hi
  rw [List.getElem?_take] at hi
  split at hi
  · rw [List.getElem?_drop] at hi
    obtain ⟨h1, h2⟩ := h _ row hi
    refine ⟨h1, fun j c hj => ?_⟩
    obtain ⟨x, hx, hx1, hv⟩ := h2 j c hj
    refine ⟨x, ?_, hx1, hv⟩
    rw [show o + n * size + i * size + j = o + (n + i) * size + j from by rw [Nat.add_mul]; omega]
    exact hx
  · cases hi

end
end Go.Ai

set_option linter.unusedVariables false
set_option linter.unusedSimpArgs false
namespace Go.Ai
section
variable {P : Program} {X : Nat → Nat → Prop} {E : Env} {H : List Blk} {w : World}

theorem run_append_zero {argTypes : Array TypeId} {ty sT xT e : TypeId} {i : TypeInfo} {xd : TypeDesc} (h0 : argTypes[0]? = some sT) (h1 : argTypes[1]? = some xT)
    (ht : P.underlying sT = some (.slice e)) (hu : P.underlying xT = some xd) (hx : okXD xd = true) (hi : P.info? e = some i)
    (base : Option Addr) (sLen sCap : Nat) (x : Value) (hlen : ∀ w' : World, (Builtin.lenOf x).run P w' = .ok 0 w')
    (hnews : (Builtin.firstCells i.size 0 x).run P w = .ok #[] w) (hfit : sLen ≤ sCap) :
    (Builtin.append_ argTypes ty #[.slice base sLen sCap, x]).run P w = .ok (.slice base sLen sCap) w := by
  unfold Builtin.append_
  simp only [h0, h1]
  have hx' : (∃ e', xd = .slice e') ∨ xd = .string := by cases xd <;> simp [okXD] at hx ⊢
  rcases hx' with ⟨e', rfl⟩ | rfl
  all_goals
    cases base <;> simp [run_underlying ht, run_underlying hu, sizeOf, typeInfo, hi, hlen, hnews, hfit, storeCells]

theorem V_slice_ok {im : Nat → Nat → Prop} {b g start len : Nat} {cap : Option Nat} {x : Value} (hs : V im w (.sl b g start len cap) E x) {l : LB} (hE : E b = some l) (hl : l.live = true) (hg : l.g = g) :
    ∃ a c, x = .slice (some a) len c ∧ len ≤ c ∧ (c = 0 ∨ a = ⟨l.B, l.o + start * l.size, none⟩) ∧ (cap = none → start + c = l.K) ∧ (∀ k, cap = some k → c = k) := by
  simp only [V] at hs
  obtain ⟨l', a, c, hE', _, rfl, hp⟩ := hs
  rw [hE] at hE'
  cases hE'
  obtain ⟨h1, h2, h3⟩ := hp hl hg
  exact ⟨a, c, rfl, h1, h2, fun e => by subst e; exact h3, fun k e => by subst e; exact h3⟩

/-- What stands in a slice of an own block. -/
theorem own_elems (h : HRel X E H w) {size start len : Nat} {es : List (List AV)} {l : LB} {C : Array Value} {t : TypeId} (hs : l.size = size) (hh : w.heap[l.B]? = some (.cells C t (0, 0)))
    (hR : RowsIn (Im X E H w) w E C l.o size es) (hle : start + len ≤ es.length) {a : Addr} {c : Nat} (ha : len = 0 ∨ a = ⟨l.B, l.o + start * l.size, none⟩) :
    ∃ olds : List Value, olds.length = ((es.drop start).take len).length * size ∧ RowsIn (Im X E H w) w E olds.toArray 0 size ((es.drop start).take len) ∧
      ∀ w' : World, w'.heap = w.heap → (Builtin.firstCells size len (.slice (some a) len c)).run P w' = .ok olds.toArray w' := by
  obtain ⟨olds, h1, h2, h3⟩ := rows_list (im := Im X E H w) (w := w) (E := E) (B := l.B) (size := size) (ys := (es.drop start).take len) (o := l.o + start * size) (fun i row hi => by
    have := (RowsIn_sub hR start len)
    exact ⟨(this i row hi).1, this.at hh hi⟩)
  have hlen : ((es.drop start).take len).length = len := by simp; omega
  refine ⟨olds, h1, h2, fun w' hw' => run_firstCells_some (P := P) w' size len a len c olds (by rw [h1, hlen]) fun j v hv => ?_⟩
  have hne : len ≠ 0 := by
    rintro rfl
    simp at h1
    subst h1
    simp at hv
  rw [ha.resolve_left hne, hs, addr_add]
  have := (h3 j v hv).1
  simpa [World.cell?, hw'] using this

theorem appendA_sound (h : HRel X E H w) {at_ : Option Nat} {argTypes : Array TypeId} {s x v : AV} {sv xv : Value} {H' : List Blk} (hs : V (Im X E H w) w s E sv) (hx : V (Im X E H w) w x E xv)
    (hv : appendA P H at_ argTypes s x = some (v, H')) (ty : TypeId) : ∃ r w', (Builtin.append_ argTypes ty #[sv, xv]).run P w = .ok r w' ∧ Good X E H w v H' r w' := by
  unfold appendA at hv
  split at hv
  case h_2 => cases hv
  rename_i sT xT h0 h1
  split at hv
  case h_2 => cases hv
  rename_i elem xd ht hu
  split at hv
  · cases hv
  rename_i hok
  have hok : okXD xd = true := by simpa using hok
  split at hv
  case h_2 => cases hv
  rename_i size bytes zs hsz hby hzs
  split at hv
  · cases hv
  rename_i hpos
  have hp1 : size ≠ 0 := fun e => hpos (.inl e)
  have hp2 : zs = size := Classical.byContradiction fun e => hpos (.inr (.inl e))
  have hp3 : bytes ≠ 0 := fun e => hpos (.inr (.inr e))
  clear hpos
  split at hv
  case h_2 => cases hv
  rename_i ys hys
  obtain ⟨i, hi, hisz, hibytes⟩ : ∃ i, P.info? elem = some i ∧ i.size = size ∧ i.bytes = bytes := by
    simp only [szT, Option.map_eq_some_iff] at hsz hby
    obtain ⟨i, h2, h3⟩ := hsz
    obtain ⟨i', h4, h5⟩ := hby
    rw [h2] at h4
    cases h4
    exact ⟨i, h2, h3, h5⟩
  obtain ⟨z, hz, hzc⟩ : ∃ z, i.zero = some z ∧ z.cells.size = size := by
    simp only [zeroT, hi, Option.bind_some, Option.map_eq_some_iff] at hzs
    obtain ⟨z, h2, h3⟩ := hzs
    exact ⟨z, h2, by rw [h3, hp2]⟩
  obtain ⟨hlen, news, hnl, hnr, hnf, hone⟩ := elemsA_sound (P := P) h hx hys
  subst hisz
  have zero : ys.length = 0 → ∀ (base : Option Addr) (sLen sCap : Nat), sLen ≤ sCap → (Builtin.append_ argTypes ty #[.slice base sLen sCap, xv]).run P w = .ok (.slice base sLen sCap) w := by
    intro hy base sLen sCap hfit
    have hn0 : news = [] := List.length_eq_zero_iff.1 (by rw [hnl, hy]; simp)
    refine run_append_zero h0 h1 ht hu hok hi base sLen sCap xv (fun w' => by rw [hlen w', hy]) ?_ hfit
    have := hnf w rfl
    rw [hy, hn0] at this
    exact this
  have fresh : ∀ (old : List (List AV)) (base : Option Addr) (sCap : Nat) (olds : List Value), sCap < old.length + ys.length → olds.length = old.length * i.size → RowsIn (Im X E H w) w E olds.toArray 0 i.size old →
      (∀ w' : World, w'.heap = w.heap → (Builtin.firstCells i.size old.length (.slice base old.length sCap)).run P w' = .ok olds.toArray w') →
      (if (old.length + ys.length) * bytes ≤ roomA then (newAt H at_ (.cells i.size 0 (old ++ ys) false)).map fun r => (AV.sl r.1 0 0 (old.length + ys.length) none, r.2) else none) = some (v, H') →
      ∃ r w', (Builtin.append_ argTypes ty #[.slice base old.length sCap, xv]).run P w = .ok r w' ∧ Good X E H w v H' r w' := by
    intro old base sCap olds hg hol hor hof hv
    split at hv
    · rename_i hroom
      simp only [Option.map_eq_some_iff] at hv
      obtain ⟨⟨b, H1⟩, hnew, he⟩ := hv
      cases he
      have hcap : old.length + ys.length ≤ grownCap w (old.length + ys.length) sCap elem := grownCap_ge _ _ _ _
      refine ⟨_, _, run_append_grows h0 h1 ht hu hok hi hz base old.length sCap ys.length xv hlen olds news (hof _ rfl) (hnf _ rfl) hg (by rw [hibytes]; exact hroom) ?_, fresh_sound h hnew hzc hor hol hnr hnl hcap⟩
      exact .inl (by rw [hibytes]; exact hp3)
    · cases hv
  simp only at hv
  split at hv
  · -- nil
    simp only [V] at hs
    subst hs
    split at hv
    · rename_i hn
      cases hv
      exact ⟨_, _, zero hn none 0 0 (Nat.le_refl _), Good.here h (by simp [V])⟩
    · rename_i hn
      exact fresh [] none 0 [] (by simp; omega) (by simp) (fun i row hi => by simp at hi) (fun w' _ => by simp [Builtin.firstCells]) (by simpa using hv)
  · -- written no more
    rename_i sz es cap
    simp only [V] at hs
    split at hv
    · rename_i hn
      cases hv
      obtain ⟨a, c, rfl, h2, h3, h4, h5⟩ := hs
      exact ⟨_, _, zero hn (some a) es.length c h2, Good.here h (by simp only [V]; exact ⟨a, c, rfl, h2, h3, h4, h5⟩)⟩
    · rename_i hn
      split at hv
      · rename_i hq
        obtain ⟨hq1, hq2⟩ := hq
        subst hq1
        obtain ⟨a, c, rfl, h2, h3, h4, h5⟩ := hs
        have hc := h3 _ hq2
        subst hc
        obtain ⟨olds, h6, h7, h8⟩ := rows_list (im := Im X E H w) (w := w) (E := E) (B := a.block) (size := i.size) (ys := es) (o := a.off) (fun k row hk => by
          obtain ⟨h9, h10⟩ := VRR_get h5 hk
          refine ⟨h9, fun j c hj => ?_⟩
          obtain ⟨_, y, h11, h13, h12⟩ := VR_get h10 hj
          exact ⟨y, h11, h13, V_mono (fun _ _ h => ⟨h, rfl⟩) c (Le.none E) h12⟩)
        refine fresh es (some a) es.length olds (by omega) h6 h7 (fun w' hw' => ?_) hv
        refine run_firstCells_some (P := P) w' i.size es.length a es.length es.length olds h6 fun j u hu => ?_
        have hne : es ≠ [] := by
          rintro rfl
          simp at h6
          subst h6
          simp at hu
        have ha : a = ⟨a.block, a.off, none⟩ := by
          have := h4 hne
          cases a
          simp at this
          simp [this]
        rw [ha, addr_add]
        have := (h8 j u hu).1
        simpa [World.cell?, hw'] using this
      · cases hv
  · -- an own one
    rename_i b g start len cap
    split at hv
    case h_2 => cases hv
    rename_i sz g' es fz hk
    split at hv
    case isFalse => cases hv
    rename_i hq
    obtain ⟨hq1, hq2, hq3⟩ := hq
    subst hq1; subst hq2
    obtain ⟨l, C, t0, hE, hl, hg, hsz', hK, hh, hC, hR⟩ := h.own hk (V_sl_has hs)
    obtain ⟨a, c, rfl, hlc, ha, hcn, hcs⟩ := V_slice_ok hs hE hl hg
    split at hv
    · rename_i hn
      cases hv
      exact ⟨_, _, zero hn (some a) len c hlc, Good.here h hs⟩
    · rename_i hn
      have hdl : ((es.drop start).take len).length = len := by simp; omega
      have ha' : len = 0 ∨ a = ⟨l.B, l.o + start * l.size, none⟩ := by
        rcases ha with h2 | h2
        · left; omega
        · exact .inr h2
      obtain ⟨olds, ho1, ho2, ho3⟩ := own_elems (P := P) h hsz' hh hR hq3 (c := c) ha'
      split at hv
      · -- to the end of what there is
        split at hv
        case isFalse => cases hv
        rename_i hend
        obtain ⟨hend, hroom⟩ := hend
        cases hv
        have hcK := hcn rfl
        have hdrop : (es.drop start).take len = es.drop start := by rw [List.take_of_length_le]; simp; omega
        rw [hdrop] at ho2 ho1
        have hdl' : (es.drop start).length = len := by rw [← hdrop]; exact hdl
        by_cases hfit : len + ys.length ≤ c
        · -- there is room
          have hbase : a = ⟨l.B, l.o + start * l.size, none⟩ := by
            rcases ha with h2 | h2
            · omega
            · exact h2
          subst hbase
          rw [hsz']
          have hfitC : l.o + start * i.size + len * i.size + news.length ≤ C.size := by
            have h2 : (start + len + ys.length) * i.size ≤ l.K * i.size := Nat.mul_le_mul_right _ (by omega)
            rw [Nat.add_mul, Nat.add_mul] at h2
            rw [hnl]
            omega
          have hst := run_storeCells_at P l.B (l.o + start * i.size + len * i.size) t0 news 0 C w hh (by simpa using hfitC) hone
          simp only [Nat.add_zero] at hst
          refine ⟨_, _, run_append_fits h0 h1 ht hu hok hi l.B (l.o + start * i.size) len c ys.length xv hlen news (hnf w rfl) hfit _ hst, ?_⟩
          generalize hC' : C.toList.take (l.o + start * i.size + len * i.size) ++ news ++ C.toList.drop (l.o + start * i.size + len * i.size + news.length) = C' at *
          have hget : ∀ q : Nat, C'[q]? = if l.o + start * i.size + len * i.size ≤ q ∧ q < l.o + start * i.size + len * i.size + news.length then news[q - (l.o + start * i.size + len * i.size)]? else C[q]? := by
            intro q
            rw [← hC', splice_get _ _ _ (by simpa using hfitC), Array.getElem?_toList (xs := C)]
          have hlenC : C'.length = C.size := by rw [← hC']; simp at hfitC ⊢; omega
          have hT : Turn X E H w b (.cells i.size (g + 1) (es.drop start ++ ys) fz) { live := true, g := g + 1, B := l.B, o := l.o + start * i.size, K := l.K - start, size := i.size } (w.setRow l.B C'.toArray) :=
            { live := rfl, still := Still.setRow hh, size := by simp, place := .inr ⟨l, hE, hl, rfl⟩,
              other := fun B hB hn => setRow_other w l.B B _ fun e => hn l hE hl e.symm
              ed := fun l0 h0 => by
                rw [hE] at h0; cases h0
                exact ⟨by show l.g ≤ g + 1; omega, fun e => by have e : g + 1 = l.g := e; omega⟩
              zone := fun l0 h0 _ size' g' es' hk' _ => by
                rw [hE] at h0; cases h0
                rw [hk] at hk'; cases hk'
                refine ⟨_, _, _, rfl, ?_⟩
                show l.o + es.length * i.size ≤ l.o + start * i.size + (es.drop start ++ ys).length * i.size
                rw [Nat.add_assoc, ← Nat.add_mul]
                refine Nat.add_le_add_left (Nat.mul_le_mul_right _ ?_) _
                simp; omega
              cell := fun l0 h0 _ size' g' es' hk' o ho => by
                rw [hE] at h0; cases h0
                rw [hk] at hk'; cases hk'
                have h5 := setRow_heap w l.B C C'.toArray t0 _ hh
                simp only [World.cell?, h5, hh]
                simp only [Option.isSome_none, Bool.false_eq_true, if_false, List.getElem?_toArray]
                rw [hget, if_neg]
                rw [← hend, Nat.add_mul] at ho
                omega }
          have hP : Put H b (.cells i.size (g + 1) (es.drop start ++ ys) fz) (H.set b (.cells i.size (g + 1) (es.drop start ++ ys) fz)) := Put.set hk
          have him := hT.im h hP
          obtain ⟨h5, h6⟩ := h.turn hP hT (h.xs b l hE hl) (by
            refine .inr ⟨_, C'.toArray, t0, rfl, rfl, rfl, rfl, ?_, setRow_heap w l.B C _ t0 _ hh, ?_, ?_⟩
            · show (es.drop start ++ ys).length ≤ l.K - start
              simp; omega
            · show l.o + start * i.size + (l.K - start) * i.size ≤ C'.toArray.size
              rw [List.size_toArray, hlenC, Nat.add_assoc, ← Nat.add_mul, show start + (l.K - start) = l.K from by omega]
              exact hC
            · intro k row hk2
              show row.length = i.size ∧ ∀ j c, row[j]? = some c → ∃ x, C'.toArray[l.o + start * i.size + k * i.size + j]? = some x ∧ _
              simp only [List.getElem?_toArray]
              by_cases hlt : k < len
              · rw [List.getElem?_append_left (by omega)] at hk2
                rw [List.getElem?_drop] at hk2
                obtain ⟨h7, h8⟩ := hR _ row hk2
                refine ⟨h7, fun j c hj => ?_⟩
                obtain ⟨x, hx, hx1, hxv⟩ := h8 j c hj
                refine ⟨x, ?_, hx1, V_mono him c hT.le hxv⟩
                have hjl : j < row.length := by
                  rcases Nat.lt_or_ge j row.length with h9 | h9
                  · exact h9
                  · rw [List.getElem?_eq_none h9] at hj; cases hj
                have h10 : (k + 1) * i.size ≤ len * i.size := Nat.mul_le_mul_right _ hlt
                rw [Nat.add_mul] at h10
                rw [hget, if_neg (by omega), ← hx]
                congr 1
                rw [Nat.add_mul]; omega
              · rw [List.getElem?_append_right (by omega), hdl'] at hk2
                obtain ⟨h7, h8⟩ := hnr _ row hk2
                refine ⟨h7, fun j c hj => ?_⟩
                obtain ⟨x, hx, hx1, hxv⟩ := h8 j c hj
                refine ⟨x, ?_, hx1, V_mono him c hT.le hxv⟩
                simp only [Nat.zero_add, List.getElem?_toArray] at hx
                have hlt2 : (k - len) * i.size + j < news.length := by
                  rcases Nat.lt_or_ge ((k - len) * i.size + j) news.length with h9 | h9
                  · exact h9
                  · rw [List.getElem?_eq_none h9] at hx; cases hx
                have h10 : len * i.size + (k - len) * i.size = k * i.size := by rw [← Nat.add_mul]; congr 1; omega
                rw [hget, if_pos (by omega), ← hx]
                congr 1
                omega)
          refine ⟨_, h5, h6, ?_⟩
          simp only [V]
          exact ⟨_, _, _, upd_same _ _ _, Nat.le_refl _, rfl, fun _ _ => ⟨hfit, .inr (by simp), by simp; omega⟩⟩
        · -- it grows
          have hg' : c < len + ys.length := by omega
          have hcap : len + ys.length ≤ grownCap w (len + ys.length) c elem := grownCap_ge _ _ _ _
          refine ⟨_, _, run_append_grows h0 h1 ht hu hok hi hz (some a) len c ys.length xv hlen olds news (ho3 _ rfl) (hnf _ rfl) hg' (by rw [hibytes]; exact hroom) (.inl (by rw [hibytes]; exact hp3)), ?_⟩
          generalize hC' : (olds ++ news ++ (Builtin.zeroCells z.cells (grownCap w (len + ys.length) c elem - (len + ys.length))).toList).toArray = C'
          have hsz2 : C'.size = grownCap w (len + ys.length) c elem * i.size := by
            have e1 : (Builtin.zeroCells z.cells (grownCap w (len + ys.length) c elem - (len + ys.length))).toList.length = (grownCap w (len + ys.length) c elem - (len + ys.length)) * i.size := by
              rw [Array.length_toList, size_zeroCells, hzc]
            rw [← hC']
            simp only [List.size_toArray, List.length_append]
            rw [e1, ho1, hnl, hdl', ← Nat.add_mul, ← Nat.add_mul]
            congr 1
            omega
          have hB' := h.lt hE hl
          have hrow : RowsIn (Im X E H w) w E C' 0 i.size (es.drop start ++ ys) := by rw [← hC']; exact RowsIn_append ho2 ho1 hnr
          have hT : Turn X E H w b (.cells i.size (g + 1) (es.drop start ++ ys) fz) { live := true, g := g + 1, B := w.heap.size, o := 0, K := grownCap w (len + ys.length) c elem, size := i.size } (w.drew.alloc (.cells C' elem)) :=
            { live := rfl, still := Still.push (o := .cells C' elem) ⟨rfl, rfl⟩ rfl rfl rfl, size := by simp, place := .inl (Nat.le_refl _),
              other := fun B hB _ => heap_alloc_old w.drew _ B hB
              ed := fun l0 h0 => by
                rw [hE] at h0; cases h0
                exact ⟨by show l.g ≤ g + 1; omega, fun e => by have e : g + 1 = l.g := e; omega⟩
              zone := fun l0 h0 _ size' g' es' hk' e => by
                rw [hE] at h0; cases h0
                have e : l.B = w.heap.size := e
                omega
              cell := fun l0 h0 _ size' g' es' hk' o ho => by
                rw [hE] at h0; cases h0
                exact cell_of_heap (heap_alloc_old w.drew _ l.B hB') o }
          have hP : Put H b (.cells i.size (g + 1) (es.drop start ++ ys) fz) (H.set b (.cells i.size (g + 1) (es.drop start ++ ys) fz)) := Put.set hk
          have him := hT.im h hP
          obtain ⟨h5, h6⟩ := h.turn hP hT (fun off hxx => by have := h.xlt _ _ hxx; exact absurd this (Nat.lt_irrefl _)) (by
            refine .inr ⟨_, C', elem, rfl, rfl, rfl, rfl, ?_, heap_alloc_new w.drew _, ?_, ?_⟩
            · show (es.drop start ++ ys).length ≤ grownCap w (len + ys.length) c elem
              rw [List.length_append, hdl']; exact hcap
            · show 0 + grownCap w (len + ys.length) c elem * i.size ≤ C'.size
              omega
            · exact RowsIn_mono him hT.le hrow)
          refine ⟨_, h5, h6, ?_⟩
          simp only [V]
          exact ⟨_, _, _, upd_same _ _ _, Nat.le_refl _, rfl, fun _ _ => ⟨hcap, .inr (by simp), by simp⟩⟩
      · -- a known capacity
        rename_i k
        have hck := hcs k rfl
        subst hck
        split at hv
        · rename_i hfit
          split at hv
          case isFalse => cases hv
          rename_i hfz
          obtain ⟨rfl, hce⟩ := hfz
          cases hv
          have hbase : a = ⟨l.B, l.o + start * l.size, none⟩ := by
            rcases ha with h2 | h2
            · omega
            · exact h2
          subst hbase
          rw [hsz']
          have hfitC : l.o + start * i.size + len * i.size + news.length ≤ C.size := by
            have h2 : (start + len + ys.length) * i.size ≤ l.K * i.size := Nat.mul_le_mul_right _ (by omega)
            rw [Nat.add_mul, Nat.add_mul] at h2
            rw [hnl]
            omega
          have hst := run_storeCells_at P l.B (l.o + start * i.size + len * i.size) t0 news 0 C w hh (by simpa using hfitC) hone
          simp only [Nat.add_zero] at hst
          refine ⟨_, _, run_append_fits h0 h1 ht hu hok hi l.B (l.o + start * i.size) len c ys.length xv hlen news (hnf w rfl) hfit _ hst, ?_⟩
          generalize hC' : C.toList.take (l.o + start * i.size + len * i.size) ++ news ++ C.toList.drop (l.o + start * i.size + len * i.size + news.length) = C' at *
          have hget : ∀ q : Nat, C'[q]? = if l.o + start * i.size + len * i.size ≤ q ∧ q < l.o + start * i.size + len * i.size + news.length then news[q - (l.o + start * i.size + len * i.size)]? else C[q]? := by
            intro q
            rw [← hC', splice_get _ _ _ (by simpa using hfitC), Array.getElem?_toList (xs := C)]
          have hlenC : C'.length = C.size := by rw [← hC']; simp at hfitC ⊢; omega
          have hT : Turn X E H w b (.cells i.size g (es.take (start + len) ++ ys ++ es.drop (start + len + ys.length)) false) l (w.setRow l.B C'.toArray) :=
            { live := hl, still := Still.setRow hh, size := by simp, place := .inr ⟨l, hE, hl, rfl⟩,
              other := fun B hB hn => setRow_other w l.B B _ fun e => hn l hE hl e.symm
              ed := fun l0 h0 => by rw [hE] at h0; cases h0; exact ⟨Nat.le_refl _, fun _ => ⟨hl, rfl, rfl, rfl, rfl⟩⟩
              zone := fun l0 h0 _ size' g' es' hk' => by rw [hk] at hk'; cases hk'
              cell := fun l0 h0 _ size' g' es' hk' => by rw [hk] at hk'; cases hk' }
          have hP : Put H b (.cells i.size g (es.take (start + len) ++ ys ++ es.drop (start + len + ys.length)) false) (H.set b (.cells i.size g (es.take (start + len) ++ ys ++ es.drop (start + len + ys.length)) false)) := Put.set hk
          have him := hT.im h hP
          have hres := h.turn hP hT (h.xs b l hE hl) (by
            refine .inr ⟨l, C'.toArray, t0, rfl, hl, hg, hsz', ?_, setRow_heap w l.B C _ t0 _ hh, by rw [List.size_toArray, hlenC]; exact hC, ?_⟩
            · simp; omega
            · intro k row hk2
              rw [splice_get _ _ _ (by omega)] at hk2
              simp only [List.getElem?_toArray]
              by_cases hin : start + len ≤ k ∧ k < start + len + ys.length
              · rw [if_pos hin] at hk2
                obtain ⟨h7, h8⟩ := hnr _ row hk2
                refine ⟨h7, fun j c hj => ?_⟩
                obtain ⟨x, hx, hx1, hxv⟩ := h8 j c hj
                refine ⟨x, ?_, hx1, V_mono him c hT.le hxv⟩
                simp only [Nat.zero_add, List.getElem?_toArray] at hx
                have hlt2 : (k - (start + len)) * i.size + j < news.length := by
                  rcases Nat.lt_or_ge ((k - (start + len)) * i.size + j) news.length with h9 | h9
                  · exact h9
                  · rw [List.getElem?_eq_none h9] at hx; cases hx
                have h10 : start * i.size + len * i.size + (k - (start + len)) * i.size = k * i.size := by rw [← Nat.add_mul, ← Nat.add_mul]; congr 1; omega
                rw [hget, if_pos (by omega), ← hx]
                congr 1
                omega
              · rw [if_neg hin] at hk2
                obtain ⟨h7, h8⟩ := hR _ row hk2
                refine ⟨h7, fun j c hj => ?_⟩
                obtain ⟨x, hx, hx1, hxv⟩ := h8 j c hj
                refine ⟨x, ?_, hx1, V_mono him c hT.le hxv⟩
                have hjl : j < row.length := by
                  rcases Nat.lt_or_ge j row.length with h9 | h9
                  · exact h9
                  · rw [List.getElem?_eq_none h9] at hj; cases hj
                rw [hget, if_neg, hx]
                have e1 : start * i.size + len * i.size = (start + len) * i.size := by rw [Nat.add_mul]
                have e2 : (start + len) * i.size + news.length = (start + len + ys.length) * i.size := by rw [hnl, ← Nat.add_mul]
                rcases Nat.lt_or_ge k (start + len) with h10 | h10
                · have : (k + 1) * i.size ≤ (start + len) * i.size := Nat.mul_le_mul_right _ h10
                  rw [Nat.add_mul] at this
                  omega
                · have : (start + len + ys.length) * i.size ≤ k * i.size := Nat.mul_le_mul_right _ (by omega)
                  omega)
          rw [upd_self hE] at hres
          refine ⟨E, hres.1, hres.2, ?_⟩
          simp only [V]
          exact ⟨l, _, _, hE, by omega, rfl, fun _ _ => ⟨hfit, .inr (by rw [hsz']), by simp⟩⟩
        · rename_i hnf2
          generalize (es.drop start).take len = old at *
          subst hdl
          exact fresh old (some a) c olds (by omega) ho1 ho2 ho3 hv
  · cases hv

end
end Go.Ai

/-
  WHAT IS WRITTEN NO MORE: a block is marked; a value that leads into own blocks becomes one of memory that is written no more.
-/
set_option linter.unusedVariables false
set_option linter.unusedSimpArgs false
namespace Go.Ai
section
variable {P : Program} {X : Nat → Nat → Prop} {E : Env} {H : List Blk} {w : World}

theorem markOne_get (H : List Blk) (b x : Nat) : (markOne H b)[x]? = match H[x]? with
    | some (.cells size g es fz) => some (.cells size g es (fz || x == b))
    | r => r := by
  unfold markOne
  split
  · rename_i size g es fz hb
    by_cases e : x = b
    · subst e
      have hlt : x < H.length := by
        rcases Nat.lt_or_ge x H.length with h1 | h1
        · exact h1
        · rw [List.getElem?_eq_none h1] at hb; cases hb
      rw [hb, List.getElem?_set_self hlt]
      simp
    · rw [List.getElem?_set_ne (Ne.symm e)]
      split <;> simp_all
  · rename_i hb
    split
    · rename_i size g es fz hx
      rw [hx]
      have : (x == b) = false := by
        rw [beq_eq_false_iff_ne]
        rintro rfl
        exact hb _ _ _ _ hx
      simp [this]
    · rfl

/-- A block that is not there yet may change. -/
theorem HRel.idleMark (h : HRel X E H w) {b size g : Nat} {es es' : List (List AV)} {fz fz' : Bool} (hk : H[b]? = some (.cells size g es fz)) (hE : E b = none) :
    HRel X E (H.set b (.cells size g es' fz')) w ∧ Step X E H w E (H.set b (.cells size g es' fz')) w := by
  have hP : Put H b (.cells size g es' fz') (H.set b (.cells size g es' fz')) := Put.set hk
  have hw : ∀ B o, Wr E (H.set b (.cells size g es' fz')) B o → Wr E H B o := by
    rintro B o ⟨b', l, hb, hl, hB, hz⟩
    refine ⟨b', l, hb, hl, hB, fun s g0 es0 hk0 => hz s g0 es0 ?_⟩
    rw [hP.2 b' (by rintro rfl; rw [hE] at hb; cases hb)]
    exact hk0
  have him : ∀ B o, Im X E H w B o → Im X E (H.set b (.cells size g es' fz')) w B o ∧ w.cell? ⟨B, o, none⟩ = w.cell? ⟨B, o, none⟩ :=
    fun B o ⟨h1, h2, h3⟩ => ⟨⟨h1, h2, fun hx => h3 (hw B o hx)⟩, rfl⟩
  refine ⟨⟨?_, ?_, h.sep, h.xs, h.xlt⟩, ⟨Le.refl _, Nat.le_refl _, him, fun _ _ _ => rfl, fun b l hb hl => .inl ⟨b, l, hb, hl, rfl⟩, by simp, ?_, Still.refl⟩⟩
  · intro x hx
    by_cases e : x = b
    · rw [e, hE]
    · exact h.dom x (by rw [← hP.2 x e]; exact hx)
  · intro x k hx
    by_cases e : x = b
    · subst e
      rw [hP.1] at hx
      cases hx
      exact .inl hE
    · exact BRel_mono him (Le.refl _) (fun _ _ _ => rfl) (h.blk x k (by rw [← hP.2 x e]; exact hx))
  · intro x h1 h2
    refine ⟨?_, h2⟩
    by_cases e : x = b
    · subst e; exact ⟨_, _, _, _, hP.1⟩
    · obtain ⟨s, g0, es0, fz0, hk0⟩ := h1
      exact ⟨s, g0, es0, fz0, by rw [hP.2 x e]; exact hk0⟩

theorem HRel.markOne (h : HRel X E H w) (b : Nat) : HRel X E (markOne H b) w ∧ Step X E H w E (markOne H b) w := by
  unfold Ai.markOne
  split
  · rename_i size g es fz hk
    cases hEb : E b with
    | none => exact h.idleMark hk hEb
    | some lb =>
    obtain ⟨l, C, t, hE, hl, hg, hs, hK, hh, hC, hR⟩ := h.own hk ⟨lb, hEb⟩
    have hT : Turn X E H w b (.cells size g es true) l w :=
      { live := hl, still := Still.refl, size := Nat.le_refl _, place := .inr ⟨l, hE, hl, rfl⟩, other := fun _ _ _ => rfl,
        ed := fun l0 h0 => (by rw [hE] at h0; cases h0; exact ⟨Nat.le_refl _, fun _ => ⟨hl, rfl, rfl, rfl, rfl⟩⟩),
        zone := fun l0 h0 _ size' g' es' hk' _ => (by rw [hE] at h0; cases h0; rw [hk] at hk'; cases hk'; exact ⟨_, _, _, rfl, Nat.le_refl _⟩),
        cell := fun _ _ _ _ _ _ _ _ _ => rfl }
    have hP : Put H b (.cells size g es true) (H.set b (.cells size g es true)) := Put.set hk
    have hres := h.turn hP hT (h.xs b l hE hl) (.inr ⟨l, C, t, rfl, hl, hg, hs, hK, hh, hC, RowsIn_mono (hT.im h hP) hT.le hR⟩) (fun _ => by rw [hE]; simp)
    rw [upd_self hE] at hres
    exact hres
  · exact ⟨h, Step.refl⟩

theorem HRel.mark : ∀ (ids : List Nat) {H : List Blk}, HRel X E H w → HRel X E (mark H ids) w ∧ Step X E H w E (mark H ids) w
  | [], H, h => ⟨h, Step.refl⟩
  | b :: ids, H, h => by
    obtain ⟨h1, h2⟩ := h.markOne b
    obtain ⟨h3, h4⟩ := HRel.mark ids h1
    exact ⟨h3, h2.trans h4⟩

theorem mark_get : ∀ (ids : List Nat) (H : List Blk) (x : Nat), (mark H ids)[x]? = match H[x]? with
    | some (.cells size g es fz) => some (.cells size g es (fz || ids.contains x))
    | r => r
  | [], H, x => by
    simp only [mark, List.foldl_nil, List.contains_nil, Bool.or_false]
    split <;> simp_all
  | b :: ids, H, x => by
    have ih := mark_get ids (markOne H b) x
    simp only [mark, List.foldl_cons] at ih ⊢
    rw [ih, markOne_get]
    cases hx : H[x]? with
    | none => rfl
    | some k =>
      cases k <;> simp
      rename_i size g es fz
      by_cases e : x = b
      · simp [e]
      · have e2 : (x == b) = false := by simpa using e
        simp [e, e2]

/-- Where such a value may lead to. -/
def Zone (im' : Nat → Nat → Prop) (E : Env) (H : List Blk) (ids : List Nat) : Prop :=
  ∀ b ∈ ids, ∀ l size g es fz, E b = some l → l.live = true → H[b]? = some (.cells size g es fz) → ∀ off, off < l.o + es.length * size → im' l.B off

theorem Zone.mono {im' : Nat → Nat → Prop} {ids ids' : List Nat} (h : Zone im' E H ids) (hs : ∀ b ∈ ids', b ∈ ids) : Zone im' E H ids' := fun b hb => h b (hs b hb)

mutual
theorem frz_sound {im' : Nat → Nat → Prop} (h : HRel X E H w) (hsub : ∀ B o, Im X E H w B o → im' B o) :
    ∀ {c c' : AV} {x : Value}, frz H c = some c' → Zone im' E H (slIds c) → V (Im X E H w) w c E x → V im' w c' noE x
  | .sc v, c', x, hf, _, hv => by
    simp only [frz, Option.some.injEq] at hf
    subst hf
    simpa [V] using hv
  | .rp cs o, c', x, hf, _, hv => by
    simp only [frz, Option.some.injEq] at hf
    subst hf
    exact V_mono (w' := w) (fun B o h => ⟨hsub B o h, rfl⟩) _ (Le.refl _) (V_data (c := .rp cs o) (E' := noE) rfl hv)
  | .ro sz es cap, c', x, hf, _, hv => by
    simp only [frz, Option.some.injEq] at hf
    subst hf
    exact V_mono (w' := w) (fun B o h => ⟨hsub B o h, rfl⟩) _ (Le.refl _) (V_data (c := .ro sz es cap) (E' := noE) rfl hv)
  | .agg cs, c', x, hf, hz, hv => by
    simp only [frz, Option.map_eq_some_iff] at hf
    obtain ⟨l, hl, rfl⟩ := hf
    simp only [V] at hv ⊢
    obtain ⟨vs, hx, hvs⟩ := hv
    exact ⟨vs, hx, frzL_sound h hsub hl (by simpa [slIds] using hz) hvs⟩
  | .tup cs, c', x, hf, hz, hv => by
    simp only [frz, Option.map_eq_some_iff] at hf
    obtain ⟨l, hl, rfl⟩ := hf
    simp only [V] at hv ⊢
    obtain ⟨vs, hx, hvs⟩ := hv
    exact ⟨vs, hx, frzL_sound h hsub hl (by simpa [slIds] using hz) hvs⟩
  | .fn f cs, c', x, hf, hz, hv => by
    simp only [frz, Option.map_eq_some_iff] at hf
    obtain ⟨l, hl, rfl⟩ := hf
    simp only [V] at hv ⊢
    obtain ⟨vs, hx, hvs⟩ := hv
    exact ⟨vs, hx, frzL_sound h hsub hl (by simpa [slIds] using hz) hvs⟩
  | .ifc t v, c', x, hf, hz, hv => by
    simp only [frz, Option.map_eq_some_iff] at hf
    obtain ⟨l, hl, rfl⟩ := hf
    simp only [V] at hv ⊢
    obtain ⟨y, hx, hvs⟩ := hv
    exact ⟨y, hx, frz_sound h hsub hl (by simpa [slIds] using hz) hvs⟩
  | .sl b g start len cap, c', x, hf, hz, hv => by
    simp only [frz] at hf
    split at hf
    · rename_i size g' es fz hk
      split at hf
      · rename_i hq
        obtain ⟨rfl, hle, hd⟩ := hq
        cases hf
        obtain ⟨l, C, t0, hE, hl, hg, hs, hK, hh, hC, hR⟩ := h.own hk (V_sl_has hv)
        obtain ⟨a, c, rfl, hlc, ha, _, hcs⟩ := V_slice_ok hv hE hl hg
        have hrl : ((es.drop start).take len).length = len := by simp; omega
        simp only [V]
        refine ⟨a, c, by rw [hrl], by rw [hrl]; exact hlc, hcs, fun hne => ?_, ?_⟩
        · rcases ha with h0 | ha
          · exact absurd (List.length_eq_zero_iff.1 (by rw [hrl]; omega)) hne
          · rw [ha]
        · by_cases hlen : len = 0
          · have : (es.drop start).take len = [] := by rw [hlen]; simp
            rw [this]
            simp [VRR]
          · have ha2 : a = ⟨l.B, l.o + start * l.size, none⟩ := by
              rcases ha with h0 | ha
              · omega
              · exact ha
            rw [ha2, hs]
            refine VRR_of_get fun i row hi => ?_
            have hsub2 := RowsIn_sub hR start len
            obtain ⟨h1, h2⟩ := hsub2 i row hi
            refine ⟨h1, VR_of_get fun j d hj => ?_⟩
            obtain ⟨y, hy, hy1, hyv⟩ := h2 j d hj
            have hil : i < len := by
              rcases Nat.lt_or_ge i ((es.drop start).take len).length with h3 | h3
              · omega
              · rw [List.getElem?_eq_none h3] at hi; cases hi
            have hjl : j < size := by
              rcases Nat.lt_or_ge j row.length with h3 | h3
              · omega
              · rw [List.getElem?_eq_none h3] at hj; cases hj
            refine ⟨hz b (by simp [slIds]) l size g es fz hE hl hk _ ?_, y, by simp [World.cell?, hh, hy], hy1, ?_⟩
            · have h4 : start * size + i * size + size ≤ es.length * size := by
                rw [← Nat.add_mul, ← Nat.succ_mul]
                exact Nat.mul_le_mul_right _ (by omega)
              show l.o + start * size + i * size + j < l.o + es.length * size
              omega
            · have hdr : isDataL row = true := List.all_eq_true.1 hd row (List.mem_of_getElem? hi)
              have hdd : isData d = true := isDataL_get hdr hj
              exact V_mono (w' := w) (fun B o h => ⟨hsub B o h, rfl⟩) _ (Le.refl _) (V_data (E' := noE) hdd hyv)
      · cases hf
    · cases hf
  | .undef, _, _, hf, _, _ => by simp [frz] at hf
  | .ptr .., _, _, hf, _, _ => by simp [frz] at hf
  | .mp _, _, _, hf, _, _ => by simp [frz] at hf
theorem frzL_sound {im' : Nat → Nat → Prop} (h : HRel X E H w) (hsub : ∀ B o, Im X E H w B o → im' B o) :
    ∀ {cs cs' : List AV} {xs : List Value}, frzL H cs = some cs' → Zone im' E H (slIdsL cs) → VL (Im X E H w) w cs E xs → VL im' w cs' noE xs
  | [], cs', xs, hf, _, hv => by
    simp only [frzL, Option.some.injEq] at hf
    subst hf
    simpa [VL] using hv
  | c :: cs, cs', xs, hf, hz, hv => by
    simp only [frzL] at hf
    simp only [VL] at hv
    obtain ⟨v, r, rfl, h1, h2⟩ := hv
    split at hf
    · rename_i v' vs' e1 e2
      cases hf
      simp only [VL]
      exact ⟨v, r, rfl, frz_sound h hsub e1 (hz.mono (by simp [slIdsL]; intro b hb; exact .inl hb)) h1, frzL_sound h hsub e2 (hz.mono (by simp [slIdsL]; intro b hb; exact .inr hb)) h2⟩
    · cases hf
end

end
end Go.Ai
