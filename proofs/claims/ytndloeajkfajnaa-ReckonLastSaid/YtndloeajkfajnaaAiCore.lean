/-
  AN EVALUATOR OF THE LOADED PROGRAM'S CODE ON ABSTRACT VALUES: slices that nobody writes any more bear their elements; what a call makes and may yet write stands in an abstract heap. Definitions alone; that it tells what the machine does stands in the texts behind this one.
-/
import GoSem.Step
import Derived.Defers
set_option linter.unusedVariables false
namespace Go.Ai

/-- The part of an operation that asks neither memory nor the tape. -/
def pureRun {α : Type} (P : Program) : Sem α → Option α
  | .pure a => some a
  | .program k => pureRun P (k P)
  | .mark _ k => pureRun P k
  | _ => none

theorem pureRun_run {α : Type} (P : Program) : ∀ (s : Sem α) (a : α), pureRun P s = some a → ∀ w, s.run P w = .ok a w
  | .pure _, _, h, w => by simp only [pureRun, Option.some.injEq] at h; subst h; rfl
  | .program k, a, h, w => by
    simp only [pureRun] at h
    simp only [Sem.run]
    exact pureRun_run P (k P) a h w
  | .mark m k, a, h, w => by
    simp only [pureRun] at h
    simp only [Sem.run]
    exact pureRun_run P k a h w
  | .load .., _, h, _ => by simp [pureRun] at h
  | .store .., _, h, _ => by simp [pureRun] at h
  | .new .., _, h, _ => by simp [pureRun] at h
  | .shape .., _, h, _ => by simp [pureRun] at h
  | .freeze .., _, h, _ => by simp [pureRun] at h
  | .frozen .., _, h, _ => by simp [pureRun] at h
  | .getObj .., _, h, _ => by simp [pureRun] at h
  | .setObj .., _, h, _ => by simp [pureRun] at h
  | .choose .., _, h, _ => by simp [pureRun] at h
  | .sys .., _, h, _ => by simp [pureRun] at h
  | .halt .., _, h, _ => by simp [pureRun] at h

/-- Abstract values. 'sc': just that value. 'ptr', 'sl', 'mp': into the abstract heap (block, its edition). 'rp', 'ro': into memory that nobody writes any more. -/
inductive AV where
  | undef
  | sc (v : Value)
  | agg (cs : List AV)
  | tup (vs : List AV)
  | ptr (b g i off : Nat)
  | rp (cs : List AV) (off : Nat)
  | sl (b g start len : Nat) (cap : Option Nat)
  | ro (size : Nat) (es : List (List AV)) (cap : Option Nat)
  | mp (b : Nat)
  | fn (f : FuncId) (caps : List AV)
  | ifc (t : TypeId) (v : AV)
  deriving Inhabited

/-- Abstract blocks: 'cells': rows of one size, the edition, and whether what stands there is written no more. -/
inductive Blk where
  | res
  | dead
  | cells (size g : Nat) (es : List (List AV)) (fz : Bool)
  | map (es : List (Value × AV × Nat)) (clock : Nat)
  | siter (s : ByteArray) (pos : Nat)
  | miter (m : Option Nat) (since : Nat) (seen : List Nat) (stepped : Nat)
  deriving Inhabited

abbrev Tm := List (Nat × AV)

structure St where
  n : Nat
  tmps : Tm
  heap : List Blk
  defers : List (FuncId × List AV)
  deriving Inhabited

inductive Ex where
  | normal
  | exit (id : Nat)
  | ret
  | pan (v : AV)
  deriving Inhabited

inductive CRes where
  | ret (v : AV)
  | pan (v : AV)
  deriving Inhabited

/-- What a place's evaluator is given besides the program. -/
structure Ctx where
  P : Program
  byRef : FuncId → Bool := fun _ => false
  keep : FuncId → Bool := fun _ => false
  snap : FuncId → Bool := fun _ => false
  ext : FuncId → Bool := fun _ => false
  own : TypeId → Bool := fun _ => false
  settle : FuncId → Bool := fun _ => false
  prims : FuncId → Option (List AV → Option AV) := fun _ => none
  recs : FuncId → Option (List AV → Option AV → List Blk → Option (Bool × List Blk)) := fun _ => none

/-! ### plain helpers on values -/

def abs1 : Value → AV
  | .agg cs => .agg (cs.toList.map .sc)
  | v => .sc v

def absV : Value → AV
  | .tuple vs => if vs.size = 0 then .sc (.tuple vs) else .tup (vs.toList.map abs1)
  | v => abs1 v

mutual
def conc : AV → Option Value
  | .sc v => some v
  | .agg cs => (concL cs).map fun l => .agg l.toArray
  | .tup cs => (concL cs).map fun l => .tuple l.toArray
  | .ifc t v => (conc v).map (.iface t)
  | .fn f cs => (concL cs).map fun l => .func (.func f) #[] l.toArray
  | _ => none
def concL : List AV → Option (List Value)
  | [] => some []
  | c :: cs => match conc c, concL cs with
    | some v, some vs => some (v :: vs)
    | _, _ => none
end

/-- One cell's value. -/
def single : AV → Bool
  | .sc (.agg _) | .sc (.tuple _) => false
  | .sc _ | .ptr .. | .rp .. | .sl .. | .ro .. | .mp _ | .fn .. | .ifc .. => true
  | _ => false

def cellsA : AV → Option (List AV)
  | .agg cs => if cs.all single then some cs else none
  | .sc (.agg cs) => let l := cs.toList.map AV.sc; if l.all single then some l else none
  | v => if single v then some [v] else none

mutual
/-- Holds nothing of the abstract heap. -/
def isData : AV → Bool
  | .sc _ | .rp .. | .ro .. => true
  | .agg cs | .tup cs | .fn _ cs => isDataL cs
  | .ifc _ v => isData v
  | _ => false
def isDataL : List AV → Bool
  | [] => true
  | c :: cs => isData c && isDataL cs
end

mutual
/-- Holds no slice, pointer, map or function but constants. -/
def isScalar : AV → Bool
  | .sc _ => true
  | .agg cs | .tup cs => isScalarL cs
  | .ifc _ v => isScalar v
  | _ => false
def isScalarL : List AV → Bool
  | [] => true
  | c :: cs => isScalar c && isScalarL cs
end

mutual
/-- An abstract value as one of memory that is written no more: the rows behind its slices must be such themselves. -/
def frz (H : List Blk) : AV → Option AV
  | .sc v => some (.sc v)
  | .rp cs o => some (.rp cs o)
  | .ro s es c => some (.ro s es c)
  | .agg cs => (frzL H cs).map .agg
  | .tup cs => (frzL H cs).map .tup
  | .fn f cs => (frzL H cs).map (.fn f)
  | .ifc t v => (frz H v).map (.ifc t)
  | .sl b g start len cap => match H[b]? with
    | some (.cells size g' es _) =>
      let r := (es.drop start).take len
      if g = g' ∧ start + len ≤ es.length ∧ r.all isDataL = true then some (.ro size r cap) else none
    | _ => none
  | _ => none
def frzL (H : List Blk) : List AV → Option (List AV)
  | [] => some []
  | c :: cs => match frz H c, frzL H cs with
    | some v, some vs => some (v :: vs)
    | _, _ => none
end

mutual
/-- The blocks whose slices it holds. -/
def slIds : AV → List Nat
  | .sl b _ _ _ _ => [b]
  | .agg cs | .tup cs | .fn _ cs => slIdsL cs
  | .ifc _ v => slIds v
  | _ => []
def slIdsL : List AV → List Nat
  | [] => []
  | c :: cs => slIds c ++ slIdsL cs
end

/-- What stands there is written no more. -/
def markOne (H : List Blk) (b : Nat) : List Blk :=
  match H[b]? with
  | some (.cells size g es _) => H.set b (.cells size g es true)
  | _ => H
def mark (H : List Blk) (ids : List Nat) : List Blk := ids.foldl markOne H

/-! ### types -/

def szT (P : Program) (t : TypeId) : Option Nat := (P.info? t).map (·.size)
def aggT (P : Program) (t : TypeId) : Option Bool :=
  match P.underlying t with
  | some (.struct _) | some (.array ..) => some true
  | some _ => some false
  | none => none
def zeroT (P : Program) (t : TypeId) : Option Value := (P.info? t).bind (·.zero)
def fieldT (P : Program) (s : TypeId) (f : Nat) : Option Field :=
  match P.underlying s with
  | some (.struct fs) => fs[f]?
  | _ => none

/-- A value of a type out of a row of cells. -/
def takeT (P : Program) (t : TypeId) (row : List AV) (off : Nat) : Option AV :=
  match aggT P t, szT P t with
  | some true, some n => if off + n ≤ row.length then some (.agg ((row.drop off).take n)) else none
  | some false, some 1 => row[off]?
  | _, _ => none

/-! ### memory -/

def loadA (P : Program) (H : List Blk) (t : TypeId) : AV → Option AV
  | .ptr b g i off => match H[b]? with
    | some (.cells _ g' es _) => if g = g' then (es[i]?).bind fun row => takeT P t row off else none
    | _ => none
  | .rp row off => takeT P t row off
  | _ => none

def putRow (row : List AV) (off : Nat) (cs : List AV) : List AV := row.take off ++ cs ++ row.drop (off + cs.length)

def storeA (P : Program) (H : List Blk) (t : TypeId) (a v : AV) : Option (List Blk) :=
  match a, cellsA v, szT P t with
  | .ptr b g i off, some cs, some n => match H[b]? with
    | some (.cells size g' es false) => match es[i]? with
      | some row => if g = g' ∧ cs.length = n ∧ off + n ≤ row.length then
          some (H.set b (.cells size g (es.set i (putRow row off cs)) false)) else none
      | none => none
    | _ => none
  | _, _, _ => none

/-- A new block: behind all, or at a place that was kept for it. -/
def newAt (H : List Blk) (at_ : Option Nat) (k : Blk) : Option (Nat × List Blk) :=
  match at_ with
  | none => some (H.length, H ++ [k])
  | some b => match H[b]? with
    | some .res => some (b, H.set b k)
    | _ => none

def allocA (P : Program) (H : List Blk) (at_ : Option Nat) (t : TypeId) : Option (AV × List Blk) :=
  match (zeroT P t).bind (fun z => cellsA (absV z)), szT P t with
  | some cs, some n => if cs.length = n then (newAt H at_ (.cells n 0 [cs] false)).map fun r => (.ptr r.1 0 0 0, r.2) else none
  | _, _ => none

def boxA (H : List Blk) (at_ : Option Nat) (v : AV) : Option (AV × List Blk) :=
  match cellsA v with
  | some cs => (newAt H at_ (.cells cs.length 0 [cs] false)).map fun r => (.ptr r.1 0 0 0, r.2)
  | none => none

/-- The elements of a slice, or of a text as bytes. -/
def elemsA (H : List Blk) (size : Nat) : AV → Option (List (List AV))
  | .sc (.slice none 0 0) => some []
  | .sc (.string s) => if size = 1 then some (s.data.toList.map fun b => [.sc (.int .u8 b.toNat)]) else none
  | .ro sz es _ => if sz = size then some es else none
  | .sl b g start len _ => match H[b]? with
    | some (.cells sz g' es _) => if sz = size ∧ g = g' ∧ start + len ≤ es.length then some ((es.drop start).take len) else none
    | _ => none
  | _ => none

def frzRows (H : List Blk) : List (List AV) → Option (List (List AV))
  | [] => some []
  | r :: rs => match frzL H r, frzRows H rs with
    | some v, some vs => some (v :: vs)
    | _, _ => none

def roomA : Nat := 140737488355328

def okXD : TypeDesc → Bool
  | .slice _ | .string => true
  | _ => false

def appendA (P : Program) (H : List Blk) (at_ : Option Nat) (argTypes : Array TypeId) (s x : AV) : Option (AV × List Blk) :=
  match argTypes[0]?, argTypes[1]? with
  | some sT, some xT =>
    match P.underlying sT, P.underlying xT with
    | some (.slice elem), some xd =>
      if okXD xd = false then none else
      match szT P elem, (P.info? elem).map (·.bytes), (zeroT P elem).map (·.cells.size) with
      | some size, some bytes, some zs =>
        if size = 0 ∨ zs ≠ size ∨ bytes = 0 then none else
        match elemsA H size x with
        | some ys =>
          let n := ys.length
          let fresh (old : List (List AV)) : Option (AV × List Blk) :=
            if (old.length + n) * bytes ≤ roomA then
              (newAt H at_ (.cells size 0 (old ++ ys) false)).map fun r => (.sl r.1 0 0 (old.length + n) none, r.2)
            else none
          match s with
          | .sc (.slice none 0 0) => if n = 0 then some (s, H) else fresh []
          | .ro sz es cap => if n = 0 then some (s, H) else if sz = size ∧ cap = some es.length then fresh es else none
          | .sl b g start len cap => match H[b]? with
            | some (.cells sz g' es fz) =>
              if sz = size ∧ g = g' ∧ start + len ≤ es.length then
                if n = 0 then some (s, H) else
                match cap with
                | none => if start + len = es.length ∧ (len + n) * bytes ≤ roomA then
                    some (.sl b (g + 1) 0 (len + n) none, H.set b (.cells size (g + 1) (es.drop start ++ ys) fz)) else none
                | some c => if len + n ≤ c then
                    if fz = false ∧ start + c ≤ es.length then
                      some (.sl b g start (len + n) (some c), H.set b (.cells size g (es.take (start + len) ++ ys ++ es.drop (start + len + n)) false)) else none
                  else fresh ((es.drop start).take len)
              else none
            | _ => none
          | _ => none
        | none => none
      | _, _, _ => none
    | _, _ => none
  | _, _ => none

def makeSliceA (P : Program) (H : List Blk) (at_ : Option Nat) (t : TypeId) (l c : AV) : Option (AV × List Blk) :=
  match P.underlying t, l, c with
  | some (.slice elem), .sc (.int .i64 l), .sc (.int .i64 c) =>
    match szT P elem, (P.info? elem).map (·.bytes), (zeroT P elem).bind (fun z => cellsA (absV z)) with
    | some size, some bytes, some zs =>
      if zs.length = size ∧ size ≠ 0 ∧ bytes ≠ 0 ∧ 0 ≤ l ∧ l ≤ c ∧ (bytes : Int) * c ≤ roomA then
        (newAt H at_ (.cells size 0 (List.replicate c.toNat zs) false)).map fun r => (.sl r.1 0 0 l.toNat (some c.toNat), r.2)
      else none
    | _, _, _ => none
  | _, _, _ => none

/-- A row of parts, by their places. -/
def fillA (place : Nat → Option (Nat × Nat)) (cells : List AV) : List (Nat × AV) → Option (List AV)
  | [] => some cells
  | (i, v) :: rest => match place i, cellsA v with
    | some (off, size), some cs => if cs.length = size ∧ off + size ≤ cells.length then fillA place (putRow cells off cs) rest else none
    | _, _ => none

def placesA (P : Program) : List Field → Option (List (Nat × Nat))
  | [] => some []
  | f :: fs => match szT P f.type, placesA P fs with
    | some n, some ps => some ((f.offset, n) :: ps)
    | _, _ => none

def buildA (P : Program) (t : TypeId) (parts : List (Nat × AV)) : Option AV :=
  match (zeroT P t).bind (fun z => cellsA (absV z)), P.underlying t with
  | some zero, some (.struct fields) =>
    (placesA P fields.toList).bind fun ps => (fillA (fun i => ps[i]?) zero parts).map .agg
  | some zero, some (.array _ elem) =>
    (szT P elem).bind fun size => (fillA (fun i => some (i * size, size)) zero parts).map .agg
  | _, _ => none

def setRows (size : Nat) (rows : List (List AV)) : List (Nat × AV) → Option (List (List AV))
  | [] => some rows
  | (i, v) :: rest => match cellsA v with
    | some cs => if cs.length = size ∧ i < rows.length then setRows size (rows.set i cs) rest else none
    | none => none

def buildSliceA (own : Bool) (P : Program) (H : List Blk) (at_ : Option Nat) (t : TypeId) (len : Nat) (parts : List (Nat × AV)) : Option (AV × List Blk) :=
  match P.underlying t with
  | some (.slice elem) => match szT P elem, (zeroT P elem).bind (fun z => cellsA (absV z)) with
    | some size, some zero =>
      if zero.length = size ∧ size ≠ 0 ∧ len * size ≤ 16777216 then
        match setRows size (List.replicate len zero) parts with
        | some rows => match (match own with | true => none | false => frzRows H rows) with
          | some rows' => some (.ro size rows' (some len), mark H (rows.flatMap slIdsL))
          | none => (newAt H at_ (.cells size 0 rows false)).map fun r => (.sl r.1 0 0 len (some len), r.2)
        | none => none
      else none
    | _, _ => none
  | _ => none

def fieldAddrA (P : Program) (s : TypeId) (a : AV) (f : Nat) : Option AV :=
  match fieldT P s f with
  | some fd => match szT P fd.type with
    | some (n + 1) => match a with
      | .ptr b g i off => some (.ptr b g i (off + fd.offset))
      | .rp row off => some (.rp row (off + fd.offset))
      | _ => none
    | _ => none
  | none => none

def fieldA (P : Program) (s : TypeId) (v : AV) (f : Nat) : Option AV :=
  match fieldT P s f, cellsA v with
  | some fd, some cs => match v with
    | .agg _ | .sc (.agg _) => takeT P fd.type cs fd.offset
    | _ => none
  | _, _ => none

def indexAddrA (P : Program) (H : List Blk) (t : TypeId) (x ix : AV) : Option AV :=
  match ix with
  | .sc (.int _ i) =>
    if i < 0 then none else
    match P.underlying t with
    | some (.slice elem) => match szT P elem with
      | some size => match x with
        | .ro sz es _ => if sz = size then (es[i.toNat]?).map fun row => .rp row 0 else none
        | .sl b g start len _ => match H[b]? with
          | some (.cells sz g' es _) => if sz = size ∧ g = g' ∧ i.toNat < len ∧ start + len ≤ es.length then some (.ptr b g (start + i.toNat) 0) else none
          | _ => none
        | _ => none
      | none => none
    | some (.array n elem) => match szT P elem with
      | some size => if i.toNat < n then (match x with
        | .ptr b g j off => some (.ptr b g j (off + i.toNat * size))
        | .rp row off => some (.rp row (off + i.toNat * size))
        | _ => none) else none
      | none => none
    | _ => none
  | _ => none

/-- The bound's number. -/
def numA (d : Nat) : Option AV → Option Nat
  | none => some d
  | some (.sc (.int _ i)) => if 0 ≤ i then some i.toNat else none
  | _ => none

/-- The bounds of a slice expression within a length; 'cap': what is known of the capacity. -/
def boundsA (len : Nat) (cap : Option Nat) (lo hi mx : Option AV) : Option (Nat × Nat × Option Nat) :=
  match numA 0 lo, numA len hi with
  | some l, some h => match mx with
    | none => if l ≤ h ∧ h ≤ len then some (l, h, cap.map (· - l)) else none
    | some m => match numA 0 (some m) with
      | some m => if l ≤ h ∧ h ≤ m ∧ m ≤ len ∧ hi.isSome then some (l, h, some (m - l)) else none
      | none => none
  | _, _ => none

/-- Rows of so many cells each. -/
def chunks (size : Nat) : Nat → List AV → List (List AV)
  | 0, _ => []
  | n + 1, cs => cs.take size :: chunks size n (cs.drop size)

def sliceA (P : Program) (H : List Blk) (t : TypeId) (x : AV) (lo hi mx : Option AV) : Option (AV × List Blk) :=
  match P.underlying t, x with
  | some .string, .sc (.string s) =>
    match lo.mapM conc, hi.mapM conc, mx with
    | some l, some h, none => (pureRun P (Instr.sliceAt t (.string s) l h none)).map fun v => (absV v, H)
    | _, _, _ => none
  | some (.slice elem), .sc (.slice none 0 0) => match szT P elem, boundsA 0 (some 0) lo hi mx with
    | some _, some _ => some (x, H)
    | _, _ => none
  | some (.slice elem), .ro size es cap => match szT P elem, boundsA es.length cap lo hi mx with
    | some sz, some (l, h, c) => if sz = size then some (.ro size ((es.drop l).take (h - l)) c, H) else none
    | _, _ => none
  | some (.slice elem), .sl b g start len cap => match szT P elem, boundsA len cap lo hi mx, H[b]? with
    | some sz, some (l, h, c), some (.cells size g' es _) =>
      if sz = size ∧ g = g' ∧ start + len ≤ es.length then some (.sl b g (start + l) (h - l) c, H) else none
    | _, _, _ => none
  | some (.array n elem), .ptr b g i off => match szT P elem, boundsA n (some n) lo hi mx, H[b]? with
    | some size, some (l, h, _), some (.cells _ g' es _) => match es[i]? with
      | some row =>
        let part := ((row.drop (off + l * size)).take ((h - l) * size))
        if g = g' ∧ size ≠ 0 ∧ off + n * size ≤ row.length ∧ isDataL part = true then some (.ro size (chunks size (h - l) part) none, markOne H b) else none
      | none => none
    | _, _, _ => none
  | _, _ => none

def bytesA (rows : List (List AV)) : Option (List UInt8) :=
  rows.mapM fun
    | [.sc (.int .u8 n)] => some (UInt8.ofNat n.toNat)
    | _ => none

def convertA (P : Program) (H : List Blk) (src dst : TypeId) (x : AV) : Option AV :=
  match x with
  | .ro .. | .sl .. => match P.underlying src, P.underlying dst with
    | some (.slice e), some .string => match P.underlying e with
      | some (.int .u8) => ((elemsA H 1 x).bind bytesA).map fun l => .sc (.string ⟨l.toArray⟩)
      | _ => none
    | _, _ => none
  | .sc (.string s) => match P.underlying src, P.underlying dst with
    | some .string, some (.slice _) => none
    | _, _ => (pureRun P (convert src dst (.string s))).map absV
  | _ => ((conc x).bind fun v => pureRun P (convert src dst v)).map absV

def lenA (P : Program) (H : List Blk) (t : TypeId) (x : AV) : Option AV :=
  match P.underlying t, x with
  | some (.slice _), .ro _ es _ => some (.sc (goInt es.length))
  | some (.slice _), .sl _ _ _ len _ => some (.sc (goInt len))
  | some (.map _ _), .mp b => match H[b]? with
    | some (.map es _) => some (.sc (goInt es.length))
    | _ => none
  | _, _ => ((conc x).bind fun v => pureRun P (Builtin.len_ #[t] 0 #[v])).map absV

def eqBytes : List UInt8 → List UInt8 → Bool
  | [], [] => true
  | a :: x, b :: y => match Nat.beq a.toNat b.toNat with
    | true => eqBytes x y
    | false => false
  | _, _ => false

def eqKind : IntKind → IntKind → Bool
  | .i64, .i64 | .u8, .u8 | .u64, .u64 | .i32, .i32 | .u32, .u32 | .i16, .i16 | .u16, .u16 | .i8, .i8 => true
  | _, _ => false

/-- Two whole numbers of one kind: what needs no look at the program. -/
def intA (op : BinOp) (k : IntKind) (a b : Int) : Option AV :=
  match op with
  | .add => some (.sc (.int k (k.wrap (a + b))))
  | .sub => some (.sc (.int k (k.wrap (a - b))))
  | .mul => some (.sc (.int k (k.wrap (a * b))))
  | .eql => some (.sc (.bool (a == b)))
  | .neq => some (.sc (.bool (a != b)))
  | .lss => some (.sc (.bool (decide (a < b))))
  | .leq => some (.sc (.bool (decide (a ≤ b))))
  | .gtr => some (.sc (.bool (decide (a > b))))
  | .geq => some (.sc (.bool (decide (a ≥ b))))
  | _ => none

def strA (op : BinOp) (a b : ByteArray) : Option AV :=
  match op with
  | .eql => some (.sc (.bool (eqBytes a.data.toList b.data.toList)))
  | .neq => some (.sc (.bool (!eqBytes a.data.toList b.data.toList)))
  | _ => none

def fastA (op : BinOp) (x y : AV) : Option AV :=
  match x, y with
  | .sc (.int k a), .sc (.int k' b) => match eqKind k k' with
    | true => intA op k a b
    | false => none
  | .sc (.string a), .sc (.string b) => strA op a b
  | _, _ => none

def nilT (d : TypeDesc) (v : AV) : Bool :=
  match d, v with
  | .slice _, .sc (.slice none 0 0) | .pointer _, .sc (.pointer none) | .map .., .sc (.map none) | .func .., .sc .nilFunc | .interface _, .sc .nilIface => true
  | _, _ => false

def fitsT (d : TypeDesc) (v : AV) : Bool :=
  match d, v with
  | .slice _, .ro .. | .slice _, .sl .. | .pointer _, .rp .. | .pointer _, .ptr .. | .map .., .mp _ | .func .., .fn .. | .interface _, .ifc .. => true
  | _, _ => false

def nilA (op : BinOp) : Option AV :=
  match op with
  | .eql => some (.sc (.bool false))
  | .neq => some (.sc (.bool true))
  | _ => none

def slowA (P : Program) (op : BinOp) (t : TypeId) (ox oy : Operand) (x y : AV) : Option AV :=
  match conc x, conc y with
  | some a, some b => (pureRun P (do eqGuard op t ox oy a b; binOp op t a b)).map absV
  | _, _ => match P.underlying t with
    | some d => if (fitsT d x && nilT d y) || (nilT d x && fitsT d y) then nilA op else none
    | none => none

def binA (P : Program) (op : BinOp) (t : TypeId) (ox oy : Operand) (x y : AV) : Option AV :=
  match fastA op x y with
  | some v => some v
  | none => slowA P op t ox oy x y

end Go.Ai
