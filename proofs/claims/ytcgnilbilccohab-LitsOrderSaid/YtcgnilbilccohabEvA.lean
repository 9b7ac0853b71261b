/- The evaluator Ev, part A: abstract values, the store, what an operation tells. Definitions alone; nothing here speaks of a certain program. -/
import Derived.Tactics
import Derived.Orders
import Derived.Shelf.Abstract
namespace Go.Ev
open Go
set_option linter.unusedSimpArgs false
set_option linter.unusedVariables false

/-- An abstract value. Own memory goes by locations; what came in, or was finished, is a frozen row, told by its elements' cells. -/
inductive AV where
  | bool (b : Bool)
  | int (k : IntKind) (n : Int)
  | str (s : ByteArray)
  | ptr (l o : Nat)
  | nilptr
  | fptr (els : List (List AV)) (i o : Nat)
  | sl (l off len cap sz : Nat)
  | nilsl
  | fsl (x : Bool) (els : List (List AV))
  | map (l : Nat)
  | nilmap
  | func (f : Nat) (first caps : List AV)
  | nilfunc
  | iface (t : Nat) (v : AV)
  | niliface
  | agg (cells : List AV)
  | tuple (vs : List AV)
  | yield (l : Nat)
  | panicked (v : AV)
  | junk

/-- A row of the store. -/
inductive Row where
  | cells (cs : List AV) (t : Nat)
  | map (es : List (AV × AV × Nat)) (clk : Nat)
  | iter (m : Option Nat) (since : Nat) (seen : List Nat) (last : Nat)
  | loop (f : Nat) (ps : List Nat) (t : List AV) (st j : Nat)
  | dead

abbrev Store := List Row
abbrev Tmps := List AV

/-- A value that is one cell. -/
def AV.one : AV → Bool
  | .agg _ | .tuple _ | .junk | .panicked _ => false
  | _ => true

def AV.isPanic : AV → Bool
  | .panicked _ => true
  | _ => false

/-- A value's cells. -/
def AV.cellsOf : AV → Option (List AV)
  | .agg cs => some cs
  | .junk => none
  | v => some [v]

/-- What is known of the types. -/
structure Tab where
  sz : Nat → Option Nat
  agg : Nat → Option Bool
  off : Nat → Nat → Option Nat
  sle : Nat → Option Nat
  arr : Nat → Option (Nat × Nat)
  zero : Nat → Option (List AV)
  parts : Nat → Option (List (Nat × Nat))
  bytes : Nat → Option Nat
  str : Nat → Bool
  kind : Nat → Option Nat   -- 0 bool, 1 pointer, 2 slice, 3 map, 4 func
  eqf : Nat → Option (List Nat)   -- a struct's fields, where each is one cell: 0 bool, 5 int, 6 string
  mapT : Nat → Option (Nat × Nat)
  intK : Nat → Option IntKind
  flat : Nat → Option (List Nat)   -- the kinds of a key's cells
  ent : Nat → Bool
  fag : Nat → Nat → Option Bool   -- is a struct's field a struct or an array?

def undefA : AV := .tuple []

/-- Constants. -/
def ofConst : Value → AV
  | .bool b => .bool b
  | .int k n => .int k n
  | .string s => .str s
  | .pointer none => .nilptr
  | .slice none 0 0 => .nilsl
  | .map none => .nilmap
  | .nilFunc => .nilfunc
  | .nilIface => .niliface
  | .tuple #[] => .tuple []
  | _ => .junk

def constA : Value → AV
  | .agg cs => .agg (cs.toList.map ofConst)
  | v => ofConst v

def opd (t : Tmps) : Operand → AV
  | .tmp i => t.getD i undefA
  | .const v => constA v
  | .global _ => .junk
  | .func f => .func f [] []

/-! ### Reading -/
def rowCells (S : Store) (l : Nat) : Option (List AV) :=
  match S[l]? with
  | some (.cells cs _) => some cs
  | _ => none

/-- n cells from an address on. -/
def readN (S : Store) (n : Nat) : AV → Option (List AV)
  | .ptr l o => match rowCells S l with
    | some cs => if o + n ≤ cs.length then some ((cs.drop o).take n) else none
    | none => none
  | .fptr els i o => match els[i]? with
    | some e => if o + n ≤ e.length then some ((e.drop o).take n) else none
    | none => none
  | _ => none

def read1 (S : Store) : AV → Option AV
  | .ptr l o => match rowCells S l with
    | some cs => cs[o]?
    | none => none
  | .fptr els i o => match els[i]? with
    | some e => e[o]?
    | none => none
  | _ => none

def loadA (T : Tab) (S : Store) (ty : Nat) (a : AV) : Option AV :=
  match T.agg ty with
  | some true => match T.sz ty with
    | some n => (readN S n a).map .agg
    | none => none
  | some false => read1 S a
  | none => none

/-! ### Writing -/
def setN {α : Type} (cs : List α) (o : Nat) (vs : List α) : List α := cs.take o ++ vs ++ cs.drop (o + vs.length)

def writeN (S : Store) (l o : Nat) (vs : List AV) : Option Store :=
  match S[l]? with
  | some (.cells cs t) => if o + vs.length ≤ cs.length ∧ vs.all AV.one = true then some (S.set l (.cells (setN cs o vs) t)) else none
  | _ => none

def storeA (T : Tab) (S : Store) (ty : Nat) (a v : AV) : Option Store :=
  match a, v.cellsOf with
  | .ptr l o, some cs => if T.sz ty = some cs.length then writeN S l o cs else none
  | _, _ => none

/-! ### Addresses -/
def addO (n : Nat) : AV → Option AV
  | .ptr l o => some (.ptr l (o + n))
  | .fptr els i o => some (.fptr els i (o + n))
  | _ => none

def indexA (T : Tab) (ty : Nat) (x i : AV) : Option AV :=
  match x, i with
  | .fsl _ els, .int _ n => match T.sle ty, els[n.toNat]? with
    | some e, some el => if 0 ≤ n ∧ T.sz e = some el.length then some (.fptr els n.toNat 0) else none
    | _, _ => none
  | .sl l off len _ sz, .int _ n => match T.sle ty with
    | some e => if T.sz e = some sz ∧ 0 ≤ n ∧ n < len then some (.ptr l (off + n.toNat * sz)) else none
    | none => none
  | .ptr l o, .int _ n => match T.arr ty with
    | some (len, e) => match T.sz e with
      | some sz => if 0 ≤ n ∧ n < len then some (.ptr l (o + n.toNat * sz)) else none
      | none => none
    | none => none
  | .fptr els i o, .int _ n => match T.arr ty with
    | some (len, e) => match T.sz e with
      | some sz => if 0 ≤ n ∧ n < len then some (.fptr els i (o + n.toNat * sz)) else none
      | none => none
    | none => none
  | _, _ => none

/-! ### Operators -/
def bytesLt : List UInt8 → List UInt8 → Bool
  | _, [] => false
  | [], _ :: _ => true
  | a :: x, b :: y => a < b || (a == b && bytesLt x y)

def strEq (a b : ByteArray) : Bool := a.data.toList == b.data.toList
def strLt (a b : ByteArray) : Bool := bytesLt a.data.toList b.data.toList

def binInt (op : BinOp) (k : IntKind) (a b : Int) : Option AV :=
  match op with
  | .add => some (.int k (k.wrap (a + b)))
  | .sub => some (.int k (k.wrap (a - b)))
  | .mul => some (.int k (k.wrap (a * b)))
  | .quo => if b = 0 then none else some (.int k (k.wrap (a.tdiv b)))
  | .rem => if b = 0 then none else some (.int k (a.tmod b))
  | .eql => some (.bool (a == b))
  | .neq => some (.bool (a != b))
  | .lss => some (.bool (a < b))
  | .leq => some (.bool (a ≤ b))
  | .gtr => some (.bool (a > b))
  | .geq => some (.bool (a ≥ b))
  | _ => none

def binStr (op : BinOp) (a b : ByteArray) : Option AV :=
  match op with
  | .eql => some (.bool (strEq a b))
  | .neq => some (.bool (!strEq a b))
  | .lss => some (.bool (strLt a b))
  | .leq => some (.bool (strLt a b || strEq a b))
  | .gtr => some (.bool !(strLt a b || strEq a b))
  | .geq => some (.bool (!strLt a b))
  | _ => none

/-- Is a value of such a kind nil? (0: it can't be told.) -/
def isNilA : AV → Option (Nat × Bool)
  | .nilptr => some (1, true)
  | .ptr .. | .fptr .. => some (1, false)
  | .nilsl => some (2, true)
  | .sl .. => some (2, false)
  | .nilmap => some (3, true)
  | .map _ => some (3, false)
  | .nilfunc => some (4, true)
  | .func .. => some (4, false)
  | _ => none

def eqNil (T : Tab) (ty : Nat) (x y : AV) : Option Bool :=
  match isNilA x, isNilA y with
  | some (k, true), some (k', b) => if k = k' ∧ T.kind ty = some k then some b else none
  | some (k, b), some (k', true) => if k = k' ∧ T.kind ty = some k then some b else none
  | _, _ => none

def eqCell : Nat → AV → AV → Option Bool
  | 0, .bool a, .bool b => some (a == b)
  | 5, .int k a, .int k' b => if k = k' then some (a == b) else none
  | 6, .str a, .str b => some (strEq a b)
  | _, _, _ => none

def eqCells : List Nat → List AV → List AV → Option Bool
  | [], [], [] => some true
  | k :: ks, x :: xs, y :: ys => match eqCell k x y, eqCells ks xs ys with
    | some r, some s => some (r && s)
    | _, _ => none
  | _, _, _ => none

def fit1 : Nat → AV → Bool
  | 0, .bool _ => true
  | 5, .int _ _ => true
  | 6, .str _ => true
  | _, _ => false

def fits : List Nat → List AV → Bool
  | [], [] => true
  | k :: ks, x :: xs => fit1 k x && fits ks xs
  | _, _ => false

def eqAgg (T : Tab) (ty : Nat) (a b : List AV) : Option Bool :=
  match T.eqf ty with
  | some ks => eqCells ks a b
  | none => none

def shiftA (op : BinOp) (k : IntKind) (a b : Int) : Option AV :=
  if b < 0 then none else match op with
    | .shl => some (.int k (k.wrap (a * 2 ^ (min b.toNat k.bits))))
    | .shr => some (.int k (a.fdiv (2 ^ (min b.toNat k.bits))))
    | _ => none

def binA (T : Tab) (ty : Nat) (op : BinOp) (x y : AV) : Option AV :=
  match x, y with
  | .int k a, .int k' b => if k = k' ∧ op ≠ .shl ∧ op ≠ .shr then binInt op k a b else shiftA op k a b
  | .str a, .str b => binStr op a b
  | .bool a, .bool b => if T.kind ty = some 0 then (match op with
      | .eql => some (.bool (a == b))
      | .neq => some (.bool (!(a == b)))
      | _ => none) else none
  | .agg a, .agg b => match op with
    | .eql => (eqAgg T ty a b).map .bool
    | .neq => (eqAgg T ty a b).map fun b => .bool (!b)
    | _ => none
  | x, y => match op with
    | .eql => (eqNil T ty x y).map .bool
    | .neq => (eqNil T ty x y).map fun b => .bool (!b)
    | _ => none

def unA (op : UnOp) (x : AV) : Option AV :=
  match op, x with
  | .not, .bool b => some (.bool !b)
  | .neg, .int k n => some (.int k (k.wrap (0 - n)))
  | _, _ => none

def lenA (T : Tab) (ty : Nat) : AV → Option AV
  | .fsl _ els => if T.kind ty = some 2 then some (.int .i64 els.length) else none
  | .nilsl => if T.kind ty = some 2 then some (.int .i64 0) else none
  | .sl _ _ len _ _ => if T.kind ty = some 2 then some (.int .i64 len) else none
  | .str s => if T.str ty then some (.int .i64 s.size) else none
  | _ => none

def max2A : AV → AV → Option AV
  | .int k x, .int k' y => if k = k' then some (.int k (if y > x then y else x)) else none
  | _, _ => none
def min2A : AV → AV → Option AV
  | .int k x, .int k' y => if k = k' then some (.int k (if y < x then y else x)) else none
  | _, _ => none


def convertA (T : Tab) (src dst : Nat) (x : AV) : Option AV :=
  match x, T.agg src, T.intK dst with
  | .int _ n, some _, some k => some (.int k (k.wrap n))
  | _, _, _ => none

def indexVA (T : Tab) (ty : Nat) (x i : AV) : Option AV :=
  match x, i with
  | .agg cs, .int _ n => match T.arr ty with
    | some (len, e) => match T.sz e, T.agg e with
      | some sz, some ag => if 0 ≤ n ∧ n < len then (if ag then (if n.toNat * sz + sz ≤ cs.length then some (.agg ((cs.drop (n.toNat * sz)).take sz)) else none) else cs[n.toNat * sz]?) else none
      | _, _ => none
    | none => none
  | .str s, .int _ n => if T.str ty = true ∧ 0 ≤ n then (s[n.toNat]?).map fun b => .int .u8 b.toNat else none
  | _, _ => none

def fieldVA (T : Tab) (ty : Nat) (x : AV) (f : Nat) : Option AV :=
  match x with
  | .agg cs => match (T.parts ty).bind (·[f]?), T.fag ty f with
    | some (o, n), some ag => if ag then (if o + n ≤ cs.length then some (.agg ((cs.drop o).take n)) else none) else cs[o]?
    | _, _ => none
  | _ => none

/-! ### Building -/
def fillA (place : Nat → Option (Nat × Nat)) (cells : List AV) : List (Nat × AV) → Option (List AV)
  | [] => some cells
  | (i, v) :: rest => match place i, v.cellsOf with
    | some (off, size), some cs => if cs.length = size ∧ off + cs.length ≤ cells.length then fillA place (setN cells off cs) rest else none
    | _, _ => none

def partsA (t : Tmps) (ps : Array (Nat × Operand)) : List (Nat × AV) := ps.toList.map fun p => (p.1, opd t p.2)

def buildA (T : Tab) (ty : Nat) (ps : List (Nat × AV)) : Option AV :=
  match T.zero ty with
  | some z => match T.parts ty with
    | some pl => (fillA (fun i => pl[i]?) z ps).map .agg
    | none => match T.arr ty with
      | some (_, e) => match T.sz e with
        | some sz => (fillA (fun i => some (i * sz, sz)) z ps).map .agg
        | none => none
      | none => none
  | none => none

/-- A row's cells, element by element. -/
def chunk (sz : Nat) (cs : List AV) : Nat → List (List AV)
  | 0 => []
  | n + 1 => cs.take sz :: chunk sz (cs.drop sz) n

def repA (z : List AV) : Nat → List AV
  | 0 => []
  | n + 1 => z ++ repA z n

def buildSliceA (T : Tab) (ty n : Nat) (ps : List (Nat × AV)) : Option AV :=
  match T.sle ty with
  | some e => match T.sz e, T.zero e with
    | some sz, some z => if z.length = sz ∧ 0 < sz ∧ n * sz ≤ 16777216 then (fillA (fun i => some (i * sz, sz)) (repA z n) ps).map fun cs => .fsl true (chunk sz cs n) else none
    | _, _ => none
  | none => none

/-! ### Slices -/
/-- A slice's elements. -/
def elsOf (S : Store) (sz : Nat) : AV → Option (List (List AV))
  | .fsl _ els => if els.all (fun e => e.length == sz) then some els else none
  | .nilsl => some []
  | .sl l off len _ sz' => if sz' = sz then match rowCells S l with
      | some cs => if off + len * sz ≤ cs.length then some (chunk sz (cs.drop off) len) else none
      | none => none
    else none
  | _ => none

def flatA : List (List AV) → List AV
  | [] => []
  | e :: es => e ++ flatA es

def room : Nat := 140737488355328

def appendA (T : Tab) (S : Store) (ty : Nat) (s x : AV) : Option (AV × Store) :=
  match T.sle ty with
  | none => none
  | some e => match T.sz e, T.bytes e, T.zero e with
    | some sz, some by_, some z => if z.length = sz ∧ 0 < sz ∧ 0 < by_ then match elsOf S sz x with
      | none => none
      | some new => match s with
        | .nilsl => match new with
          | [] => some (.nilsl, S)
          | _ :: _ => if new.length * by_ ≤ room ∧ (flatA new).all AV.one = true then some (.sl S.length 0 new.length new.length sz, S ++ [.cells (flatA new) e]) else none
        | .fsl x els => match new with
          | [] => some (.fsl x els, S)
          | _ :: _ => if x = true ∧ els.all (fun e => e.length == sz) ∧ (els.length + new.length) * by_ ≤ room ∧ (flatA els).all AV.one = true ∧ (flatA new).all AV.one = true
            then some (.sl S.length 0 (els.length + new.length) (els.length + new.length) sz, S ++ [.cells (flatA els ++ flatA new) e]) else none
        | .sl l off len cap sz' => if sz' = sz then
            if len + new.length ≤ cap then (writeN S l (off + len * sz) (flatA new)).map fun S' => (.sl l off (len + new.length) cap sz, S')
            else match S[l]? with
              | some (.cells cs t) => if t = e ∧ off + len * sz ≤ cs.length ∧ (len + new.length) * by_ ≤ room ∧ ((cs.drop off).take (len * sz)).all AV.one = true ∧ (flatA new).all AV.one = true
                then some (.sl S.length 0 (len + new.length) (len + new.length) sz, (S.set l .dead) ++ [.cells ((cs.drop off).take (len * sz) ++ flatA new) e]) else none
              | _ => none
          else none
        | _ => none
      else none
    | _, _, _ => none

def natOf : AV → Option Nat
  | .int _ n => if 0 ≤ n then some n.toNat else none
  | _ => none

def natO (d : Nat) : Option AV → Option Nat
  | none => some d
  | some v => natOf v

def headOK (sz : Nat) : List (List AV) → Bool
  | [] => true
  | e :: _ => e.length == sz

/-- x[lo:hi] -/
def sliceA (T : Tab) (ty : Nat) (x : AV) (lo hi : Option AV) : Option AV :=
  match natO 0 lo with
  | none => none
  | some lo => match x with
    | .str s => if T.str ty then match natO s.size hi with
        | some hi => if lo ≤ hi ∧ hi ≤ s.size then some (.str (s.extract lo hi)) else none
        | none => none
      else none
    | .fsl x els => match T.sle ty with
      | some e => match T.sz e with
        | some sz => if headOK sz els then match natO els.length hi with
            | some hi => if lo ≤ hi ∧ hi ≤ els.length then some (.fsl (x && hi == els.length) ((els.take hi).drop lo)) else none
            | none => none
          else none
        | none => none
      | none => none
    | .nilsl => if ((T.sle ty).bind T.sz).isSome then match natO 0 hi with
        | some hi => if lo = 0 ∧ hi = 0 then some .nilsl else none
        | none => none
      else none
    | .sl l off len cap sz => match T.sle ty with
      | some e => if T.sz e = some sz then match natO len hi with
          | some hi => if lo ≤ hi ∧ hi ≤ cap then (if lo < cap then some (.sl l (off + lo * sz) (hi - lo) (cap - lo) sz) else if lo = 0 then some (.sl l off (hi - lo) cap sz) else some (.fsl false [])) else none
          | none => none
        else none
      | none => none
    | _ => none

def makeSliceA (T : Tab) (ty : Nat) (len cap : AV) : Option ((Nat → AV) × Row) :=
  match T.sle ty, len, cap with
  | some e, .int .i64 n, .int .i64 c => match T.sz e, T.bytes e, T.zero e with
    | some sz, some by_, some z => if z.length = sz ∧ 0 < sz ∧ 0 ≤ n ∧ n ≤ c ∧ c ≤ 9223372036854775807 ∧ c.toNat * by_ ≤ room then some (fun l => .sl l 0 n.toNat c.toNat sz, .cells (repA z c.toNat) e) else none
    | _, _, _ => none
  | _, _, _ => none

def extractA (x : AV) (i : Nat) : Option AV :=
  match x with
  | .tuple vs => vs[i]?
  | _ => none

def copyA (T : Tab) (S : Store) (ty : Nat) (d x : AV) : Option (AV × Store) :=
  match T.sle ty with
  | some e => match T.sz e with
    | some sz => match d, elsOf S sz x with
      | .sl l off len _ sz', some new => if sz' = sz ∧ 0 < sz then (writeN S l off (flatA (new.take len))).map fun S' => (.int .i64 (min new.length len : Nat), S') else none
      | _, _ => none
    | none => none
  | none => none

def clearA (T : Tab) (S : Store) (ty : Nat) (d : AV) : Option (AV × Store) :=
  match T.sle ty with
  | some e => match T.sz e, T.zero e with
    | some sz, some z => match d with
      | .sl l off len _ sz' => if sz' = sz ∧ z.length = sz ∧ 0 < sz then (writeN S l off (repA z len)).map fun S' => (undefA, S') else none
      | .nilsl => some (undefA, S)
      | _ => none
    | _, _ => none
  | none => none

/-! ### Maps -/
def keyCells (T : Tab) (kt : Nat) (k : AV) : Option (List Nat × List AV) :=
  match T.flat kt, T.agg kt with
  | some ks, some true => match k with
    | .agg cs => if fits ks cs then some (ks, cs) else none
    | _ => none
  | some ks, some false => if fits ks [k] then some (ks, [k]) else none
  | _, _ => none

def findA (T : Tab) (kt : Nat) (ks : List Nat) (x : List AV) : List (AV × AV × Nat) → Nat → Option (Option (Nat × AV × Nat))
  | [], _ => some none
  | e :: es, i => match keyCells T kt e.1 with
    | some (_, y) => match eqCells ks x y with
      | some true => some (some (i, e.2))
      | some false => findA T kt ks x es (i + 1)
      | none => none
    | none => none

def mapRow (S : Store) (l : Nat) : Option (List (AV × AV × Nat) × Nat) :=
  match S[l]? with
  | some (.map es clk) => some (es, clk)
  | _ => none

def mapRows (S : Store) : AV → Option (List (AV × AV × Nat))
  | .nilmap => some []
  | .map l => (mapRow S l).map (·.1)
  | _ => none

def zeroA (T : Tab) (t : Nat) : Option AV :=
  match T.agg t, T.zero t with
  | some true, some z => some (.agg z)
  | some false, some [v] => some v
  | _, _ => none

/-- Where a key is: its place, value and number, or that it is not there. -/
def seekA (T : Tab) (kt : Nat) (k : AV) (es : List (AV × AV × Nat)) : Option (Option (Nat × AV × Nat)) :=
  match keyCells T kt k with
  | some (ks, kc) => findA T kt ks kc es 0
  | none => none

def lookupA (T : Tab) (S : Store) (ty : Nat) (x k : AV) (ok : Bool) : Option AV :=
  match T.mapT ty with
  | some (kt, et) => match mapRows S x, zeroA T et with
    | some es, some z => match seekA T kt k es with
      | some (some (_, v, _)) => some (if ok then .tuple [v, .bool true] else v)
      | some none => some (if ok then .tuple [z, .bool false] else z)
      | none => none
    | _, _ => none
  | none => none

def mapUpdateA (T : Tab) (S : Store) (ty : Nat) (x k v : AV) : Option (AV × Store) :=
  match x, T.mapT ty with
  | .map l, some (kt, _) => match mapRow S l with
    | some (es, clk) => match seekA T kt k es with
      | some (some (i, _, b)) => some (undefA, S.set l (.map (es.set i (k, v, b)) clk))
      | some none => some (undefA, S.set l (.map (es ++ [(k, v, clk)]) (clk + 1)))
      | none => none
    | none => none
  | _, _ => none

def mapEntryA (T : Tab) (S : Store) (ty : Nat) (x k : AV) : Option (AV × Store) :=
  match x, T.mapT ty with
  | .map l, some (kt, et) => match mapRow S l, zeroA T et with
    | some (es, clk), some z => match seekA T kt k es with
      | some (some (i, v, b)) => some (.tuple [v, .int .i64 b], S.set l (.map (es.set i (k, v, b)) clk))
      | some none => some (.tuple [z, .int .i64 clk], S.set l (.map (es ++ [(k, z, clk)]) (clk + 1)))
      | none => none
    | _, _ => none
  | _, _ => none

def entryStoreA (S : Store) (x stamp v : AV) : Option (AV × Store) :=
  match x, stamp with
  | .map l, .int _ n => match mapRow S l with
    | some (es, clk) => match es.findIdx? (fun e => (e.2.2 : Int) == n) with
      | some i => match es[i]? with
        | some e => some (undefA, S.set l (.map (es.set i (e.1, v, e.2.2)) clk))
        | none => none
      | none => none
    | none => none
  | _, _ => none

def deleteA (T : Tab) (S : Store) (ty : Nat) (x k : AV) : Option (AV × Store) :=
  match T.mapT ty with
  | some (kt, _) => match x with
    | .nilmap => match keyCells T kt k with
      | some _ => some (undefA, S)
      | none => none
    | .map l => match mapRow S l with
      | some (es, clk) => match seekA T kt k es with
        | some (some (i, _, _)) => some (undefA, S.set l (.map (es.eraseIdx i) clk))
        | some none => some (undefA, S)
        | none => none
      | none => none
    | _ => none
  | none => none

def lenMap (T : Tab) (S : Store) (ty : Nat) (x : AV) : Option AV :=
  if T.kind ty = some 3 then (mapRows S x).map fun es => .int .i64 es.length else none

/-! ### Iterators -/
def rangeA (T : Tab) (S : Store) (ty : Nat) (x : AV) : Option (AV × Store) :=
  if T.kind ty = some 3 then match x with
    | .nilmap => some (.ptr S.length 0, S ++ [.iter none 0 [] 0])
    | .map l => match mapRow S l with
      | some (_, clk) => some (.ptr S.length 0, S ++ [.iter (some l) clk [] clk])
      | none => none
    | _ => none
  else none

/-- One step, where one candidate is left. -/
def nextA (S : Store) (x : AV) : Option (AV × Store) :=
  match x with
  | .ptr l 0 => match S[l]? with
    | some (.iter none _ _ _) => some (.tuple [.bool false], S)
    | some (.iter (some m) since seen last) => match mapRow S m with
      | some (es, clk) =>
        if !seen.isEmpty && !es.isEmpty && es.all (fun e => decide (last ≤ e.2.2)) then none else
        match es.filter (fun e => !seen.contains e.2.2) with
        | [] => some (.tuple [.bool false], S)
        | [e] => if e.2.2 < since then some (.tuple [.bool true, e.1, e.2.1], S.set l (.iter (some m) since (seen ++ [e.2.2]) clk)) else none
        | _ => none
      | none => none
    | _ => none
  | _ => none

def entryA (S : Store) (x : AV) : Option (AV × Store) :=
  match x with
  | .ptr l 0 => match S[l]? with
    | some (.iter (some m) _ seen last) => match mapRow S m, seen.getLast? with
      | some (es, clk), some b => if clk = last then (es.find? (fun e => e.2.2 == b)).map fun e => (.tuple [e.1, e.2.1], S) else none
      | _, _ => none
    | _ => none
  | _ => none

/-- A slice of an array. -/
def slicePA (T : Tab) (S : Store) (ty l o : Nat) (lo hi : Option AV) : Option AV :=
  match T.arr ty with
  | some (n, e) => match T.sz e, rowCells S l with
    | some sz, some cs => match natO 0 lo, natO n hi with
      | some lo, some hi => if lo ≤ hi ∧ hi ≤ n ∧ lo < n ∧ o + n * sz ≤ cs.length then some (.sl l (o + lo * sz) (hi - lo) (n - lo) sz) else none
      | _, _ => none
    | _, _ => none
  | none => none

def sliceB (T : Tab) (S : Store) (ty : Nat) (x : AV) (lo hi : Option AV) : Option AV :=
  match x with
  | .ptr l o => slicePA T S ty l o lo hi
  | x => sliceA T ty x lo hi

def lenB (T : Tab) (S : Store) (ty : Nat) (x : AV) : Option AV :=
  match lenA T ty x with
  | some v => some v
  | none => lenMap T S ty x

/-! ### Operations: P reads alone, A lays a new row, C does more -/
structure CallT where
  fn : Nat → List AV → Store → Option (AV × Store)
  yield : Nat → List AV → Store → Option (AV × Store)

instance : CoeFun CallT (fun _ => Nat → List AV → Store → Option (AV × Store)) := ⟨CallT.fn⟩

def evP (T : Tab) (t : Tmps) (S : Store) : Op → Option AV
  | .move x | .assign x => some (opd t x)
  | .pick c a b => match opd t c with
    | .bool true => some (opd t a)
    | .bool false => some (opd t b)
    | _ => none
  | .build ty ps => buildA T ty (partsA t ps)
  | .buildSlice ty n ps => buildSliceA T ty n (partsA t ps)
  | .load ty a => loadA T S ty (opd t a)
  | .nilCheck x => match opd t x with
    | .ptr l o => some (.ptr l o)
    | .fptr e i o => some (.fptr e i o)
    | _ => none
  | .binOp op ty x y _ => binA T ty op (opd t x) (opd t y)
  | .unOp op _ x => unA op (opd t x)
  | .makeFunc (.func f) first caps => some (.func f (first.toList.map (opd t)) (caps.toList.map (opd t)))
  | .slice ty x lo hi none => sliceB T S ty (opd t x) (lo.map (opd t)) (hi.map (opd t))
  | .fieldAddr s x f => match T.off s f with
    | some n => addO n (opd t x)
    | none => none
  | .indexAddr ty x i => indexA T ty (opd t x) (opd t i)
  | .extract x i => extractA (opd t x) i
  | .convert src dst x => convertA T src dst (opd t x)
  | .index ty x i => indexVA T ty (opd t x) (opd t i)
  | .field ty x f => fieldVA T ty (opd t x) f
  | .lookup ty x k ok => lookupA T S ty (opd t x) (opd t k) ok
  | .call { callee := .builtin .len, args := args, argTypes := tys } => match args.toList, tys.toList with
    | [x], [ty] => lenB T S ty (opd t x)
    | _, _ => none
  | .call { callee := .builtin .max, args := args, .. } => match args.toList with
    | [x, y] => max2A (opd t x) (opd t y)
    | _ => none
  | .call { callee := .builtin .min, args := args, .. } => match args.toList with
    | [x, y] => min2A (opd t x) (opd t y)
    | _ => none
  | _ => none

def evA (T : Tab) (t : Tmps) (S : Store) : Op → Option ((Nat → AV) × Row)
  | .alloc e => (T.zero e).map fun z => (fun l => .ptr l 0, .cells z e)
  | .box e x => match (opd t x).cellsOf with
    | some cs => if cs.all AV.one = true then some (fun l => .ptr l 0, .cells cs e) else none
    | none => none
  | .makeSlice ty len cap => makeSliceA T ty (opd t len) (opd t cap)
  | .makeMap _ none => some (fun l => .map l, .map [] 0)
  | _ => none

def evC (T : Tab) (call : CallT) (t : Tmps) (S : Store) : Op → Option (AV × Store)
  | .store ty a v => (storeA T S ty (opd t a) (opd t v)).map fun S' => (undefA, S')
  | .call { callee := .value x, args := args, .. } => match opd t x with
    | .func f first caps => if T.ent f then call f (first ++ args.toList.map (opd t) ++ caps) S else none
    | .yield l => call.yield l (args.toList.map (opd t)) S
    | _ => none
  | .call { callee := .builtin .append, args := args, argTypes := tys } => match args.toList, tys.toList with
    | [s, x], [ty, ty'] => if ty' = ty then appendA T S ty (opd t s) (opd t x) else none
    | _, _ => none
  | .call { callee := .builtin .copy, args := args, argTypes := tys } => match args.toList, tys.toList with
    | [s, x], [ty, _] => copyA T S ty (opd t s) (opd t x)
    | _, _ => none
  | .call { callee := .builtin .clear, args := args, argTypes := tys } => match args.toList, tys.toList with
    | [s], [ty] => clearA T S ty (opd t s)
    | _, _ => none
  | .call { callee := .builtin .delete, args := args, argTypes := tys } => match args.toList, tys.toList with
    | [x, k], [ty, _] => deleteA T S ty (opd t x) (opd t k)
    | _, _ => none
  | .mapUpdate ty m k x => mapUpdateA T S ty (opd t m) (opd t k) (opd t x)
  | .mapEntry ty m k => mapEntryA T S ty (opd t m) (opd t k)
  | .entryStore _ m s x => entryStoreA S (opd t m) (opd t s) (opd t x)
  | .range ty x => rangeA T S ty (opd t x)
  | .next x false => nextA S (opd t x)
  | .entry x => entryA S (opd t x)
  | .panic x => match opd t x with
    | .iface ty v => some (.panicked (.iface ty v), S)
    | _ => none
  | _ => none

/-- 0: P, 1: A, 2: C. -/
def cls : Op → Nat
  | .alloc _ | .box .. | .makeSlice .. | .makeMap .. => 1
  | .store .. | .mapUpdate .. | .mapEntry .. | .entryStore .. | .range .. | .next .. | .entry .. | .panic .. | .defer .. => 2
  | .call { callee := .builtin .len, .. } | .call { callee := .builtin .max, .. } | .call { callee := .builtin .min, .. } => 0
  | .call _ => 2
  | _ => 0

def evOp (T : Tab) (call : CallT) (t : Tmps) (S : Store) (op : Op) : Option (AV × Store) :=
  match cls op with
  | 0 => (evP T t S op).map fun v => (v, S)
  | 1 => (evA T t S op).map fun r => (r.1 S.length, S ++ [r.2])
  | _ => evC T call t S op

def putA (t : Tmps) : Option Tmp → AV → Tmps
  | some d, v => t.set d v
  | none, _ => t

/-- Is a guarded operation carried out? -/
def wantedA (ops : Array Oper) (t : Tmps) (o : Oper) : Option Bool :=
  match o.guard with
  | none => some true
  | some (j, want) => match (ops[j]?).bind (·.dst) with
    | some d => match t.getD d undefA with
      | .bool b => some (b == want)
      | .tuple [] => some false
      | _ => none
    | none => none

inductive Ex where
  | normal
  | exit (id : Nat)
  | ret
  | panic (v : AV)

/-- May it end by a panic? -/
def mayPanic : Op → Bool
  | .call { callee := .value _, .. } => true
  | .panic _ => true
  | _ => false

def unpanic : AV → AV
  | .panicked v => v
  | v => v

def evOps (T : Tab) (call : CallT) (ops : Array Oper) : List Oper → Tmps → Store → Option (Ex × Tmps × Store)
  | [], t, S => some (.normal, t, S)
  | o :: rest, t, S => match wantedA ops t o with
    | some true => match evOp T call t S o.op with
      | some (v, S') => if mayPanic o.op && v.isPanic then some (.panic (unpanic v), t, S') else evOps T call ops rest (putA t o.dst v) S'
      | none => none
    | some false => evOps T call ops rest (putA t o.dst undefA) S
    | none => none

def loopN (f : Tmps → Store → Option (Ex × Tmps × Store)) : Nat → Tmps → Store → Option (Ex × Tmps × Store)
  | 0, _, _ => none
  | k + 1, t, S => match f t S with
    | some (.normal, t', S') => loopN f k t' S'
    | r => r

/-- A region whose order is drawn: see part D. -/
structure DrawT where
  fid : Nat
  rnd : Option Nat
  run : Nat → Array Oper → Tmps → Store → Option (Tmps × Store)

instance : CoeFun DrawT (fun _ => Nat → Array Oper → Tmps → Store → Option (Tmps × Store)) := ⟨DrawT.run⟩

/-- A jump, as a number: 0 none, 1 ret, n + 2 exit n. -/
def jumpOf : Nat → Ex
  | 0 => .normal
  | 1 => .ret
  | n + 2 => .exit n

/-- Is the loop of the round in which we are still there? -/
def roundOK (S : Store) : Option Nat → Bool
  | none => true
  | some l => match S[l]? with
    | some (.loop ..) => true
    | _ => false

/-- Behind a range over a function. -/
def afterA (t : Tmps) (l : Nat) (S : Store) : Option (Ex × Tmps × Store) :=
  match S[l]? with
  | some (.loop _ _ _ st j) => if st = 1 then none else some (jumpOf j, t, S.set l .dead)
  | _ => none

def rangeFuncA (T : Tab) (call : CallT) (draw : DrawT) (g : Operand) (ps : Array Tmp) (t : Tmps) (S : Store) : Option (Ex × Tmps × Store) :=
  match opd t g with
  | .func f first caps => if T.ent f && roundOK S draw.rnd then
      match call f (first ++ [.yield S.length] ++ caps) (S ++ [.loop draw.fid ps.toList t 0 0]) with
      | some (v, S') => if v.isPanic then none else afterA t S.length S'
      | none => none
    else none
  | _ => none

def evCode (T : Tab) (call : CallT) (draw : DrawT) (k : Nat) : Code → Tmps → Store → Option (Ex × Tmps × Store)
  | .skip, t, S => some (.normal, t, S)
  | .region _ ops false, t, S => evOps T call ops ops.toList t S
  | .region id ops true, t, S => (draw id ops t S).map fun r => (.normal, r.1, r.2)
  | .seq a b, t, S => match evCode T call draw k a t S with
    | some (.normal, t', S') => evCode T call draw k b t' S'
    | r => r
  | .cond c a b, t, S => match opd t c with
    | .bool true => evCode T call draw k a t S
    | .bool false => evCode T call draw k b t S
    | _ => none
  | .block id c, t, S => match evCode T call draw k c t S with
    | some (.exit id', t', S') => if id' = id then some (.normal, t', S') else some (.exit id', t', S')
    | r => r
  | .loop c, t, S => loopN (evCode T call draw k c) k t S
  | .rangeFunc g ps _ _, t, S => rangeFuncA T call draw g ps t S
  | .exit id, t, S => some (.exit id, t, S)
  | .ret, t, S => some (.ret, t, S)
  | _, _, _ => none

/-- Are all drawn regions of a kind? -/
def codeOK (okR : Nat → Array Oper → Bool) : Code → Bool
  | .region id ops true => okR id ops
  | .seq a b | .cond _ a b | .rangeFunc _ _ a b => codeOK okR a && codeOK okR b
  | .block _ c | .loop c => codeOK okR c
  | _ => true

def resultA (T : Tab) (S : Store) (t : Tmps) : ResultVar → Option AV
  | .tmp i => some (t.getD i undefA)
  | .cell a ty => loadA T S ty (t.getD a undefA)

def resultsA (T : Tab) (S : Store) (t : Tmps) : List ResultVar → Option (List AV)
  | [] => some []
  | r :: rs => match resultA T S t r, resultsA T S t rs with
    | some v, some vs => some (v :: vs)
    | _, _ => none

def oneA : List AV → AV
  | [v] => v
  | vs => .tuple vs

def evFun (T : Tab) (call : CallT) (draw : DrawT) (k : Nat) (fn : Func) (args : List AV) (S : Store) : Option (AV × Store) :=
  match fn.body with
  | none => none
  | some c => match evCode T call draw k c (args ++ List.replicate (fn.ntmps - args.length) undefA) S with
    | some (.normal, t, S') | some (.ret, t, S') => (resultsA T S' t fn.results.toList).map fun vs => (oneA vs, S')
    | some (.panic v, _, S') => some (.panicked v, S')
    | _ => none

/-! ### Rounds -/
/-- The ranges over functions in a piece of code. -/
def rfs : Code → List (List Nat × Code × Code)
  | .seq a b | .cond _ a b => rfs a ++ rfs b
  | .block _ c | .loop c => rfs c
  | .rangeFunc _ ps a c => (ps.toList, a, c) :: (rfs a ++ rfs c)
  | _ => []

def findRf (ps : List Nat) : List (List Nat × Code × Code) → Option (Code × Code)
  | [] => none
  | (q, a, c) :: rest => if q = ps then some (a, c) else findRf ps rest

def setAll : Tmps → List Nat → List AV → Tmps
  | t, p :: ps, v :: vs => setAll (t.set p v) ps vs
  | t, _, _ => t

def exJump : Ex → Option Nat
  | .normal => some 0
  | .ret => some 1
  | .exit n => some (n + 2)
  | .panic _ => none

def endA (l : Nat) (e : Ex) (S : Store) : Option (AV × Store) :=
  match S[l]?, exJump e with
  | some (.loop f ps t _ _), some j => some (.bool (decide (j = 0)), S.set l (.loop f ps t (if j = 0 then 0 else 2) j))
  | _, _ => none

def beginA (l : Nat) (S : Store) : Option Store :=
  match S[l]? with
  | some (.loop f ps t 0 j) => some (S.set l (.loop f ps t 1 j))
  | _ => none

/-- A round: the loop's record, its code (as found), what runs code. -/
def yieldA (code : Nat → List Nat → Option (Code × Code)) (ev : Nat → Code → Tmps → Store → Option (Ex × Tmps × Store)) (l : Nat) (args : List AV) (S : Store) : Option (AV × Store) :=
  match S[l]? with
  | some (.loop f ps t _ _) => match code f ps with
    | some (a, c) => if args.length = ps.length then
        match ev f a (setAll t ps args) S with
        | some (.normal, t1, S1) => match beginA l S1 with
          | some S2 => match ev f c t1 S2 with
            | some (e, _, S3) => endA l e S3
            | none => none
          | none => none
        | _ => none
      else none
    | none => none
  | _ => none

end Go.Ev
