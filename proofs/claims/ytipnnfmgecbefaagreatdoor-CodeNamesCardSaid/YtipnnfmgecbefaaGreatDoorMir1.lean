import GoSem.Dispatch
import GoSem.Step
/- The mirror, part 1: values, memory and code without addresses, capacities and orders; what a piece of code comes to, said as a predicate. No program in sight. -/
namespace Mir
open Go

/-- Values. -/
inductive V where
  | bool (b : Bool)
  | int (k : IntKind) (n : Int)
  | str (s : List UInt8)
  | ptr (b o : Nat)
  | nilptr
  | sl (b o es len : Nat)
  | nilsl
  | map (b : Nat)
  | nilmap
  | fn (f : Nat) (first cap : List V)
  | yield (l : Nat)
  | nilfn
  | iface (t : Nat) (v : V)
  | nilif
  | agg (cs : List V)
  | tup (vs : List V)
  | undef
  /-- Some value of one cell, of which nothing is asked. -/
  | any
  deriving Inhabited

def V.cells : V → List V
  | .agg cs => cs
  | v => [v]
/-- May it be a cell's content? -/
def V.flat : V → Bool
  | .agg _ | .tup _ | .undef => false
  | _ => true
inductive Opd where
  | tmp (t : Nat)
  | c (v : V)
  | glob (g : Nat)

/-- What '==' compares. -/
inductive EqC where
  | int | str | bool | ptr | sl | map | fn | iface
  deriving DecidableEq

/-- The kinds of maps' keys. -/
inductive KC where
  | one (c : EqC)
  | agg (cs : List EqC)

/-- Operations on the temporaries alone. -/
inductive PK where
  | mv (x : Opd)
  | pick (c a b : Opd)
  | bin (op : BinOp) (x y : Opd)
  | eq (c : EqC) (neg : Bool) (x y : Opd)
  | eqAgg (cs : List EqC) (neg : Bool) (x y : Opd)
  | un (op : UnOp) (x : Opd)
  | convInt (k : IntKind) (x : Opd)
  | convStr (x : Opd)
  | subStr (x : Opd) (l h : Option Opd)
  | subSl (es : Nat) (x : Opd) (l h : Option Opd)
  | idxStr (x i : Opd)
  | idxAgg (len es : Nat) (agg : Bool) (x i : Opd)
  | field (off n : Nat) (agg : Bool) (x : Opd)
  | fieldAt (off : Nat) (x : Opd)
  | idxSl (es : Nat) (x i : Opd)
  | idxArr (len es : Nat) (x i : Opd)
  | ext (x : Opd) (i : Nat)
  | mkIf (t : Nat) (x : Opd)
  | mkFn (f : Nat) (first cap : List Opd)
  | build (zero : List V) (parts : List (Nat × Nat × Opd))
  | nilchk (x : Opd)
  | lenStr (x : Opd)
  | lenSl (x : Opd)
  | lenK (n : Nat)
  | mnmx (mx : Bool) (x : Opd) (xs : List Opd)
  | unwrap (t : Nat) (x : Opd)
  | eqIf (ok : List Nat) (neg : Bool) (x y : Opd)
  /-- A byte, checked, or as a text (string([]byte{c}), told without its block). -/
  | byteStr (txt : Bool) (x : Opd)
  /-- internal/bytealg.IndexByteString; unsafe.SliceData. -/
  | idxByte (x c : Opd)
  | dataSl (x : Opd)

/-- Operations that read memory. -/
inductive RK where
  | load (n : Nat) (agg : Bool) (x : Opd)
  | lookup (kc : KC) (zero : V) (ok : Bool) (m k : Opd)
  | lenMap (m : Opd)
  | toStr (x : Opd)
  | entry (it : Opd)
  | slArr (len es : Nat) (x : Opd) (l h : Option Opd)
  /-- A strings.Builder's place by unsafe.Pointer, and back. -/
  | uns (x : Opd)
  /-- internal/bytealg.IndexString; g: MaxLen. -/
  | idxSub (g : Nat) (x y : Opd)

/-- Operations that make memory. -/
inductive AK where
  | alloc (zero : List V)
  | box (x : Opd)
  | mkSl (zero : List V) (es len : Nat) (parts : List (Nat × Nat × Opd))
  | mkMap
  | make (zero : List V) (es bytes : Nat) (l c : Opd)
  | toBytes (x : Opd)
  /-- A strings.Builder. -/
  | allocW (zero : List V)

/-- All others. -/
inductive HK where
  | store (n : Nat) (x v : Opd)
  | call (f : Opd) (args : List Opd)
  | app (es bytes : Nat) (x y : Opd)
  | copy (es : Nat) (x y : Opd)
  | mapUpd (kc : KC) (m k v : Opd)
  | mapEntry (kc : KC) (zero : V) (m k : Opd)
  | entryStore (m s v : Opd)
  | delete (kc : KC) (m k : Opd)
  | range (m : Opd)
  | next (it : Opd)
  | rangeStr (s : Opd)
  | nextStr (it : Opd)
  | clone (x : Opd)
  /-- unsafe.String: the bytes are not written any more. -/
  | ustr (p n : Opd)
  | dfr (f : Opd) (args : List Opd)

inductive Kind where
  | p (k : PK)
  | r (k : RK)
  | a (k : AK)
  | h (k : HK)

/-- One operation: where its value goes; its guard (a temporary and what it must hold); the operation; (in a region whose order is open) its number, and the reads that must still hold behind it. -/
structure IOp where
  dst : Option Nat
  guard : Option (Nat × Bool)
  k : Kind
  id : Nat := 0
  watch : List Nat := []

inductive IC where
  | skip
  | ops (l : List IOp)
  | draw (l : List IOp)
  | seq (a b : IC)
  | cond (x : Opd) (a b : IC)
  | block (id : Nat) (c : IC)
  | loop (c : IC)
  | rangeFn (f : Opd) (params : List Nat) (assign body : IC)
  | exit (id : Nat)
  | ret

/-- How code is left. -/
inductive Ex where
  | nm
  | exit (id : Nat)
  | ret
  deriving DecidableEq

inductive LSt where
  | ready | busy | done
  deriving DecidableEq

abbrev Tm := Nat → V

/-- What lies in memory. -/
inductive AObj where
  | cells (cs : List V) (ro : Bool)
  | map (es : List (V × V × Nat)) (clock : Nat)
  | iter (m : Option Nat) (since : Nat) (seen : List Nat) (stepped : Nat)
  | sit (s : List UInt8) (pos : Nat)
  | loop (t : Tm) (params : List Nat) (assign body : IC) (st : LSt) (pend : Option Ex)

abbrev H := Nat → Option AObj
def hset (h : H) (b : Nat) (o : Option AObj) : H := fun i => if i = b then o else h i
abbrev hadd (h : H) (b : Nat) (o : AObj) : H := hset h b (some o)
def upd (t : Tm) (d : Nat) (v : V) : Tm := fun i => if i = d then v else t i
def put (t : Tm) (d : Option Nat) (v : V) : Tm :=
  match d with
  | some d => upd t d v
  | none => t

/-- An activation: its temporaries, its deferred calls. -/
structure A where
  t : Tm
  d : List (V × List V)

def Opd.ev (t : Tm) : Opd → V
  | .tmp i => t i
  | .c v => v
  | .glob g => .ptr g 0

/-- The numbers of those pieces of memory that are known to be rows of bytes (variables of the program are numbered below). -/
def isB (b : Nat) : Prop := b % 2 = 1 ∧ 1000 < b
/-- The numbers of those that are known to be a strings.Builder. -/
def isW (b : Nat) : Prop := b % 4 = 2 ∧ 1000 < b
instance (b : Nat) : Decidable (isW b) := inferInstanceAs (Decidable (_ ∧ _))
/-- Where a text stands first in another one; -1: nowhere. -/
def idxS (t s : List UInt8) : Int := match (List.range (s.length + 1 - t.length)).find? fun i => (s.take (i + t.length)).drop i == t with
  | some i => i
  | none => -1
/-- Where a byte stands first; -1: nowhere. -/
def idxB (c : UInt8) : List UInt8 → Int
  | [] => -1
  | b :: l => if b = c then 0 else if idxB c l = -1 then -1 else idxB c l + 1
/-! ### What the operations give -/
def evBin (op : BinOp) (x y : V) : Option V :=
  match x, y with
  | .int k a, .int k' b =>
    match op with
    | .shl => if b < 0 then none else some (.int k (k.wrap (a * 2 ^ (min b.toNat k.bits))))
    | .shr => if b < 0 then none else some (.int k (a.fdiv (2 ^ (min b.toNat k.bits))))
    | .add => if k = k' then some (.int k (k.wrap (a + b))) else none
    | .sub => if k = k' then some (.int k (k.wrap (a - b))) else none
    | .mul => if k = k' then some (.int k (k.wrap (a * b))) else none
    | .quo => if k = k' then if b = 0 then none else some (.int k (k.wrap (a.tdiv b))) else none
    | .rem => if k = k' then if b = 0 then none else some (.int k (a.tmod b)) else none
    | .and => if k = k' then some (.int k (k.wrap ((BitVec.ofInt k.bits a &&& BitVec.ofInt k.bits b).toNat))) else none
    | .or => if k = k' then some (.int k (k.wrap ((BitVec.ofInt k.bits a ||| BitVec.ofInt k.bits b).toNat))) else none
    | .xor => if k = k' then some (.int k (k.wrap ((BitVec.ofInt k.bits a ^^^ BitVec.ofInt k.bits b).toNat))) else none
    | .andNot => if k = k' then some (.int k (k.wrap ((BitVec.ofInt k.bits a &&& ~~~ BitVec.ofInt k.bits b).toNat))) else none
    | .eql => if k = k' then some (.bool (a == b)) else none
    | .neq => if k = k' then some (.bool (a != b)) else none
    | .lss => if k = k' then some (.bool (decide (a < b))) else none
    | .leq => if k = k' then some (.bool (decide (a ≤ b))) else none
    | .gtr => if k = k' then some (.bool (decide (b < a))) else none
    | .geq => if k = k' then some (.bool (decide (b ≤ a))) else none
  | .str a, .str b =>
    match op with
    | .add => if a.length + b.length < 4611686018427387904 then some (.str (a ++ b)) else none
    | .eql => some (.bool (a == b))
    | .neq => some (.bool !(a == b))
    | .lss => some (.bool (Op.bytesLess a b))
    | .leq => some (.bool (Op.bytesLess a b || a == b))
    | .gtr => some (.bool !(Op.bytesLess a b || a == b))
    | .geq => some (.bool !(Op.bytesLess a b))
    | _ => none
  | _, _ => none

def evEq : EqC → V → V → Option Bool
  | .int, .int k a, .int k' b => if k = k' then some (a == b) else none
  | .str, .str a, .str b => some (a == b)
  | .bool, .bool a, .bool b => some (a == b)
  | .ptr, .nilptr, .nilptr => some true
  | .ptr, .nilptr, .ptr _ _ => some false
  | .ptr, .ptr _ _, .nilptr => some false
  | .ptr, .ptr b o, .ptr b' o' => if b = b' then some (o == o') else none
  | .sl, .nilsl, .nilsl => some true
  | .sl, .nilsl, .sl .. => some false
  | .sl, .sl .., .nilsl => some false
  | .map, .nilmap, .nilmap => some true
  | .map, .nilmap, .map _ => some false
  | .map, .map _, .nilmap => some false
  | .fn, .nilfn, .nilfn => some true
  | .fn, .nilfn, .fn .. => some false
  | .fn, .fn .., .nilfn => some false
  | .iface, .nilif, .nilif => some true
  | .iface, .nilif, .iface .. => some false
  | .iface, .iface .., .nilif => some false
  | _, _, _ => none
def evEqs : List EqC → List V → List V → Option Bool
  | [], [], [] => some true
  | c :: cs, x :: xs, y :: ys =>
    match evEq c x y with
    | some true => evEqs cs xs ys
    | some false => some false
    | none => none
  | _, _, _ => none

/-- Two interfaces, not both nil; of what is told of numbers alone, if the kinds are the same. -/
def evIf (ok : List Nat) : V → V → Option Bool
  | .nilif, .iface .. => some false
  | .iface .., .nilif => some false
  | .iface t (.int k a), .iface t' (.int k' b) => if t = t' then (if k = k' ∧ t ∈ ok then some (a == b) else none) else some false
  | _, _ => none

/-- A part of an aggregate. -/
def partOf (off n : Nat) (agg : Bool) (cs : List V) : Option V :=
  if agg then (if off + n ≤ cs.length then some (.agg ((cs.drop off).take n)) else none)
  else cs[off]?
/-- Parts laid into cells. -/
def fillIn (ρ : Opd → V) : List V → List (Nat × Nat × Opd) → Option (List V)
  | cs, [] => some cs
  | cs, (off, n, x) :: rest =>
    let p := (ρ x).cells
    if p.length = n ∧ off + n ≤ cs.length ∧ p.all V.flat then fillIn ρ (cs.take off ++ p ++ cs.drop (off + n)) rest else none
/-- Bounds of a slice expression. -/
def evBounds (ρ : Opd → V) (len : Nat) (l h : Option Opd) : Option (Nat × Nat) :=
  match (match h with | none => some len | some y => match ρ y with | .int _ j => if 0 ≤ j ∧ j ≤ len then some j.toNat else none | _ => none) with
  | none => none
  | some j =>
    match l with
    | none => some (0, j)
    | some x => match ρ x with | .int _ i => if 0 ≤ i ∧ i ≤ j then some (i.toNat, j) else none | _ => none

def evMm (mx : Bool) : V → V → Option V
  | .int k a, .int k' b => if k = k' then some (.int k (if mx then (if a < b then b else a) else (if b < a then b else a))) else none
  | _, _ => none
def evMms (mx : Bool) : V → List V → Option V
  | v, [] => some v
  | v, x :: xs => match evMm mx v x with | some w => evMms mx w xs | none => none

def PK.ev (ρ : Opd → V) : PK → Option V
  | .mv x => some (ρ x)
  | .pick c a b => match ρ c with | .bool c => some (if c then ρ a else ρ b) | _ => none
  | .bin op x y => evBin op (ρ x) (ρ y)
  | .eq c neg x y => (evEq c (ρ x) (ρ y)).map fun b => .bool (if neg then !b else b)
  | .eqAgg cs neg x y => match ρ x, ρ y with | .agg xs, .agg ys => (evEqs cs xs ys).map fun b => .bool (if neg then !b else b) | _, _ => none
  | .un op x => match op, ρ x with | .neg, .int k n => some (.int k (k.wrap (0 - n))) | .not, .bool b => some (.bool !b) | .xor, .int k n => some (.int k (k.wrap ((BitVec.ofInt k.bits (if k.signed then -1 else k.max) ^^^ BitVec.ofInt k.bits n).toNat))) | _, _ => none
  | .convInt k x => match ρ x with | .int _ n => some (.int k (k.wrap n)) | _ => none
  | .convStr x => match ρ x with | .str s => some (.str s) | _ => none
  | .subStr x l h => match ρ x with | .str s => (evBounds ρ s.length l h).map fun (i, j) => .str ((s.take j).drop i) | _ => none
  | .subSl es x l h =>
    match ρ x with
    | .sl b o es' n => if es = es' then (evBounds ρ n l h).map fun (i, j) => .sl b (o + i * es) es (j - i) else none
    | .nilsl => (evBounds ρ 0 l h).map fun _ => .nilsl
    | _ => none
  | .idxStr x i => match ρ x, ρ i with | .str s, .int _ n => if 0 ≤ n then (s[n.toNat]?).map fun c => .int .u8 c.toNat else none | _, _ => none
  | .idxAgg len es agg x i => match ρ x, ρ i with | .agg cs, .int _ n => if 0 ≤ n ∧ n < len then partOf (n.toNat * es) es agg cs else none | _, _ => none
  | .field off n agg x => match ρ x with | .agg cs => partOf off n agg cs | _ => none
  | .fieldAt off x => match ρ x with | .ptr b o => some (.ptr b (o + off)) | _ => none
  | .idxSl es x i => match ρ x, ρ i with | .sl b o es' n, .int _ j => if es = es' ∧ 0 ≤ j ∧ j < n then some (.ptr b (o + j.toNat * es)) else none | _, _ => none
  | .idxArr len es x i => match ρ x, ρ i with | .ptr b o, .int _ j => if 0 ≤ j ∧ j < len then some (.ptr b (o + j.toNat * es)) else none | _, _ => none
  | .ext x i => match ρ x with | .tup vs => vs[i]? | _ => none
  | .byteStr txt x => match ρ x with | .int .u8 n => some (if txt then .str [UInt8.ofNat n.toNat] else .undef) | _ => none
  | .idxByte x c => match ρ x, ρ c with | .str s, .int .u8 n => some (.int .i64 (idxB (UInt8.ofNat n.toNat) s)) | _, _ => none
  | .dataSl x => match ρ x with | .sl b o _ n => if 0 < n then some (.ptr b o) else none | .nilsl => some .nilptr | _ => none
  | .mkIf t x => some (.iface t (ρ x))
  | .mkFn f first cap => some (.fn f (first.map ρ) (cap.map ρ))
  | .build zero parts => (fillIn ρ zero parts).map .agg
  | .nilchk x => match ρ x with | .nilptr | .nilif | .nilfn | .undef | .any => none | .fn f a b => some (.fn f a b) | v => some v
  | .lenStr x => match ρ x with | .str s => some (.int .i64 s.length) | _ => none
  | .lenSl x => match ρ x with | .sl _ _ _ n => some (.int .i64 n) | .nilsl => some (.int .i64 0) | _ => none
  | .lenK n => some (.int .i64 n)
  | .mnmx mx x xs => evMms mx (ρ x) (xs.map ρ)
  | .unwrap t x => match ρ x with | .iface t' v => if t = t' then some v else none | _ => none
  | .eqIf ok neg x y => (evIf ok (ρ x) (ρ y)).map fun b => .bool (if neg then !b else b)

/-! Maps, entry by entry. -/
def keyEq : KC → V → V → Option Bool
  | .one c, x, y => evEq c x y
  | .agg cs, .agg xs, .agg ys => evEqs cs xs ys
  | _, _, _ => none
abbrev Ents := List (V × V × Nat)
def findK (kc : KC) (k : V) : Ents → Option (Option (V × Nat))
  | [] => some none
  | e :: es => match keyEq kc k e.1 with
    | some true => some (some (e.2.1, e.2.2))
    | some false => findK kc k es
    | none => none
def setK (kc : KC) (k v : V) : Ents → Ents
  | [] => []
  | e :: es => if keyEq kc k e.1 = some true then (k, v, e.2.2) :: es else e :: setK kc k v es
def delK (kc : KC) (k : V) : Ents → Ents
  | [] => []
  | e :: es => if keyEq kc k e.1 = some true then es else e :: delK kc k es
def setBorn (n : Nat) (v : V) : Ents → Ents
  | [] => []
  | e :: es => if e.2.2 = n then (e.1, v, e.2.2) :: es else e :: setBorn n v es
def findBorn (n : Nat) : Ents → Option (V × V)
  | [] => none
  | e :: es => if e.2.2 = n then some (e.1, e.2.1) else findBorn n es

/-- Bytes as a text. -/
def bytesOf : List V → Option (List UInt8)
  | [] => some []
  | .int .u8 n :: vs => match bytesOf vs with | some s => some (UInt8.ofNat n.toNat :: s) | none => none
  | _ => none

def RK.ev (ρ : Opd → V) (h : H) : RK → Option V
  | .load n agg x =>
    match ρ x with
    | .ptr b o => match h b with
      | some (.cells cs _) => partOf o n agg cs
      | _ => none
    | _ => none
  | .lookup kc zero ok m k =>
    if keyEq kc (ρ k) (ρ k) = some true then
      match ρ m with
      | .nilmap => some (if ok then .tup [zero, .bool false] else zero)
      | .map b => match h b with
        | some (.map es _) =>
          match findK kc (ρ k) es with
          | some (some (v, _)) => some (if ok then .tup [v, .bool true] else v)
          | some none => some (if ok then .tup [zero, .bool false] else zero)
          | none => none
        | _ => none
      | _ => none
    else none
  | .lenMap m =>
    match ρ m with
    | .nilmap => some (.int .i64 0)
    | .map b => match h b with
      | some (.map es _) => some (.int .i64 es.length)
      | _ => none
    | _ => none
  | .toStr x =>
    match ρ x with
    | .nilsl => some (.str [])
    | .sl b o es n => match h b with
      | some (.cells cs _) => if es = 1 ∧ o + n ≤ cs.length then (bytesOf ((cs.drop o).take n)).map .str else none
      | _ => none
    | _ => none
  | .entry it =>
    match ρ it with
    | .ptr i 0 => match h i with
      | some (.iter (some m) _ seen stepped) => match h m with
        | some (.map es clock) =>
          match seen.getLast? with
          | some n => if clock = stepped then (findBorn n es).map fun (k, v) => .tup [k, v] else none
          | none => none
        | _ => none
      | _ => none
    | _ => none
  | .slArr len es x l h' =>
    match ρ x with
    | .ptr b o => match h b with
      | some (.cells cs _) => if o + len * es ≤ cs.length then (evBounds ρ len l h').map fun (i, j) => .sl b (o + i * es) es (j - i) else none
      | _ => none
    | _ => none
  | .uns x =>
    match ρ x with
    | .ptr b 0 => match h b with
      | some (.cells _ _) => if isW b then some (.ptr b 0) else none
      | _ => none
    | _ => none
  | .idxSub g x y =>
    match ρ x, ρ y, h g with
    | .str s, .str t, some (.cells [.int .i64 m] _) => if 2 ≤ t.length ∧ (t.length : Int) ≤ m ∧ s.length < 4294967281 then some (.int .i64 (idxS t s)) else none
    | _, _, _ => none

/-- Cells of n elements that are zero. -/
def zeros (zero : List V) (n : Nat) : List V := (List.replicate n zero).flatten
def bytesIn (s : List UInt8) : List V := s.map fun c => .int .u8 c.toNat

def AK.ev (ρ : Opd → V) : AK → Option (AObj × (Nat → V))
  | .alloc zero | .allocW zero => some (.cells zero false, fun b => .ptr b 0)
  | .box x => if (ρ x).cells.all V.flat then some (.cells (ρ x).cells false, fun b => .ptr b 0) else none
  | .mkSl zero es len parts => (fillIn ρ (zeros zero len) parts).map fun cs => (.cells cs false, fun b => .sl b 0 es len)
  | .mkMap => some (.map [] 0, fun b => .map b)
  | .make zero es bytes l c =>
    match ρ l, ρ c with
    | .int .i64 n, .int .i64 m => if 0 ≤ n ∧ n ≤ m ∧ m * bytes ≤ 1099511627776 ∧ m ≤ 1099511627776 then some (.cells (zeros zero m.toNat) false, fun b => .sl b 0 es n.toNat) else none
    | _, _ => none
  | .toBytes x => match ρ x with | .str s => some (.cells (bytesIn s) false, fun b => .sl b 0 1 s.length) | _ => none

/-- What is known of a new piece of memory's number. -/
def AK.fits (b : Nat) : AK → Prop
  | .make _ _ bytes _ _ => bytes = 1 → isB b
  | .allocW _ => isW b
  | _ => True

/-- What is called. -/
inductive Callee where
  | fn (f : Nat)
  | round (l : Nat)
abbrev CP := Callee → List V → H → (V → H → Prop) → Prop

/-- The new cells that an append or a copy takes. -/
def srcCells (es : Nat) (h : H) : V → Option (Nat × List V)
  | .nilsl => some (0, [])
  | .str s => if es = 1 then some (s.length, bytesIn s) else none
  | .sl b o es' n => match h b with
    | some (.cells cs _) => if es = es' ∧ o + n * es ≤ cs.length then some (n, (cs.drop o).take (n * es)) else none
    | _ => none
  | _ => none

/-- The entries that may come next. -/
def candidates (es : Ents) (since : Nat) (seen : List Nat) : List (Option (V × V × Nat)) :=
  let left := es.filter fun e => !seen.contains e.2.2
  let old := left.filter fun e => decide (e.2.2 < since)
  let new := left.filter fun e => !decide (e.2.2 < since)
  (if old.isEmpty then [none] else []) ++ (old ++ new).map some

/-- Calling a function's value. -/
def callV (call : CP) (f : V) (args : List V) (h : H) (Q : V → H → Prop) : Prop :=
  match f with
  | .fn f first cap => call (.fn f) (first ++ args ++ cap) h Q
  | .yield l => call (.round l) args h Q
  | _ => False

def HK.E (call : CP) (ρ : Opd → V) (h : H) (Q : V → H → Prop) : HK → Prop
  | .store n x v =>
    match ρ x with
    | .ptr b o => match h b with
      | some (.cells cs false) => (ρ v).cells.length = n ∧ o + n ≤ cs.length ∧ (ρ v).cells.all V.flat = true ∧ Q .undef (hadd h b (.cells (cs.take o ++ (ρ v).cells ++ cs.drop (o + n)) false))
      | _ => False
    | _ => False
  | .call f args => callV call (ρ f) (args.map ρ) h Q
  | .app es bytes x y =>
    match srcCells es h (ρ y) with
    | none => False
    | some (n, new) =>
      match ρ x with
      | .nilsl => if n = 0 then Q .nilsl h else n * bytes ≤ 1099511627776 ∧ n ≤ 1099511627776 ∧ ∀ b', h b' = none → (bytes = 1 → isB b') → Q (.sl b' 0 es n) (hadd h b' (.cells new false))
      | .sl b o es' len =>
        if n = 0 then es = es' ∧ Q (.sl b o es len) h else
        match h b with
        | some (.cells cs false) => es = es' ∧ o + len * es ≤ cs.length ∧ (len + n) * bytes ≤ 1099511627776 ∧ len + n ≤ 1099511627776 ∧
          ∀ b', b' ≠ b → h b' = none → (bytes = 1 → isB b → isB b') → Q (.sl b' 0 es (len + n)) (hadd (hset h b none) b' (.cells ((cs.drop o).take (len * es) ++ new) false))
        | _ => False
      | _ => False
  | .copy es x y =>
    match srcCells es h (ρ y) with
    | none => False
    | some (n, new) =>
      match ρ x with
      | .nilsl => Q (.int .i64 0) h
      | .sl b o es' len =>
        match h b with
        | some (.cells cs false) => es = es' ∧ o + len * es ≤ cs.length ∧
          Q (.int .i64 (min n len : Nat)) (hadd h b (.cells (cs.take o ++ new.take (min n len * es) ++ cs.drop (o + min n len * es)) false))
        | _ => False
      | _ => False
  | .mapUpd kc m k v =>
    match ρ m with
    | .map b => match h b with
      | some (.map es clock) => keyEq kc (ρ k) (ρ k) = some true ∧
        match findK kc (ρ k) es with
        | some (some _) => Q .undef (hadd h b (.map (setK kc (ρ k) (ρ v) es) clock))
        | some none => Q .undef (hadd h b (.map (es ++ [(ρ k, ρ v, clock)]) (clock + 1)))
        | none => False
      | _ => False
    | _ => False
  | .mapEntry kc zero m k =>
    match ρ m with
    | .map b => match h b with
      | some (.map es clock) => keyEq kc (ρ k) (ρ k) = some true ∧
        match findK kc (ρ k) es with
        | some (some (v, n)) => Q (.tup [v, .int .i64 n]) (hadd h b (.map (setK kc (ρ k) v es) clock))
        | some none => Q (.tup [zero, .int .i64 clock]) (hadd h b (.map (es ++ [(ρ k, zero, clock)]) (clock + 1)))
        | none => False
      | _ => False
    | _ => False
  | .entryStore m s v =>
    match ρ m, ρ s with
    | .map b, .int .i64 n => match h b with
      | some (.map es clock) => 0 ≤ n ∧ (findBorn n.toNat es).isSome = true ∧ Q .undef (hadd h b (.map (setBorn n.toNat (ρ v) es) clock))
      | _ => False
    | _, _ => False
  | .delete kc m k =>
    match ρ m with
    | .map b => match h b with
      | some (.map es clock) => keyEq kc (ρ k) (ρ k) = some true ∧
        match findK kc (ρ k) es with
        | some _ => Q .undef (hadd h b (.map (delK kc (ρ k) es) clock))
        | none => False
      | _ => False
    | _ => False
  | .range m =>
    match ρ m with
    | .nilmap => ∀ b', h b' = none → Q (.ptr b' 0) (hadd h b' (.iter none 0 [] 0))
    | .map b => match h b with
      | some (.map _ clock) => ∀ b', h b' = none → Q (.ptr b' 0) (hadd h b' (.iter (some b) clock [] clock))
      | _ => False
    | _ => False
  | .next it =>
    match ρ it with
    | .ptr i 0 => match h i with
      | some (.iter none _ _ _) => Q (.tup [.bool false]) h
      | some (.iter (some m) since seen stepped) => match h m with
        | some (.map es clock) => (!seen.isEmpty && !es.isEmpty && es.all fun e => decide (stepped ≤ e.2.2)) = false ∧
          ∀ x ∈ candidates es since seen, match x with
            | some e => Q (.tup [.bool true, e.1, e.2.1]) (hadd h i (.iter (some m) since (seen ++ [e.2.2]) clock))
            | none => Q (.tup [.bool false]) h
        | _ => False
      | _ => False
    | _ => False
  | .rangeStr s => match ρ s with | .str s => ∀ b', h b' = none → Q (.ptr b' 0) (hadd h b' (.sit s 0)) | _ => False
  | .nextStr it =>
    match ρ it with
    | .ptr i 0 => match h i with
      | some (.sit s pos) =>
        if pos < s.length then Q (.tup [.bool true, .int .i64 pos, .int .i32 (Utf8.decode ⟨s.toArray⟩ pos).1]) (hadd h i (.sit s (pos + (Utf8.decode ⟨s.toArray⟩ pos).2)))
        else Q (.tup [.bool false]) h
      | _ => False
    | _ => False
  | .clone x =>
    match ρ x with
    | .iface t (.map b) => match h b with
      | some (.map es clock) => ∀ b', h b' = none → Q (.iface t (.map b')) (hadd h b' (.map es clock))
      | _ => False
    | _ => False
  | .ustr p n =>
    match ρ n with
    | .int .i64 k => 0 ≤ k ∧ k ≤ 9223372036854775807 ∧ match ρ p with
      | .nilptr => k = 0 ∧ Q (.str []) h
      | .ptr b o => if k = 0 then Q (.str []) h else
        match h b with
        | some (.cells cs false) => isB b ∧ o + k.toNat ≤ cs.length ∧ match bytesOf ((cs.drop o).take k.toNat) with
          | some s => Q (.str s) (hadd h b (.cells cs true))
          | none => False
        | _ => False
      | _ => False
    | _ => False
  | .dfr _ _ => False

/-! ### Reads stay, whatever is new -/
section
variable {ρ : Opd → V} {h : H}
theorem hadd_some {h : H} {b i : Nat} {o x : AObj} (hb : h b = none) (hi : h i = some x) : hadd h b o i = some x := by
  have : i ≠ b := fun e => by subst e; rw [hb] at hi; cases hi
  simp [hadd, hset, this, hi]
theorem RK.ev_mono {k : RK} {v : V} {b : Nat} {o : AObj} (hb : h b = none) (he : k.ev ρ h = some v) : k.ev ρ (hadd h b o) = some v := by
  cases k <;> simp only [RK.ev] at he ⊢
  case load n g x =>
    split at he <;> (try cases he; done)
    split at he <;> (try cases he; done)
    rename_i hi
    rw [hadd_some hb hi]; exact he
  case lookup kc z ok m k =>
    split at he <;> (try cases he; done)
    rename_i hk
    rw [if_pos hk]
    split at he <;> (try cases he; done)
    · exact he
    · split at he <;> (try cases he; done)
      rename_i hi
      rw [hadd_some hb hi]; exact he
  case lenMap m =>
    split at he <;> (try cases he; done)
    · exact he
    · split at he <;> (try cases he; done)
      rename_i hi
      rw [hadd_some hb hi]; exact he
  case toStr x =>
    split at he <;> (try cases he; done)
    · exact he
    · split at he <;> (try cases he; done)
      rename_i hi
      rw [hadd_some hb hi]; exact he
  case entry it =>
    split at he <;> (try cases he; done)
    split at he <;> (try cases he; done)
    rename_i hi
    rw [hadd_some hb hi]
    simp only
    split at he <;> (try cases he; done)
    rename_i hi
    rw [hadd_some hb hi]; exact he
  case slArr len es x l hh =>
    split at he <;> (try cases he; done)
    split at he <;> (try cases he; done)
    rename_i hi
    rw [hadd_some hb hi]; exact he
  case uns x =>
    split at he <;> (try cases he; done)
    split at he <;> (try cases he; done)
    rename_i hi
    rw [hadd_some hb hi]; exact he
  case idxSub g x y =>
    split at he <;> (try cases he; done)
    rename_i q1 q2 hi
    rw [q1, q2, hadd_some hb hi]; exact he

end
/-- A way to read memory anew. -/
abbrev Rd := { f : H → Option V // ∀ (h : H) (b : Nat) (o : AObj) (v : V), h b = none → f h = some v → f (hadd h b o) = some v }
def RK.rd (k : RK) (ρ : Opd → V) : Rd := ⟨fun h => k.ev ρ h, fun h b o v hb he => RK.ev_mono hb he⟩

/-! ### Code -/
/-- Is an operation with this guard carried out? -/
def wantedE (t : Tm) : Option (Nat × Bool) → Bool
  | none => true
  | some (j, b) => match t j with | .bool c => c == b | _ => false
/-- May the guard be looked at? ('undef' stands for whatever value: a guard that looks at it tells nothing.) -/
def guardOk (t : Tm) : Option (Nat × Bool) → Prop
  | none => True
  | some (j, _) => (∃ c, t j = .bool c) ∨ t j = .tup []

/-- One operation. -/
def stepE (call : CP) (o : IOp) (a : A) (h : H) (K : V → A → H → Prop) : Prop :=
  match o.k with
  | .p k => match k.ev (Opd.ev a.t) with | some v => K v { a with t := put a.t o.dst v } h | none => False
  | .r k => match k.ev (Opd.ev a.t) h with | some v => K v { a with t := put a.t o.dst v } h | none => False
  | .a k => match k.ev (Opd.ev a.t) with | some (x, f) => ∀ b, h b = none → k.fits b → K (f b) { a with t := put a.t o.dst (f b) } (hadd h b x) | none => False
  | .h (.dfr f args) => match f.ev a.t with
    | .fn g first cap => K .undef { t := put a.t o.dst .undef, d := (.fn g first cap, args.map (Opd.ev a.t)) :: a.d } h
    | _ => False
  | .h k => k.E call (Opd.ev a.t) h fun v h' => K v { a with t := put a.t o.dst v } h'

def opsE (call : CP) : List IOp → A → H → (A → H → Prop) → Prop
  | [], a, h, K => K a h
  | o :: l, a, h, K =>
    guardOk a.t o.guard ∧
    if wantedE a.t o.guard then stepE call o a h fun _ a' h' => opsE call l a' h' K
    else opsE call l { a with t := put a.t o.dst (.tup []) } h K

/-- The reads that were made, by number: how to make each anew, and what it gave. -/
abbrev Reads := List (Nat × Rd × V)
def Reads.hold (W : Reads) (l : List Nat) (h : H) : Prop := ∀ x ∈ W, x.1 ∈ l → x.2.1.1 h = some x.2.2
def drawE (call : CP) : List IOp → Reads → A → H → (A → H → Prop) → Prop
  | [], _, a, h, K => K a h
  | o :: l, W, a, h, K =>
    guardOk a.t o.guard ∧
    if wantedE a.t o.guard then
      match o.k with
      | .r k => stepE call o a h fun v a' h' => drawE call l ((o.id, k.rd (Opd.ev a.t), v) :: W) a' h' K
      | .h _ => stepE call o a h fun _ a' h' => W.hold o.watch h' ∧ drawE call l W a' h' K
      | _ => stepE call o a h fun _ a' h' => drawE call l W a' h' K
    else drawE call l W { a with t := put a.t o.dst (.tup []) } h K

def andThen (K : A → H → Prop) (Q : Ex → A → H → Prop) : Ex → A → H → Prop
  | .nm, a, h => K a h
  | e, a, h => Q e a h
def atBlock (id : Nat) (Q : Ex → A → H → Prop) : Ex → A → H → Prop
  | .exit i, a, h => if i = id then Q .nm a h else Q (.exit i) a h
  | e, a, h => Q e a h

/-- What a piece of code comes to: whatever it leaves by, Q holds. -/
def E (call : CP) : IC → A → H → (Ex → A → H → Prop) → Prop
  | .skip, a, h, Q => Q .nm a h
  | .ops l, a, h, Q => opsE call l a h (Q .nm)
  | .draw l, a, h, Q => drawE call l [] a h (Q .nm)
  | .seq c d, a, h, Q => E call c a h (andThen (fun a h => E call d a h Q) Q)
  | .cond x c d, a, h, Q => match x.ev a.t with
    | .bool b => (b = true → E call c a h Q) ∧ (b = false → E call d a h Q)
    | _ => False
  | .block id c, a, h, Q => E call c a h (atBlock id Q)
  | .loop c, a, h, Q => ∀ X : A → H → Prop, (∀ a h, E call c a h (andThen X Q) → X a h) → X a h
  | .rangeFn f ps as bd, a, h, Q => ∀ l, h l = none →
    match f.ev a.t with
    | .fn g first cap => call (.fn g) (first ++ [.yield l] ++ cap) (hadd h l (.loop a.t ps as bd .ready none)) fun _ h' =>
      ∃ t ps as bd st pd, h' l = some (.loop t ps as bd st pd) ∧ st ≠ .busy ∧ Q (pd.getD .nm) a (hset h' l none)
    | _ => False
  | .exit id, a, h, Q => Q (.exit id) a h
  | .ret, a, h, Q => Q .ret a h

/-! ### Functions -/
inductive Res where
  | tmp (t : Nat)
  | cell (t n : Nat) (agg : Bool)
/-- A function: how many temporaries, its results, its body. -/
structure Fn where
  n : Nat
  res : List Res
  body : IC
/-- A program: its functions; what is known otherwise of some: plain values that come of plain values. -/
structure Pg where
  fns : Nat → Option Fn
  known : Nat → List V → Option V

def resOf (t : Tm) (h : H) : Res → Option V
  | .tmp i => match t i with | .undef => none | v => some v
  | .cell i n agg => match t i with
    | .ptr b o => match h b with
      | some (.cells cs _) => partOf o n agg cs
      | _ => none
    | _ => none
def allSome : List (Option V) → Option (List V)
  | [] => some []
  | some v :: l => match allSome l with | some vs => some (v :: vs) | none => none
  | none :: _ => none
def packed : List V → V
  | [v] => v
  | vs => .tup vs
/-- The deferred calls, the last one first. -/
def dfrE (call : CP) : List (V × List V) → H → (H → Prop) → Prop
  | [], h, K => K h
  | (f, args) :: ds, h, K => match f with
    | .fn f first cap => call (.fn f) (first ++ args ++ cap) h fun _ h' => dfrE call ds h' K
    | _ => False
/-- Less memory. -/
def Sub (h' h : H) : Prop := ∀ b o, h' b = some o → h b = some o

def start (args : List V) : Tm := fun i => (args[i]?).getD (.tup [])
def params (t : Tm) : List Nat → List V → Tm
  | p :: ps, v :: vs => params (upd t p v) ps vs
  | _, _ => t

def endSt : Ex → LSt
  | .nm => .ready
  | _ => .done
def endPd : Ex → Option Ex
  | .nm => none
  | e => some e

def F (pg : Pg) (call : CP) : CP
  | .fn f, args, h, Q =>
    (∃ v, pg.known f args = some v ∧ Q v h) ∨
    ∃ g, pg.fns f = some g ∧ args.length ≤ g.n ∧ E call g.body ⟨start args, []⟩ h fun e a h' =>
      (e = .nm ∨ e = .ret) ∧ dfrE call a.d h' fun h'' => ∃ vs h3, allSome (g.res.map (resOf a.t h'')) = some vs ∧ Sub h3 h'' ∧ Q (packed vs) h3
  | .round l, args, h, Q =>
    ∃ t ps as bd pd, h l = some (.loop t ps as bd .ready pd) ∧ ps.length = args.length ∧
      E call as ⟨params t ps args, []⟩ h fun e a h1 => e = .nm ∧ a.d = [] ∧
        ∃ t1 ps1 as1 bd1 pd1, h1 l = some (.loop t1 ps1 as1 bd1 .ready pd1) ∧
        E call bd a (hadd h1 l (.loop t1 ps1 as1 bd1 .busy pd1)) fun e a2 h2 => a2.d = [] ∧
          ∃ t2 ps2 as2 bd2 st2 pd2 h3, h2 l = some (.loop t2 ps2 as2 bd2 st2 pd2) ∧ Sub h3 (hadd h2 l (.loop t2 ps2 as2 bd2 (endSt e) (endPd e))) ∧
            Q (.bool (e == .nm)) h3

/-- A call comes to its end, whatever is left open, and Q holds. The least predicate that the functions' bodies make true. -/
def AC (pg : Pg) : CP := fun c args h Q => ∀ X : CP, (∀ c args h Q, F pg X c args h Q → X c args h Q) → X c args h Q

end Mir

/- The mirror, part 2: the model's code turned into the mirror's. -/
namespace Mir
open Go

/-- A constant. -/
def toVs (f : Value → Option V) : List Value → Option (List V)
  | [] => some []
  | v :: vs => match f v, toVs f vs with | some x, some xs => some (x :: xs) | _, _ => none
def toV : Nat → Value → Option V
  | 0, _ => none
  | n + 1, v => match v with
    | .bool b => some (.bool b)
    | .int k i => some (.int k i)
    | .string s => some (.str s.data.toList)
    | .pointer none => some .nilptr
    | .slice none 0 0 => some .nilsl
    | .map none => some .nilmap
    | .nilFunc => some .nilfn
    | .nilIface => some .nilif
    | .func (.func f) a c => if a.size = 0 ∧ c.size = 0 then some (.fn f [] []) else none
    | .iface t v => (toV n v).map (.iface t)
    | .agg cs => (toVs (toV n) cs.toList).map .agg
    | .tuple cs => (toVs (toV n) cs.toList).map .tup
    | _ => none

section
variable (P : Program) (n : Nat)

def cOpd : Operand → Option Opd
  | .tmp t => if t < n then some (.tmp t) else none
  | .const v => (toV 4 v).map .c
  | .global g => if g < P.globals.size then some (.glob g) else none
  | .func f => some (.c (.fn f [] []))
def cOpds : List Operand → Option (List Opd)
  | [] => some []
  | x :: xs => match cOpd P n x, cOpds xs with | some y, some ys => some (y :: ys) | _, _ => none
def cOpt : Option Operand → Option (Option Opd)
  | none => some none
  | some x => (cOpd P n x).map some

def szOf (t : TypeId) : Option Nat := (P.info? t).map (·.size)
/-- A type's cells, and whether its values are aggregates. -/
def szA (t : TypeId) : Option (Nat × Bool) := match szOf P t, P.underlying t with
  | some s, some (.struct _) | some s, some (.array _ _) => some (s, true)
  | some s, some _ => some (s, false)
  | _, _ => none
def zeroT (t : TypeId) : Option V := match P.info? t with
  | some i => match i.zero with | some z => toV 4 z | none => none
  | none => none
/-- A zero value's cells, as many as the type has. -/
def zeroCs (t : TypeId) : Option (List V) :=
  match zeroT P t, szOf P t with
  | some z, some s => if z.cells.length = s ∧ z.cells.all V.flat ∧ 0 < s then some z.cells else none
  | _, _ => none
/-- The type strings.Builder. -/
def bldOk (t : TypeId) : Bool := match P.info? t with
  | some i => (match i.desc with | .named n _ => n == "strings.Builder" | _ => false) && P.cellsOf t != 0 && i.size == P.cellsOf t && liesAt P P.depth t (P.cellsOf t / P.cellsOf t) 0 t 1
  | none => false
def bldT : Option Nat := (List.range P.types.size).find? (bldOk P)
def maxLenG : Option Nat := P.globals.findIdx? (·.name == "internal/bytealg.MaxLen")
def eqOf (t : TypeId) : Option EqC := match P.underlying t with
  | some .bool => some .bool
  | some (.int _) => some .int
  | some .string => some .str
  | _ => none
def eqsOf : List Field → Nat → Option (List EqC)
  | [], _ => some []
  | f :: fs, i => if f.name ≠ "_" ∧ f.offset = i then match eqOf P f.type, eqsOf fs (i + 1) with | some c, some cs => some (c :: cs) | _, _ => none else none
def structEq (t : TypeId) : Option (List EqC) := match P.underlying t with
  | some (.struct fs) => if P.stoodInHeld t = false ∧ P.eqGuardType P.depth t = false then eqsOf P fs.toList 0 else none
  | _ => none
def keyOf (t : TypeId) : Option KC := match eqOf P t with
  | some c => some (.one c)
  | none => (structEq P t).map .agg
/-- The kinds of numbers that may be compared. -/
def intTypes : List Nat := (List.range P.types.size).filter fun t => match P.underlying t, P.info? t with
  | some (.int _), some i => i.comparable
  | _, _ => false
def isConst : Operand → Bool
  | .const _ => true
  | _ => false
def cEq (neg : Bool) (t : TypeId) (x y : Operand) (a b : Opd) : Option PK :=
  match P.underlying t with
  | some (.int _) | some .string => some (.bin (if neg then .neq else .eql) a b)
  | some .bool => some (.eq .bool neg a b)
  | some (.pointer e) => match szOf P e with | some s => if s = 0 then none else some (.eq .ptr neg a b) | none => none
  | some (.slice _) => some (.eq .sl neg a b)
  | some (.map _ _) => some (.eq .map neg a b)
  | some (.func _ _ _) => some (.eq .fn neg a b)
  | some (.interface _) => if isConst x || isConst y then some (.eq .iface neg a b) else some (.eqIf (intTypes P) neg a b)
  | some (.struct _) => (structEq P t).map fun cs => .eqAgg cs neg a b
  | _ => none
def cParts (place : Nat → Option (Nat × Nat)) : List (Nat × Operand) → Option (List (Nat × Nat × Opd))
  | [] => some []
  | (i, x) :: ps => match place i, cOpd P n x, cParts place ps with
    | some (o, s), some y, some qs => some ((o, s, y) :: qs)
    | _, _, _ => none
def fieldPl (fs : Array Field) (i : Nat) : Option (Nat × Nat) := match fs[i]? with
  | some f => (szOf P f.type).map fun s => (f.offset, s)
  | none => none

/-- The bytes of an element that a length is held against: one, just if the element is a byte. -/
def bytesFor (e : TypeId) (n : Nat) : Nat := if n = 1 then (match P.underlying e with | some (.int .u8) => if P.cellsOf e = 1 then 1 else 2 | _ => 2) else n
def cBuiltin (b : Builtin) (args : List Operand) (ts : List TypeId) : Option Kind :=
  match b, args, ts with
  | .len, [x], t :: _ => match cOpd P n x, P.underlying t with
    | some a, some .string => some (.p (.lenStr a))
    | some a, some (.slice _) => some (.p (.lenSl a))
    | some a, some (.map _ _) => some (.r (.lenMap a))
    | some _, some (.array k _) => some (.p (.lenK k))
    | _, _ => none
  | .min, x :: xs, _ => match cOpd P n x, cOpds P n xs with | some a, some as => some (.p (.mnmx false a as)) | _, _ => none
  | .max, x :: xs, _ => match cOpd P n x, cOpds P n xs with | some a, some as => some (.p (.mnmx true a as)) | _, _ => none
  | .append, [x, y], t :: u :: _ => match cOpd P n x, cOpd P n y, P.underlying t, P.underlying u with
    | some a, some b, some (.slice e), some d => if d matches .int _ then none else match zeroCs P e, P.info? e with | some z, some i => if 0 < i.bytes ∧ i.bytes ≤ 1048576 then some (.h (.app z.length (bytesFor P e i.bytes) a b)) else none | _, _ => none
    | _, _, _, _ => none
  | .unsafeString, [x, y], t :: _ => match cOpd P n x, cOpd P n y, P.underlying t with
    | some a, some b, some (.pointer e) => match P.underlying e with | some (.int .u8) => if P.cellsOf e = 1 then some (.h (.ustr a b)) else none | _ => none
    | _, _, _ => none
  | .unsafeSliceData, [x], _ => (cOpd P n x).map fun a => .p (.dataSl a)
  | .copy, [x, y], t :: _ => match cOpd P n x, cOpd P n y, P.underlying t with
    | some a, some b, some (.slice e) => match szOf P e with | some s => if 0 < s then some (.h (.copy s a b)) else none | none => none
    | _, _, _ => none
  | .delete, [x, y], t :: _ => match cOpd P n x, cOpd P n y, P.underlying t with
    | some a, some b, some (.map k _) => (keyOf P k).map fun kc => .h (.delete kc a b)
    | _, _, _ => none
  | _, _, _ => none

/-- Is a function none of those that the machine goes on behind? -/
def noNext (fn : Func) : Bool := (Extern.allNextRows.lookup fn.name).isNone && (Extern.allNextRows.lookup fn.origin).isNone

def cOp (op : Op) : Option Kind :=
  match op with
  | .move x | .assign x => (cOpd P n x).map fun a => .p (.mv a)
  | .pick c a b => match cOpd P n c, cOpd P n a, cOpd P n b with | some c, some a, some b => some (.p (.pick c a b)) | _, _, _ => none
  | .alloc e => (zeroCs P e).map fun z => .a (if bldT P = some e then .allocW z else .alloc z)
  | .box _ x => (cOpd P n x).map fun a => .a (.box a)
  | .build t ps => match P.underlying t, zeroCs P t with
    | some (.struct fs), some z => if fs.toList.all (fun f => (szOf P f.type).isSome) then (cParts P n (fieldPl P fs) ps.toList).map fun qs => .p (.build z qs) else none
    | some (.array _ e), some z => match szOf P e with
      | some s => (cParts P n (fun i => some (i * s, s)) ps.toList).map fun qs => .p (.build z qs)
      | none => none
    | _, _ => none
  | .buildSlice t len ps => match P.underlying t with
    | some (.slice e) => match zeroCs P e with
      | some z => if len * z.length ≤ 16777216 then (cParts P n (fun i => some (i * z.length, z.length)) ps.toList).map fun qs => .a (.mkSl z z.length len qs) else none
      | none => none
    | _ => none
  | .insert t m k x | .mapUpdate t m k x => match cOpd P n m, cOpd P n k, cOpd P n x, P.underlying t with
    | some m, some k, some x, some (.map kt _) => (keyOf P kt).map fun kc => .h (.mapUpd kc m k x)
    | _, _, _, _ => none
  | .load t x => match cOpd P n x, szA P t with | some a, some (s, g) => if 0 < s then some (.r (.load s g a)) else none | _, _ => none
  | .store t x v => match cOpd P n x, cOpd P n v, szOf P t with | some a, some b, some s => some (.h (.store s a b)) | _, _, _ => none
  | .nilCheck x => (cOpd P n x).map fun a => .p (.nilchk a)
  | .binOp op t x y _ => match cOpd P n x, cOpd P n y with
    | some a, some b => match op with
      | .eql => (cEq P false t x y a b).map .p
      | .neq => (cEq P true t x y a b).map .p
      | _ => some (.p (.bin op a b))
    | _, _ => none
  | .unOp op _ x => (cOpd P n x).map fun a => .p (.un op a)
  | .convert s d x => match cOpd P n x, P.underlying s, P.underlying d with
    | some a, some (.int _), some (.int k) => some (.p (.convInt k a))
    | some a, some .string, some .string => some (.p (.convStr a))
    | some a, some (.slice e), some .string => match P.underlying e with | some (.int .u8) => some (.r (.toStr a)) | _ => none
    | some a, some .string, some (.slice e) => match P.underlying e with | some (.int .u8) => some (.a (.toBytes a)) | _ => none
    | some a, some (.pointer t), some .unsafePointer => if bldT P = some t then some (.r (.uns a)) else none
    | some a, some .unsafePointer, some (.pointer t) => if bldT P = some t then some (.r (.uns a)) else none
    | _, _, _ => none
  | .makeInterface t x => match cOpd P n x, P.underlying t with
    | some _, some (.interface _) => none
    | some a, some _ => some (.p (.mkIf t a))
    | _, _ => none
  | .makeFunc (.func f) a c => match cOpds P n a.toList, cOpds P n c.toList with | some a, some c => some (.p (.mkFn f a c)) | _, _ => none
  | .makeMap _ none => some (.a .mkMap)
  | .makeSlice t l c => match cOpd P n l, cOpd P n c, P.underlying t with
    | some l, some c, some (.slice e) => match zeroCs P e, P.info? e with | some z, some i => if i.bytes ≤ 1048576 then some (.a (.make z z.length (bytesFor P e i.bytes) l c)) else none | _, _ => none
    | _, _, _ => none
  | .slice t x l h none => match cOpd P n x, cOpt P n l, cOpt P n h, P.underlying t with
    | some a, some l, some h, some .string => some (.p (.subStr a l h))
    | some a, some l, some h, some (.slice e) => match szOf P e with | some s => if 0 < s then some (.p (.subSl s a l h)) else none | none => none
    | some a, some l, some h, some (.array k e) => match szOf P e with | some s => if 0 < s then some (.r (.slArr k s a l h)) else none | none => none
    | _, _, _, _ => none
  | .fieldAddr t x f => match cOpd P n x, P.underlying t with
    | some a, some (.struct fs) => match fs[f]? with
      | some f => match szOf P f.type with | some s => if s = 0 then none else some (.p (.fieldAt f.offset a)) | none => none
      | none => none
    | _, _ => none
  | .field t x f => match cOpd P n x, P.underlying t with
    | some a, some (.struct fs) => match fs[f]? with
      | some f => match szA P f.type with | some (s, g) => some (.p (.field f.offset s g a)) | none => none
      | none => none
    | _, _ => none
  | .indexAddr t x i => match cOpd P n x, cOpd P n i, P.underlying t with
    | some a, some b, some (.slice e) => match szOf P e with | some s => some (.p (.idxSl s a b)) | none => none
    | some a, some b, some (.array k e) => match szOf P e with | some s => some (.p (.idxArr k s a b)) | none => none
    | _, _, _ => none
  | .index t x i => match cOpd P n x, cOpd P n i, P.underlying t with
    | some a, some b, some .string => some (.p (.idxStr a b))
    | some a, some b, some (.array k e) => match szA P e with | some (s, g) => some (.p (.idxAgg k s g a b)) | none => none
    | _, _, _ => none
  | .lookup t m k ok => match cOpd P n m, cOpd P n k, P.underlying t with
    | some m, some k, some (.map kt e) => match keyOf P kt, zeroT P e with | some kc, some z => some (.r (.lookup kc z ok m k)) | _, _ => none
    | _, _, _ => none
  | .mapEntry t m k => match cOpd P n m, cOpd P n k, P.underlying t with
    | some m, some k, some (.map kt e) => match keyOf P kt, zeroT P e with | some kc, some z => some (.h (.mapEntry kc z m k)) | _, _ => none
    | _, _, _ => none
  | .entryStore _ m s v => match cOpd P n m, cOpd P n s, cOpd P n v with | some m, some s, some v => some (.h (.entryStore m s v)) | _, _, _ => none
  | .range t x => match cOpd P n x, P.underlying t with
    | some a, some (.map _ _) => some (.h (.range a))
    | some a, some .string => some (.h (.rangeStr a))
    | _, _ => none
  | .next it s => (cOpd P n it).map fun a => if s then .h (.nextStr a) else .h (.next a)
  | .entry it => (cOpd P n it).map fun a => .r (.entry a)
  | .typeAssert x _ t false => match cOpd P n x, P.underlying t with
    | some _, some (.interface _) => none
    | some a, some _ => some (.p (.unwrap t a))
    | _, _ => none
  | .extract x i => (cOpd P n x).map fun a => .p (.ext a i)
  | .call c => match c.callee with
    | .builtin b => cBuiltin P n b c.args.toList c.argTypes.toList
    | .value (.func f) => match P.funcs[f]? with
      | some fn => if fn.body.isNone ∧ fn.name = "maps.clone" ∧ noNext fn then match c.args.toList with | [x] => (cOpd P n x).map fun a => .h (.clone a) | _ => none
        else if fn.body.isNone ∧ fn.name = "internal/bytealg.IndexByteString" ∧ noNext fn then match c.args.toList with
          | [x, y] => match cOpd P n x, cOpd P n y with | some a, some b => some (.p (.idxByte a b)) | _, _ => none
          | _ => none
        else if fn.body.isNone ∧ fn.name = "internal/abi.NoEscape" ∧ noNext fn then match c.args.toList with | [x] => (cOpd P n x).map fun a => .p (.mv a) | _ => none
        else if fn.body.isNone ∧ fn.name = "internal/bytealg.IndexString" ∧ noNext fn then match c.args.toList with
          | [x, y] => match cOpd P n x, cOpd P n y, maxLenG P with | some a, some b, some g => if g < P.globals.size then some (.r (.idxSub g a b)) else none | _, _, _ => none
          | _ => none
        else (cOpds P n c.args.toList).map fun as => .h (.call (.c (.fn f [] [])) as)
      | none => none
    | .value f => match cOpd P n f, cOpds P n c.args.toList with | some f, some as => some (.h (.call f as)) | _, _ => none
    | _ => none
  | .defer c => match c.callee with
    | .value f => match cOpd P n f, cOpds P n c.args.toList with | some f, some as => some (.h (.dfr f as)) | _, _ => none
    | _ => none
  | _ => none

/-! ### Regions -/
/-- The guard's temporary. -/
def cGuard (ops : Array Oper) : Option (Nat × Bool) → Option (Option (Nat × Bool))
  | none => some none
  | some (j, b) => match (ops[j]?).bind (·.dst) with | some d => if d < n then some (some (d, b)) else none | none => none
def cDst : Option Tmp → Bool
  | none => true
  | some d => decide (d < n)
/-- What is not taken: whoever comes there is told nothing. -/
def stuckK : Kind := .p (.ext (.c .undef) 0)
def stuckC : IC := .cond (.c .undef) .skip .skip
def cOper (ops : Array Oper) (o : Oper) : Option IOp :=
  match cGuard n ops o.guard with
  | some g => if cDst n o.dst then some { dst := o.dst, guard := g, k := (cOp P n o.op).getD stuckK } else none
  | none => none
def cOpers (ops : Array Oper) : List Oper → Option (List IOp)
  | [] => some []
  | o :: os => match cOper P n ops o, cOpers ops os with | some x, some xs => some (x :: xs) | _, _ => none

/-- Which operations must be ahead of each (as bits), by the edges that always bind. -/
def maskOf (M : List Nat) (o : Oper) : Nat := o.after.toList.foldl (fun s e => if Region.binds .any e then s ||| 2 ^ e.on ||| M.getD e.on 0 else s) 0
def masks : List Oper → List Nat → List Nat
  | [], M => M
  | o :: os, M => masks os (M ++ [maskOf M o])
def Kind.heavy : Kind → Bool
  | .h _ => true
  | _ => false
def Kind.read : Kind → Bool
  | .r _ => true
  | _ => false
def Kind.makes : Kind → Bool
  | .a _ => true
  | _ => false
def oo : Option Opd → List Opd
  | some x => [x]
  | none => []
def PK.opds : PK → List Opd
  | .mv x | .un _ x | .convInt _ x | .convStr x | .field _ _ _ x | .fieldAt _ x | .ext x _ | .mkIf _ x | .nilchk x | .lenStr x | .lenSl x | .unwrap _ x | .byteStr _ x | .dataSl x => [x]
  | .pick c a b => [c, a, b]
  | .idxByte x y | .eqIf _ _ x y | .bin _ x y | .eq _ _ x y | .eqAgg _ _ x y | .idxStr x y | .idxAgg _ _ _ x y | .idxSl _ x y | .idxArr _ _ x y => [x, y]
  | .subStr x l h | .subSl _ x l h => x :: (oo l ++ oo h)
  | .mkFn _ a c => a ++ c
  | .build _ ps => ps.map fun p => p.2.2
  | .lenK _ => []
  | .mnmx _ x xs => x :: xs
def RK.opds : RK → List Opd
  | .load _ _ x | .lenMap x | .toStr x | .entry x | .uns x => [x]
  | .idxSub _ x y => [x, y]
  | .lookup _ _ _ m k => [m, k]
  | .slArr _ _ x l h => x :: (oo l ++ oo h)
def AK.opds : AK → List Opd
  | .alloc _ | .allocW _ | .mkMap => []
  | .box x | .toBytes x => [x]
  | .mkSl _ _ _ ps => ps.map fun p => p.2.2
  | .make _ _ _ l c => [l, c]
def HK.opds : HK → List Opd
  | .store _ x y | .ustr x y | .app _ _ x y | .copy _ x y | .delete _ x y => [x, y]
  | .call g as | .dfr g as => g :: as
  | .mapUpd _ m k v | .entryStore m k v => [m, k, v]
  | .mapEntry _ _ m k => [m, k]
  | .range x | .next x | .rangeStr x | .nextStr x | .clone x => [x]
def Kind.opds : Kind → List Opd
  | .p k => k.opds
  | .r k => k.opds
  | .a k => k.opds
  | .h k => k.opds
def tmpOf : Opd → Option Nat
  | .tmp t => some t
  | _ => none
def IOp.looks (o : IOp) : List Nat := o.k.opds.filterMap tmpOf ++ (match o.guard with | some (j, _) => [j] | none => [])
/-- Do two operations use no temporary in common, but for looking at it? -/
def IOp.apart (x y : IOp) : Bool :=
  (match x.dst with | some d => !y.looks.contains d && y.dst != some d | none => true) &&
  (match y.dst with | some d => !x.looks.contains d | none => true)
/-- May y, which stands behind x, be done ahead of x? -/
def IOp.swaps (x y : IOp) : Bool :=
  !x.k.heavy && x.apart y && (!y.k.heavy || (!x.k.makes && (!x.k.read || y.watch.contains x.id)))
/-- A call of a fixed function. -/
def Kind.plainCall : Kind → Bool
  | .h (.call (.c (.fn _ [] [])) _) => true
  | _ => false
def Kind.light : Kind → Bool
  | .p _ | .a _ => true
  | _ => false
/-- May y, which stands behind the call x, be done ahead of it? -/
def IOp.lets (x y : IOp) : Bool := x.k.plainCall && x.apart y && y.k.light
def ordered (M : List Nat) (x y : Nat) : Bool := (M.getD y 0).testBit x
def pairsOk (M : List Nat) : List IOp → Bool
  | [] => true
  | x :: l => l.all (fun y => !ordered M y.id x.id && (ordered M x.id y.id || (x.swaps y || x.lets y))) && pairsOk M l
/-- Is r kept behind the call y, for what it hangs on is made beside it? -/
def held (M : List Nat) (l : List IOp) (y r : IOp) : Bool := y.k.plainCall && l.any fun a => a.k.makes && !ordered M a.id y.id && (a.id == r.id || ordered M a.id r.id)
/-- The order in which a region of open order is told: ahead of each heavy operation whatever need not be behind it. -/
def plan (M : List Nat) (l : List IOp) : List IOp → List Nat → List Nat
  | [], done => done ++ (l.map (·.id)).filter fun i => !done.contains i
  | y :: hs, done => plan M l hs (done ++ ((l.filter fun r => !r.k.heavy && !(M.getD r.id 0).testBit y.id && !done.contains r.id && !held M l y r).map (·.id)) ++ [y.id])
def watched (M : List Nat) (l : List IOp) (o : IOp) : IOp :=
  if o.k.heavy then { o with watch := (l.filter fun r => r.k.read && !ordered M r.id o.id && !ordered M o.id r.id).map (·.id) } else o
def numbered : List IOp → Nat → List IOp
  | [], _ => []
  | o :: l, i => { o with id := i } :: numbered l (i + 1)
def edgesOk : List Oper → Nat → Bool
  | [], _ => true
  | o :: l, i => o.after.toList.all (fun e => !Region.binds .any e || decide (e.on < i)) && edgesOk l (i + 1)
def nodup : List Nat → Bool
  | [] => true
  | x :: l => !l.contains x && nodup l
def cDraw (ops : Array Oper) : Option (List IOp) :=
  match cOpers P n ops ops.toList with
  | none => none
  | some l0 =>
    let M := masks ops.toList []
    let l := (numbered l0 0).map (watched M (numbered l0 0))
    let order := plan M l (l.filter (·.k.heavy)) []
    let told := order.filterMap fun i => l[i]?
    if edgesOk ops.toList 0 && nodup order && (List.range l.length).all order.contains && decide (order.length ≤ l.length) && order.all (fun i => decide (i < l.length)) && pairsOk M told then some told else none

/-! string([]byte{c}): told without its block, where nothing else looks at it. -/
def findMk : List IOp → Nat → Nat → Option (Nat × Opd)
  | [], _, _ => none
  | o :: l, t, s => match o.k with
    | .a (.mkSl [.int .u8 0] 1 1 [(0, 1, x)]) => if o.dst = some t then some (s, x) else findMk l t (s + 1)
    | _ => findMk l t (s + 1)
def findTx (all : List IOp) : List IOp → Nat → Option (Nat × Nat × Nat × Opd)
  | [], _ => none
  | o :: l, s => match o.k with
    | .r (.toStr (.tmp t)) => match findMk all t 0 with | some (j, x) => some (s, j, t, x) | none => findTx all l (s + 1)
    | _ => findTx all l (s + 1)
def fuseOk (M : List Nat) (i j t : Nat) (x : Opd) (g : Option (Nat × Bool)) (io : IOp) : Bool :=
  !io.looks.contains t && (io.id == j || (io.dst != some t && (ordered M io.id j || (match io.dst with | none => true | some d => tmpOf x != some d && (match g with | some (y, _) => y != d | none => true)))))
def cFuse (ops : Array Oper) : Option (List IOp) :=
  match cOpers P n ops ops.toList with
  | none => none
  | some l0 => match findTx l0 l0 0 with
    | none => none
    | some (i, j, t, x) => match l0[i]?, l0[j]? with
      | some oi, some oj =>
        let M := masks ops.toList []
        let l1 := (l0.set j { oj with k := .p (.byteStr false x) }).set i { oi with k := .p (.byteStr true x) }
        let l := (numbered l1 0).map (watched M (numbered l1 0))
        let order := plan M l (l.filter (·.k.heavy)) []
        let told := order.filterMap fun i => l[i]?
        if edgesOk ops.toList 0 && nodup order && (List.range l.length).all order.contains && decide (order.length ≤ l.length) && order.all (fun i => decide (i < l.length)) && pairsOk M told &&
          i != j && oi.guard == oj.guard && ordered M j i && told.all (fuseOk M i j t x oj.guard) then some told else none
      | _, _ => none

/-- How a region of open order is told. -/
def cAny (ops : Array Oper) : Option (List IOp) :=
  match cDraw P n ops with
  | some l => some l
  | none => cFuse P n ops

def hasDfr : List IOp → Bool
  | [] => false
  | o :: l => (match o.k with | .h (.dfr _ _) => true | _ => false) || hasDfr l
/-- Does a piece of code defer a call, or range over a function? -/
def IC.defers : IC → Bool
  | .ops l | .draw l => hasDfr l
  | .seq a b | .cond _ a b => a.defers || b.defers
  | .block _ c | .loop c => c.defers
  | .rangeFn _ _ _ _ => true
  | _ => false

def comp : Code → Option IC
  | .skip => some .skip
  | .region _ ops false => some (match cOpers P n ops ops.toList with | some l => .ops l | none => stuckC)
  | .region _ ops true => some (match cAny P n ops with | some l => .draw l | none => stuckC)
  | .seq a b => match comp a, comp b with | some x, some y => some (.seq x y) | _, _ => none
  | .cond c a b => match cOpd P n c, comp a, comp b with | some c, some x, some y => some (.cond c x y) | none, _, _ => some stuckC | _, _, _ => none
  | .block id c => (comp c).map (.block id)
  | .loop c => (comp c).map .loop
  | .rangeFunc f ps a b => match cOpd P n f, comp a, comp b with
    | some f, some x, some y => if x.defers = false ∧ y.defers = false ∧ ps.toList.all (fun p => decide (p < n)) then some (.rangeFn f ps.toList x y) else some stuckC
    | _, _, _ => some stuckC
  | .exit id => some (.exit id)
  | .ret => some .ret
  | .scope c => comp c
  | .label _ => some .skip
  | _ => some stuckC

def cRes : List ResultVar → Option (List Res)
  | [] => some []
  | .tmp t :: rs => match cRes rs with | some l => if t < n then some (.tmp t :: l) else none | none => none
  | .cell t ty :: rs => match cRes rs, szA P ty with | some l, some (s, g) => if t < n ∧ 0 < s then some (.cell t s g :: l) else none | _, _ => none
end

def compF (P : Program) (f : Func) : Option Fn :=
  match f.body with
  | none => none
  | some c => match comp P f.ntmps c, cRes P f.ntmps f.results.toList with
    | some b, some r => some { n := f.ntmps, res := r, body := b }
    | _, _ => none
end Mir
