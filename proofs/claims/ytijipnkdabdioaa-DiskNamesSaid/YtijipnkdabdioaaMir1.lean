/- The mirror, part 1: values, memory and code without addresses, capacities and orders; what a piece of code comes to, said as a predicate. No program in sight. -/
import GoSem.Dispatch
namespace Mir
open Go

/-- Values. -/
inductive V where
  | bool (b : Bool)
  | int (k : IntKind) (n : Int)
  | str (s : List UInt8)
  | ptr (b o : Nat)
  | nilptr
  | sl (b o es len : Nat)
  | nilsl
  | map (b : Nat)
  | nilmap
  | fn (f : Nat) (first cap : List V)
  | yield (l : Nat)
  | nilfn
  | iface (t : Nat) (v : V)
  | nilif
  | agg (cs : List V)
  | tup (vs : List V)
  | undef
  /-- Some value of one cell, of which nothing is asked. -/
  | any
  deriving Inhabited

def V.cells : V → List V
  | .agg cs => cs
  | v => [v]
/-- May it be a cell's content? -/
def V.flat : V → Bool
  | .agg _ | .tup _ | .undef => false
  | _ => true
inductive Opd where
  | tmp (t : Nat)
  | c (v : V)
  | glob (g : Nat)

/-- What '==' compares. -/
inductive EqC where
  | int | str | bool | ptr | sl | map | fn | iface
  deriving DecidableEq

/-- The kinds of maps' keys. -/
inductive KC where
  | one (c : EqC)
  | agg (cs : List EqC)

/-- Operations on the temporaries alone. -/
inductive PK where
  | mv (x : Opd)
  | pick (c a b : Opd)
  | bin (op : BinOp) (x y : Opd)
  | eq (c : EqC) (neg : Bool) (x y : Opd)
  | eqAgg (cs : List EqC) (neg : Bool) (x y : Opd)
  | un (op : UnOp) (x : Opd)
  | convInt (k : IntKind) (x : Opd)
  | convStr (x : Opd)
  | subStr (x : Opd) (l h : Option Opd)
  | subSl (es : Nat) (x : Opd) (l h : Option Opd)
  | idxStr (x i : Opd)
  | idxAgg (len es : Nat) (agg : Bool) (x i : Opd)
  | field (off n : Nat) (agg : Bool) (x : Opd)
  | fieldAt (off : Nat) (x : Opd)
  | idxSl (es : Nat) (x i : Opd)
  | idxArr (len es : Nat) (x i : Opd)
  | ext (x : Opd) (i : Nat)
  | mkIf (t : Nat) (x : Opd)
  | mkFn (f : Nat) (first cap : List Opd)
  | build (zero : List V) (parts : List (Nat × Nat × Opd))
  | nilchk (x : Opd)
  | lenStr (x : Opd)
  | lenSl (x : Opd)
  | lenK (n : Nat)
  | mnmx (mx : Bool) (x : Opd) (xs : List Opd)
  | unwrap (t : Nat) (x : Opd)
  | eqIf (ok : List Nat) (neg : Bool) (x y : Opd)
  /-- A byte, checked, or as a text (string([]byte{c}), told without its block). -/
  | byteStr (txt : Bool) (x : Opd)

/-- Operations that read memory. -/
inductive RK where
  | load (n : Nat) (agg : Bool) (x : Opd)
  | lookup (kc : KC) (zero : V) (ok : Bool) (m k : Opd)
  | lenMap (m : Opd)
  | toStr (x : Opd)
  | entry (it : Opd)
  | slArr (len es : Nat) (x : Opd) (l h : Option Opd)

/-- Operations that make memory. -/
inductive AK where
  | alloc (zero : List V)
  | box (x : Opd)
  | mkSl (zero : List V) (es len : Nat) (parts : List (Nat × Nat × Opd))
  | mkMap
  | make (zero : List V) (es bytes : Nat) (l c : Opd)
  | toBytes (x : Opd)

/-- All others. -/
inductive HK where
  | store (n : Nat) (x v : Opd)
  | call (f : Opd) (args : List Opd)
  | app (es bytes : Nat) (x y : Opd)
  | copy (es : Nat) (x y : Opd)
  | mapUpd (kc : KC) (m k v : Opd)
  | mapEntry (kc : KC) (zero : V) (m k : Opd)
  | entryStore (m s v : Opd)
  | delete (kc : KC) (m k : Opd)
  | range (m : Opd)
  | next (it : Opd)
  | rangeStr (s : Opd)
  | nextStr (it : Opd)
  | clone (x : Opd)
  | dfr (f : Opd) (args : List Opd)

inductive Kind where
  | p (k : PK)
  | r (k : RK)
  | a (k : AK)
  | h (k : HK)

/-- One operation: where its value goes; its guard (a temporary and what it must hold); the operation; (in a region whose order is open) its number, and the reads that must still hold behind it. -/
structure IOp where
  dst : Option Nat
  guard : Option (Nat × Bool)
  k : Kind
  id : Nat := 0
  watch : List Nat := []

inductive IC where
  | skip
  | ops (l : List IOp)
  | draw (l : List IOp)
  | seq (a b : IC)
  | cond (x : Opd) (a b : IC)
  | block (id : Nat) (c : IC)
  | loop (c : IC)
  | rangeFn (f : Opd) (params : List Nat) (assign body : IC)
  | exit (id : Nat)
  | ret

/-- How code is left. -/
inductive Ex where
  | nm
  | exit (id : Nat)
  | ret
  deriving DecidableEq

inductive LSt where
  | ready | busy | done
  deriving DecidableEq

abbrev Tm := Nat → V

/-- What lies in memory. -/
inductive AObj where
  | cells (cs : List V) (ro : Bool)
  | map (es : List (V × V × Nat)) (clock : Nat)
  | iter (m : Option Nat) (since : Nat) (seen : List Nat) (stepped : Nat)
  | sit (s : List UInt8) (pos : Nat)
  | loop (t : Tm) (params : List Nat) (assign body : IC) (st : LSt) (pend : Option Ex)

abbrev H := Nat → Option AObj
def hset (h : H) (b : Nat) (o : Option AObj) : H := fun i => if i = b then o else h i
abbrev hadd (h : H) (b : Nat) (o : AObj) : H := hset h b (some o)
def upd (t : Tm) (d : Nat) (v : V) : Tm := fun i => if i = d then v else t i
def put (t : Tm) (d : Option Nat) (v : V) : Tm :=
  match d with
  | some d => upd t d v
  | none => t

/-- An activation: its temporaries, its deferred calls. -/
structure A where
  t : Tm
  d : List (V × List V)

def Opd.ev (t : Tm) : Opd → V
  | .tmp i => t i
  | .c v => v
  | .glob g => .ptr g 0

/-! ### What the operations give -/
def evBin (op : BinOp) (x y : V) : Option V :=
  match x, y with
  | .int k a, .int k' b =>
    match op with
    | .shl => if b < 0 then none else some (.int k (k.wrap (a * 2 ^ (min b.toNat k.bits))))
    | .shr => if b < 0 then none else some (.int k (a.fdiv (2 ^ (min b.toNat k.bits))))
    | .add => if k = k' then some (.int k (k.wrap (a + b))) else none
    | .sub => if k = k' then some (.int k (k.wrap (a - b))) else none
    | .mul => if k = k' then some (.int k (k.wrap (a * b))) else none
    | .quo => if k = k' then if b = 0 then none else some (.int k (k.wrap (a.tdiv b))) else none
    | .rem => if k = k' then if b = 0 then none else some (.int k (a.tmod b)) else none
    | .and => if k = k' then some (.int k (k.wrap ((BitVec.ofInt k.bits a &&& BitVec.ofInt k.bits b).toNat))) else none
    | .or => if k = k' then some (.int k (k.wrap ((BitVec.ofInt k.bits a ||| BitVec.ofInt k.bits b).toNat))) else none
    | .xor => if k = k' then some (.int k (k.wrap ((BitVec.ofInt k.bits a ^^^ BitVec.ofInt k.bits b).toNat))) else none
    | .andNot => if k = k' then some (.int k (k.wrap ((BitVec.ofInt k.bits a &&& ~~~ BitVec.ofInt k.bits b).toNat))) else none
    | .eql => if k = k' then some (.bool (a == b)) else none
    | .neq => if k = k' then some (.bool (a != b)) else none
    | .lss => if k = k' then some (.bool (decide (a < b))) else none
    | .leq => if k = k' then some (.bool (decide (a ≤ b))) else none
    | .gtr => if k = k' then some (.bool (decide (b < a))) else none
    | .geq => if k = k' then some (.bool (decide (b ≤ a))) else none
  | .str a, .str b =>
    match op with
    | .add => if a.length + b.length < 4611686018427387904 then some (.str (a ++ b)) else none
    | .eql => some (.bool (a == b))
    | .neq => some (.bool !(a == b))
    | .lss => some (.bool (Op.bytesLess a b))
    | .leq => some (.bool (Op.bytesLess a b || a == b))
    | .gtr => some (.bool !(Op.bytesLess a b || a == b))
    | .geq => some (.bool !(Op.bytesLess a b))
    | _ => none
  | _, _ => none

def evEq : EqC → V → V → Option Bool
  | .int, .int k a, .int k' b => if k = k' then some (a == b) else none
  | .str, .str a, .str b => some (a == b)
  | .bool, .bool a, .bool b => some (a == b)
  | .ptr, .nilptr, .nilptr => some true
  | .ptr, .nilptr, .ptr _ _ => some false
  | .ptr, .ptr _ _, .nilptr => some false
  | .ptr, .ptr b o, .ptr b' o' => if b = b' then some (o == o') else none
  | .sl, .nilsl, .nilsl => some true
  | .sl, .nilsl, .sl .. => some false
  | .sl, .sl .., .nilsl => some false
  | .map, .nilmap, .nilmap => some true
  | .map, .nilmap, .map _ => some false
  | .map, .map _, .nilmap => some false
  | .fn, .nilfn, .nilfn => some true
  | .fn, .nilfn, .fn .. => some false
  | .fn, .fn .., .nilfn => some false
  | .iface, .nilif, .nilif => some true
  | .iface, .nilif, .iface .. => some false
  | .iface, .iface .., .nilif => some false
  | _, _, _ => none
def evEqs : List EqC → List V → List V → Option Bool
  | [], [], [] => some true
  | c :: cs, x :: xs, y :: ys =>
    match evEq c x y with
    | some true => evEqs cs xs ys
    | some false => some false
    | none => none
  | _, _, _ => none

/-- Two interfaces, not both nil; of what is told of numbers alone, if the kinds are the same. -/
def evIf (ok : List Nat) : V → V → Option Bool
  | .nilif, .iface .. => some false
  | .iface .., .nilif => some false
  | .iface t (.int k a), .iface t' (.int k' b) => if t = t' then (if k = k' ∧ t ∈ ok then some (a == b) else none) else some false
  | _, _ => none

/-- A part of an aggregate. -/
def partOf (off n : Nat) (agg : Bool) (cs : List V) : Option V :=
  if agg then (if off + n ≤ cs.length then some (.agg ((cs.drop off).take n)) else none)
  else cs[off]?
/-- Parts laid into cells. -/
def fillIn (ρ : Opd → V) : List V → List (Nat × Nat × Opd) → Option (List V)
  | cs, [] => some cs
  | cs, (off, n, x) :: rest =>
    let p := (ρ x).cells
    if p.length = n ∧ off + n ≤ cs.length ∧ p.all V.flat then fillIn ρ (cs.take off ++ p ++ cs.drop (off + n)) rest else none
/-- Bounds of a slice expression. -/
def evBounds (ρ : Opd → V) (len : Nat) (l h : Option Opd) : Option (Nat × Nat) :=
  match (match h with | none => some len | some y => match ρ y with | .int _ j => if 0 ≤ j ∧ j ≤ len then some j.toNat else none | _ => none) with
  | none => none
  | some j =>
    match l with
    | none => some (0, j)
    | some x => match ρ x with | .int _ i => if 0 ≤ i ∧ i ≤ j then some (i.toNat, j) else none | _ => none

def evMm (mx : Bool) : V → V → Option V
  | .int k a, .int k' b => if k = k' then some (.int k (if mx then (if a < b then b else a) else (if b < a then b else a))) else none
  | _, _ => none
def evMms (mx : Bool) : V → List V → Option V
  | v, [] => some v
  | v, x :: xs => match evMm mx v x with | some w => evMms mx w xs | none => none

def PK.ev (ρ : Opd → V) : PK → Option V
  | .mv x => some (ρ x)
  | .pick c a b => match ρ c with | .bool c => some (if c then ρ a else ρ b) | _ => none
  | .bin op x y => evBin op (ρ x) (ρ y)
  | .eq c neg x y => (evEq c (ρ x) (ρ y)).map fun b => .bool (if neg then !b else b)
  | .eqAgg cs neg x y => match ρ x, ρ y with | .agg xs, .agg ys => (evEqs cs xs ys).map fun b => .bool (if neg then !b else b) | _, _ => none
  | .un op x => match op, ρ x with | .neg, .int k n => some (.int k (k.wrap (0 - n))) | .not, .bool b => some (.bool !b) | _, _ => none
  | .convInt k x => match ρ x with | .int _ n => some (.int k (k.wrap n)) | _ => none
  | .convStr x => match ρ x with | .str s => some (.str s) | _ => none
  | .subStr x l h => match ρ x with | .str s => (evBounds ρ s.length l h).map fun (i, j) => .str ((s.take j).drop i) | _ => none
  | .subSl es x l h =>
    match ρ x with
    | .sl b o es' n => if es = es' then (evBounds ρ n l h).map fun (i, j) => .sl b (o + i * es) es (j - i) else none
    | .nilsl => (evBounds ρ 0 l h).map fun _ => .nilsl
    | _ => none
  | .idxStr x i => match ρ x, ρ i with | .str s, .int _ n => if 0 ≤ n then (s[n.toNat]?).map fun c => .int .u8 c.toNat else none | _, _ => none
  | .idxAgg len es agg x i => match ρ x, ρ i with | .agg cs, .int _ n => if 0 ≤ n ∧ n < len then partOf (n.toNat * es) es agg cs else none | _, _ => none
  | .field off n agg x => match ρ x with | .agg cs => partOf off n agg cs | _ => none
  | .fieldAt off x => match ρ x with | .ptr b o => some (.ptr b (o + off)) | _ => none
  | .idxSl es x i => match ρ x, ρ i with | .sl b o es' n, .int _ j => if es = es' ∧ 0 ≤ j ∧ j < n then some (.ptr b (o + j.toNat * es)) else none | _, _ => none
  | .idxArr len es x i => match ρ x, ρ i with | .ptr b o, .int _ j => if 0 ≤ j ∧ j < len then some (.ptr b (o + j.toNat * es)) else none | _, _ => none
  | .ext x i => match ρ x with | .tup vs => vs[i]? | _ => none
  | .byteStr txt x => match ρ x with | .int .u8 n => some (if txt then .str [UInt8.ofNat n.toNat] else .undef) | _ => none
  | .mkIf t x => some (.iface t (ρ x))
  | .mkFn f first cap => some (.fn f (first.map ρ) (cap.map ρ))
  | .build zero parts => (fillIn ρ zero parts).map .agg
  | .nilchk x => match ρ x with | .nilptr | .nilif | .nilfn | .undef | .any => none | .fn f a b => some (.fn f a b) | v => some v
  | .lenStr x => match ρ x with | .str s => some (.int .i64 s.length) | _ => none
  | .lenSl x => match ρ x with | .sl _ _ _ n => some (.int .i64 n) | .nilsl => some (.int .i64 0) | _ => none
  | .lenK n => some (.int .i64 n)
  | .mnmx mx x xs => evMms mx (ρ x) (xs.map ρ)
  | .unwrap t x => match ρ x with | .iface t' v => if t = t' then some v else none | _ => none
  | .eqIf ok neg x y => (evIf ok (ρ x) (ρ y)).map fun b => .bool (if neg then !b else b)

/-! Maps, entry by entry. -/
def keyEq : KC → V → V → Option Bool
  | .one c, x, y => evEq c x y
  | .agg cs, .agg xs, .agg ys => evEqs cs xs ys
  | _, _, _ => none
abbrev Ents := List (V × V × Nat)
def findK (kc : KC) (k : V) : Ents → Option (Option (V × Nat))
  | [] => some none
  | e :: es => match keyEq kc k e.1 with
    | some true => some (some (e.2.1, e.2.2))
    | some false => findK kc k es
    | none => none
def setK (kc : KC) (k v : V) : Ents → Ents
  | [] => []
  | e :: es => if keyEq kc k e.1 = some true then (k, v, e.2.2) :: es else e :: setK kc k v es
def delK (kc : KC) (k : V) : Ents → Ents
  | [] => []
  | e :: es => if keyEq kc k e.1 = some true then es else e :: delK kc k es
def setBorn (n : Nat) (v : V) : Ents → Ents
  | [] => []
  | e :: es => if e.2.2 = n then (e.1, v, e.2.2) :: es else e :: setBorn n v es
def findBorn (n : Nat) : Ents → Option (V × V)
  | [] => none
  | e :: es => if e.2.2 = n then some (e.1, e.2.1) else findBorn n es

/-- Bytes as a text. -/
def bytesOf : List V → Option (List UInt8)
  | [] => some []
  | .int .u8 n :: vs => match bytesOf vs with | some s => some (UInt8.ofNat n.toNat :: s) | none => none
  | _ => none

def RK.ev (ρ : Opd → V) (h : H) : RK → Option V
  | .load n agg x =>
    match ρ x with
    | .ptr b o => match h b with
      | some (.cells cs _) => partOf o n agg cs
      | _ => none
    | _ => none
  | .lookup kc zero ok m k =>
    if keyEq kc (ρ k) (ρ k) = some true then
      match ρ m with
      | .nilmap => some (if ok then .tup [zero, .bool false] else zero)
      | .map b => match h b with
        | some (.map es _) =>
          match findK kc (ρ k) es with
          | some (some (v, _)) => some (if ok then .tup [v, .bool true] else v)
          | some none => some (if ok then .tup [zero, .bool false] else zero)
          | none => none
        | _ => none
      | _ => none
    else none
  | .lenMap m =>
    match ρ m with
    | .nilmap => some (.int .i64 0)
    | .map b => match h b with
      | some (.map es _) => some (.int .i64 es.length)
      | _ => none
    | _ => none
  | .toStr x =>
    match ρ x with
    | .nilsl => some (.str [])
    | .sl b o es n => match h b with
      | some (.cells cs _) => if es = 1 ∧ o + n ≤ cs.length then (bytesOf ((cs.drop o).take n)).map .str else none
      | _ => none
    | _ => none
  | .entry it =>
    match ρ it with
    | .ptr i 0 => match h i with
      | some (.iter (some m) _ seen stepped) => match h m with
        | some (.map es clock) =>
          match seen.getLast? with
          | some n => if clock = stepped then (findBorn n es).map fun (k, v) => .tup [k, v] else none
          | none => none
        | _ => none
      | _ => none
    | _ => none
  | .slArr len es x l h' =>
    match ρ x with
    | .ptr b o => match h b with
      | some (.cells cs _) => if o + len * es ≤ cs.length then (evBounds ρ len l h').map fun (i, j) => .sl b (o + i * es) es (j - i) else none
      | _ => none
    | _ => none

/-- Cells of n elements that are zero. -/
def zeros (zero : List V) (n : Nat) : List V := (List.replicate n zero).flatten
def bytesIn (s : List UInt8) : List V := s.map fun c => .int .u8 c.toNat

def AK.ev (ρ : Opd → V) : AK → Option (AObj × (Nat → V))
  | .alloc zero => some (.cells zero false, fun b => .ptr b 0)
  | .box x => if (ρ x).cells.all V.flat then some (.cells (ρ x).cells false, fun b => .ptr b 0) else none
  | .mkSl zero es len parts => (fillIn ρ (zeros zero len) parts).map fun cs => (.cells cs false, fun b => .sl b 0 es len)
  | .mkMap => some (.map [] 0, fun b => .map b)
  | .make zero es bytes l c =>
    match ρ l, ρ c with
    | .int .i64 n, .int .i64 m => if 0 ≤ n ∧ n ≤ m ∧ m * bytes ≤ 1099511627776 ∧ m ≤ 1099511627776 then some (.cells (zeros zero m.toNat) false, fun b => .sl b 0 es n.toNat) else none
    | _, _ => none
  | .toBytes x => match ρ x with | .str s => some (.cells (bytesIn s) false, fun b => .sl b 0 1 s.length) | _ => none

/-- What is called. -/
inductive Callee where
  | fn (f : Nat)
  | round (l : Nat)
abbrev CP := Callee → List V → H → (V → H → Prop) → Prop

/-- The new cells that an append or a copy takes. -/
def srcCells (es : Nat) (h : H) : V → Option (Nat × List V)
  | .nilsl => some (0, [])
  | .str s => if es = 1 then some (s.length, bytesIn s) else none
  | .sl b o es' n => match h b with
    | some (.cells cs _) => if es = es' ∧ o + n * es ≤ cs.length then some (n, (cs.drop o).take (n * es)) else none
    | _ => none
  | _ => none

/-- The entries that may come next. -/
def candidates (es : Ents) (since : Nat) (seen : List Nat) : List (Option (V × V × Nat)) :=
  let left := es.filter fun e => !seen.contains e.2.2
  let old := left.filter fun e => decide (e.2.2 < since)
  let new := left.filter fun e => !decide (e.2.2 < since)
  (if old.isEmpty then [none] else []) ++ (old ++ new).map some

/-- Calling a function's value. -/
def callV (call : CP) (f : V) (args : List V) (h : H) (Q : V → H → Prop) : Prop :=
  match f with
  | .fn f first cap => call (.fn f) (first ++ args ++ cap) h Q
  | .yield l => call (.round l) args h Q
  | _ => False

def HK.E (call : CP) (ρ : Opd → V) (h : H) (Q : V → H → Prop) : HK → Prop
  | .store n x v =>
    match ρ x with
    | .ptr b o => match h b with
      | some (.cells cs false) => (ρ v).cells.length = n ∧ o + n ≤ cs.length ∧ (ρ v).cells.all V.flat = true ∧ Q .undef (hadd h b (.cells (cs.take o ++ (ρ v).cells ++ cs.drop (o + n)) false))
      | _ => False
    | _ => False
  | .call f args => callV call (ρ f) (args.map ρ) h Q
  | .app es bytes x y =>
    match srcCells es h (ρ y) with
    | none => False
    | some (n, new) =>
      match ρ x with
      | .nilsl => if n = 0 then Q .nilsl h else n * bytes ≤ 1099511627776 ∧ n ≤ 1099511627776 ∧ ∀ b', h b' = none → Q (.sl b' 0 es n) (hadd h b' (.cells new false))
      | .sl b o es' len =>
        if n = 0 then es = es' ∧ Q (.sl b o es len) h else
        match h b with
        | some (.cells cs false) => es = es' ∧ o + len * es ≤ cs.length ∧ (len + n) * bytes ≤ 1099511627776 ∧ len + n ≤ 1099511627776 ∧
          ∀ b', b' ≠ b → h b' = none → Q (.sl b' 0 es (len + n)) (hadd (hset h b none) b' (.cells ((cs.drop o).take (len * es) ++ new) false))
        | _ => False
      | _ => False
  | .copy es x y =>
    match srcCells es h (ρ y) with
    | none => False
    | some (n, new) =>
      match ρ x with
      | .nilsl => Q (.int .i64 0) h
      | .sl b o es' len =>
        match h b with
        | some (.cells cs false) => es = es' ∧ o + len * es ≤ cs.length ∧
          Q (.int .i64 (min n len : Nat)) (hadd h b (.cells (cs.take o ++ new.take (min n len * es) ++ cs.drop (o + min n len * es)) false))
        | _ => False
      | _ => False
  | .mapUpd kc m k v =>
    match ρ m with
    | .map b => match h b with
      | some (.map es clock) => keyEq kc (ρ k) (ρ k) = some true ∧
        match findK kc (ρ k) es with
        | some (some _) => Q .undef (hadd h b (.map (setK kc (ρ k) (ρ v) es) clock))
        | some none => Q .undef (hadd h b (.map (es ++ [(ρ k, ρ v, clock)]) (clock + 1)))
        | none => False
      | _ => False
    | _ => False
  | .mapEntry kc zero m k =>
    match ρ m with
    | .map b => match h b with
      | some (.map es clock) => keyEq kc (ρ k) (ρ k) = some true ∧
        match findK kc (ρ k) es with
        | some (some (v, n)) => Q (.tup [v, .int .i64 n]) (hadd h b (.map (setK kc (ρ k) v es) clock))
        | some none => Q (.tup [zero, .int .i64 clock]) (hadd h b (.map (es ++ [(ρ k, zero, clock)]) (clock + 1)))
        | none => False
      | _ => False
    | _ => False
  | .entryStore m s v =>
    match ρ m, ρ s with
    | .map b, .int .i64 n => match h b with
      | some (.map es clock) => 0 ≤ n ∧ (findBorn n.toNat es).isSome = true ∧ Q .undef (hadd h b (.map (setBorn n.toNat (ρ v) es) clock))
      | _ => False
    | _, _ => False
  | .delete kc m k =>
    match ρ m with
    | .map b => match h b with
      | some (.map es clock) => keyEq kc (ρ k) (ρ k) = some true ∧
        match findK kc (ρ k) es with
        | some _ => Q .undef (hadd h b (.map (delK kc (ρ k) es) clock))
        | none => False
      | _ => False
    | _ => False
  | .range m =>
    match ρ m with
    | .nilmap => ∀ b', h b' = none → Q (.ptr b' 0) (hadd h b' (.iter none 0 [] 0))
    | .map b => match h b with
      | some (.map _ clock) => ∀ b', h b' = none → Q (.ptr b' 0) (hadd h b' (.iter (some b) clock [] clock))
      | _ => False
    | _ => False
  | .next it =>
    match ρ it with
    | .ptr i 0 => match h i with
      | some (.iter none _ _ _) => Q (.tup [.bool false]) h
      | some (.iter (some m) since seen stepped) => match h m with
        | some (.map es clock) => (!seen.isEmpty && !es.isEmpty && es.all fun e => decide (stepped ≤ e.2.2)) = false ∧
          ∀ x ∈ candidates es since seen, match x with
            | some e => Q (.tup [.bool true, e.1, e.2.1]) (hadd h i (.iter (some m) since (seen ++ [e.2.2]) clock))
            | none => Q (.tup [.bool false]) h
        | _ => False
      | _ => False
    | _ => False
  | .rangeStr s => match ρ s with | .str s => ∀ b', h b' = none → Q (.ptr b' 0) (hadd h b' (.sit s 0)) | _ => False
  | .nextStr it =>
    match ρ it with
    | .ptr i 0 => match h i with
      | some (.sit s pos) =>
        if pos < s.length then Q (.tup [.bool true, .int .i64 pos, .int .i32 (Utf8.decode ⟨s.toArray⟩ pos).1]) (hadd h i (.sit s (pos + (Utf8.decode ⟨s.toArray⟩ pos).2)))
        else Q (.tup [.bool false]) h
      | _ => False
    | _ => False
  | .clone x =>
    match ρ x with
    | .iface t (.map b) => match h b with
      | some (.map es clock) => ∀ b', h b' = none → Q (.iface t (.map b')) (hadd h b' (.map es clock))
      | _ => False
    | _ => False
  | .dfr _ _ => False

/-! ### Code -/
/-- Is an operation with this guard carried out? -/
def wantedE (t : Tm) : Option (Nat × Bool) → Bool
  | none => true
  | some (j, b) => match t j with | .bool c => c == b | _ => false
/-- May the guard be looked at? ('undef' stands for whatever value: a guard that looks at it tells nothing.) -/
def guardOk (t : Tm) : Option (Nat × Bool) → Prop
  | none => True
  | some (j, _) => (∃ c, t j = .bool c) ∨ t j = .tup []

/-- One operation. -/
def stepE (call : CP) (o : IOp) (a : A) (h : H) (K : V → A → H → Prop) : Prop :=
  match o.k with
  | .p k => match k.ev (Opd.ev a.t) with | some v => K v { a with t := put a.t o.dst v } h | none => False
  | .r k => match k.ev (Opd.ev a.t) h with | some v => K v { a with t := put a.t o.dst v } h | none => False
  | .a k => match k.ev (Opd.ev a.t) with | some (x, f) => ∀ b, h b = none → K (f b) { a with t := put a.t o.dst (f b) } (hadd h b x) | none => False
  | .h (.dfr f args) => match f.ev a.t with
    | .fn g first cap => K .undef { t := put a.t o.dst .undef, d := (.fn g first cap, args.map (Opd.ev a.t)) :: a.d } h
    | _ => False
  | .h k => k.E call (Opd.ev a.t) h fun v h' => K v { a with t := put a.t o.dst v } h'

def opsE (call : CP) : List IOp → A → H → (A → H → Prop) → Prop
  | [], a, h, K => K a h
  | o :: l, a, h, K =>
    guardOk a.t o.guard ∧
    if wantedE a.t o.guard then stepE call o a h fun _ a' h' => opsE call l a' h' K
    else opsE call l { a with t := put a.t o.dst (.tup []) } h K

/-- The reads that were made, by number: how to make each anew, and what it gave. -/
abbrev Reads := List (Nat × (H → Option V) × V)
def Reads.hold (W : Reads) (l : List Nat) (h : H) : Prop := ∀ x ∈ W, x.1 ∈ l → x.2.1 h = some x.2.2
def drawE (call : CP) : List IOp → Reads → A → H → (A → H → Prop) → Prop
  | [], _, a, h, K => K a h
  | o :: l, W, a, h, K =>
    guardOk a.t o.guard ∧
    if wantedE a.t o.guard then
      match o.k with
      | .r k => stepE call o a h fun v a' h' => drawE call l ((o.id, fun h => k.ev (Opd.ev a.t) h, v) :: W) a' h' K
      | .h _ => stepE call o a h fun _ a' h' => W.hold o.watch h' ∧ drawE call l W a' h' K
      | _ => stepE call o a h fun _ a' h' => drawE call l W a' h' K
    else drawE call l W { a with t := put a.t o.dst (.tup []) } h K

def andThen (K : A → H → Prop) (Q : Ex → A → H → Prop) : Ex → A → H → Prop
  | .nm, a, h => K a h
  | e, a, h => Q e a h
def atBlock (id : Nat) (Q : Ex → A → H → Prop) : Ex → A → H → Prop
  | .exit i, a, h => if i = id then Q .nm a h else Q (.exit i) a h
  | e, a, h => Q e a h

/-- What a piece of code comes to: whatever it leaves by, Q holds. -/
def E (call : CP) : IC → A → H → (Ex → A → H → Prop) → Prop
  | .skip, a, h, Q => Q .nm a h
  | .ops l, a, h, Q => opsE call l a h (Q .nm)
  | .draw l, a, h, Q => drawE call l [] a h (Q .nm)
  | .seq c d, a, h, Q => E call c a h (andThen (fun a h => E call d a h Q) Q)
  | .cond x c d, a, h, Q => match x.ev a.t with
    | .bool b => (b = true → E call c a h Q) ∧ (b = false → E call d a h Q)
    | _ => False
  | .block id c, a, h, Q => E call c a h (atBlock id Q)
  | .loop c, a, h, Q => ∀ X : A → H → Prop, (∀ a h, E call c a h (andThen X Q) → X a h) → X a h
  | .rangeFn f ps as bd, a, h, Q => ∀ l, h l = none →
    match f.ev a.t with
    | .fn g first cap => call (.fn g) (first ++ [.yield l] ++ cap) (hadd h l (.loop a.t ps as bd .ready none)) fun _ h' =>
      ∃ t ps as bd st pd, h' l = some (.loop t ps as bd st pd) ∧ st ≠ .busy ∧ Q (pd.getD .nm) a (hset h' l none)
    | _ => False
  | .exit id, a, h, Q => Q (.exit id) a h
  | .ret, a, h, Q => Q .ret a h

/-! ### Functions -/
inductive Res where
  | tmp (t : Nat)
  | cell (t n : Nat) (agg : Bool)
/-- A function: how many temporaries, its results, its body. -/
structure Fn where
  n : Nat
  res : List Res
  body : IC
/-- A program: its functions; what is known otherwise of some: plain values that come of plain values. -/
structure Pg where
  fns : Nat → Option Fn
  known : Nat → List V → Option V

def resOf (t : Tm) (h : H) : Res → Option V
  | .tmp i => match t i with | .undef => none | v => some v
  | .cell i n agg => match t i with
    | .ptr b o => match h b with
      | some (.cells cs _) => partOf o n agg cs
      | _ => none
    | _ => none
def allSome : List (Option V) → Option (List V)
  | [] => some []
  | some v :: l => match allSome l with | some vs => some (v :: vs) | none => none
  | none :: _ => none
def packed : List V → V
  | [v] => v
  | vs => .tup vs
/-- The deferred calls, the last one first. -/
def dfrE (call : CP) : List (V × List V) → H → (H → Prop) → Prop
  | [], h, K => K h
  | (f, args) :: ds, h, K => match f with
    | .fn f first cap => call (.fn f) (first ++ args ++ cap) h fun _ h' => dfrE call ds h' K
    | _ => False
/-- Less memory. -/
def Sub (h' h : H) : Prop := ∀ b o, h' b = some o → h b = some o

def start (args : List V) : Tm := fun i => (args[i]?).getD (.tup [])
def params (t : Tm) : List Nat → List V → Tm
  | p :: ps, v :: vs => params (upd t p v) ps vs
  | _, _ => t

def endSt : Ex → LSt
  | .nm => .ready
  | _ => .done
def endPd : Ex → Option Ex
  | .nm => none
  | e => some e

def F (pg : Pg) (call : CP) : CP
  | .fn f, args, h, Q =>
    (∃ v, pg.known f args = some v ∧ Q v h) ∨
    ∃ g, pg.fns f = some g ∧ args.length ≤ g.n ∧ E call g.body ⟨start args, []⟩ h fun e a h' =>
      (e = .nm ∨ e = .ret) ∧ dfrE call a.d h' fun h'' => ∃ vs h3, allSome (g.res.map (resOf a.t h'')) = some vs ∧ Sub h3 h'' ∧ Q (packed vs) h3
  | .round l, args, h, Q =>
    ∃ t ps as bd pd, h l = some (.loop t ps as bd .ready pd) ∧ ps.length = args.length ∧
      E call as ⟨params t ps args, []⟩ h fun e a h1 => e = .nm ∧ a.d = [] ∧
        ∃ t1 ps1 as1 bd1 pd1, h1 l = some (.loop t1 ps1 as1 bd1 .ready pd1) ∧
        E call bd a (hadd h1 l (.loop t1 ps1 as1 bd1 .busy pd1)) fun e a2 h2 => a2.d = [] ∧
          ∃ t2 ps2 as2 bd2 st2 pd2 h3, h2 l = some (.loop t2 ps2 as2 bd2 st2 pd2) ∧ Sub h3 (hadd h2 l (.loop t2 ps2 as2 bd2 (endSt e) (endPd e))) ∧
            Q (.bool (e == .nm)) h3

/-- A call comes to its end, whatever is left open, and Q holds. The least predicate that the functions' bodies make true. -/
def AC (pg : Pg) : CP := fun c args h Q => ∀ X : CP, (∀ c args h Q, F pg X c args h Q → X c args h Q) → X c args h Q

end Mir
