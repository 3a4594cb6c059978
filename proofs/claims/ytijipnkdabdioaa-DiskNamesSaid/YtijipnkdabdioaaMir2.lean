/- The mirror, part 2: the model's code turned into the mirror's. -/
import Derived.Test.YtijipnkdabdioaaMir1
import GoSem.Step
namespace Mir
open Go

/-- A constant. -/
def toVs (f : Value → Option V) : List Value → Option (List V)
  | [] => some []
  | v :: vs => match f v, toVs f vs with | some x, some xs => some (x :: xs) | _, _ => none
def toV : Nat → Value → Option V
  | 0, _ => none
  | n + 1, v => match v with
    | .bool b => some (.bool b)
    | .int k i => some (.int k i)
    | .string s => some (.str s.data.toList)
    | .pointer none => some .nilptr
    | .slice none 0 0 => some .nilsl
    | .map none => some .nilmap
    | .nilFunc => some .nilfn
    | .nilIface => some .nilif
    | .func (.func f) a c => if a.size = 0 ∧ c.size = 0 then some (.fn f [] []) else none
    | .iface t v => (toV n v).map (.iface t)
    | .agg cs => (toVs (toV n) cs.toList).map .agg
    | .tuple cs => (toVs (toV n) cs.toList).map .tup
    | _ => none

section
variable (P : Program) (n : Nat)

def cOpd : Operand → Option Opd
  | .tmp t => if t < n then some (.tmp t) else none
  | .const v => (toV 4 v).map .c
  | .global g => if g < P.globals.size then some (.glob g) else none
  | .func f => some (.c (.fn f [] []))
def cOpds : List Operand → Option (List Opd)
  | [] => some []
  | x :: xs => match cOpd P n x, cOpds xs with | some y, some ys => some (y :: ys) | _, _ => none
def cOpt : Option Operand → Option (Option Opd)
  | none => some none
  | some x => (cOpd P n x).map some

def szOf (t : TypeId) : Option Nat := (P.info? t).map (·.size)
/-- A type's cells, and whether its values are aggregates. -/
def szA (t : TypeId) : Option (Nat × Bool) := match szOf P t, P.underlying t with
  | some s, some (.struct _) | some s, some (.array _ _) => some (s, true)
  | some s, some _ => some (s, false)
  | _, _ => none
def zeroT (t : TypeId) : Option V := match P.info? t with
  | some i => match i.zero with | some z => toV 4 z | none => none
  | none => none
/-- A zero value's cells, as many as the type has. -/
def zeroCs (t : TypeId) : Option (List V) :=
  match zeroT P t, szOf P t with
  | some z, some s => if z.cells.length = s ∧ z.cells.all V.flat ∧ 0 < s then some z.cells else none
  | _, _ => none
def eqOf (t : TypeId) : Option EqC := match P.underlying t with
  | some .bool => some .bool
  | some (.int _) => some .int
  | some .string => some .str
  | _ => none
def eqsOf : List Field → Nat → Option (List EqC)
  | [], _ => some []
  | f :: fs, i => if f.name ≠ "_" ∧ f.offset = i then match eqOf P f.type, eqsOf fs (i + 1) with | some c, some cs => some (c :: cs) | _, _ => none else none
def structEq (t : TypeId) : Option (List EqC) := match P.underlying t with
  | some (.struct fs) => if P.stoodInHeld t = false ∧ P.eqGuardType P.depth t = false then eqsOf P fs.toList 0 else none
  | _ => none
def keyOf (t : TypeId) : Option KC := match eqOf P t with
  | some c => some (.one c)
  | none => (structEq P t).map .agg
/-- The kinds of numbers that may be compared. -/
def intTypes : List Nat := (List.range P.types.size).filter fun t => match P.underlying t, P.info? t with
  | some (.int _), some i => i.comparable
  | _, _ => false
def isConst : Operand → Bool
  | .const _ => true
  | _ => false
def cEq (neg : Bool) (t : TypeId) (x y : Operand) (a b : Opd) : Option PK :=
  match P.underlying t with
  | some (.int _) | some .string => some (.bin (if neg then .neq else .eql) a b)
  | some .bool => some (.eq .bool neg a b)
  | some (.pointer e) => match szOf P e with | some s => if s = 0 then none else some (.eq .ptr neg a b) | none => none
  | some (.slice _) => some (.eq .sl neg a b)
  | some (.map _ _) => some (.eq .map neg a b)
  | some (.func _ _ _) => some (.eq .fn neg a b)
  | some (.interface _) => if isConst x || isConst y then some (.eq .iface neg a b) else some (.eqIf (intTypes P) neg a b)
  | some (.struct _) => (structEq P t).map fun cs => .eqAgg cs neg a b
  | _ => none
def cParts (place : Nat → Option (Nat × Nat)) : List (Nat × Operand) → Option (List (Nat × Nat × Opd))
  | [] => some []
  | (i, x) :: ps => match place i, cOpd P n x, cParts place ps with
    | some (o, s), some y, some qs => some ((o, s, y) :: qs)
    | _, _, _ => none
def fieldPl (fs : Array Field) (i : Nat) : Option (Nat × Nat) := match fs[i]? with
  | some f => (szOf P f.type).map fun s => (f.offset, s)
  | none => none

def cBuiltin (b : Builtin) (args : List Operand) (ts : List TypeId) : Option Kind :=
  match b, args, ts with
  | .len, [x], t :: _ => match cOpd P n x, P.underlying t with
    | some a, some .string => some (.p (.lenStr a))
    | some a, some (.slice _) => some (.p (.lenSl a))
    | some a, some (.map _ _) => some (.r (.lenMap a))
    | some _, some (.array k _) => some (.p (.lenK k))
    | _, _ => none
  | .min, x :: xs, _ => match cOpd P n x, cOpds P n xs with | some a, some as => some (.p (.mnmx false a as)) | _, _ => none
  | .max, x :: xs, _ => match cOpd P n x, cOpds P n xs with | some a, some as => some (.p (.mnmx true a as)) | _, _ => none
  | .append, [x, y], t :: u :: _ => match cOpd P n x, cOpd P n y, P.underlying t, P.underlying u with
    | some a, some b, some (.slice e), some d => if d matches .int _ then none else match zeroCs P e, P.info? e with | some z, some i => if 0 < i.bytes ∧ i.bytes ≤ 1048576 then some (.h (.app z.length i.bytes a b)) else none | _, _ => none
    | _, _, _, _ => none
  | .copy, [x, y], t :: _ => match cOpd P n x, cOpd P n y, P.underlying t with
    | some a, some b, some (.slice e) => match szOf P e with | some s => if 0 < s then some (.h (.copy s a b)) else none | none => none
    | _, _, _ => none
  | .delete, [x, y], t :: _ => match cOpd P n x, cOpd P n y, P.underlying t with
    | some a, some b, some (.map k _) => (keyOf P k).map fun kc => .h (.delete kc a b)
    | _, _, _ => none
  | _, _, _ => none

/-- Is a function none of those that the machine goes on behind? -/
def noNext (fn : Func) : Bool := (Extern.allNextRows.lookup fn.name).isNone && (Extern.allNextRows.lookup fn.origin).isNone

def cOp (op : Op) : Option Kind :=
  match op with
  | .move x | .assign x => (cOpd P n x).map fun a => .p (.mv a)
  | .pick c a b => match cOpd P n c, cOpd P n a, cOpd P n b with | some c, some a, some b => some (.p (.pick c a b)) | _, _, _ => none
  | .alloc e => (zeroCs P e).map fun z => .a (.alloc z)
  | .box _ x => (cOpd P n x).map fun a => .a (.box a)
  | .build t ps => match P.underlying t, zeroCs P t with
    | some (.struct fs), some z => if fs.toList.all (fun f => (szOf P f.type).isSome) then (cParts P n (fieldPl P fs) ps.toList).map fun qs => .p (.build z qs) else none
    | some (.array _ e), some z => match szOf P e with
      | some s => (cParts P n (fun i => some (i * s, s)) ps.toList).map fun qs => .p (.build z qs)
      | none => none
    | _, _ => none
  | .buildSlice t len ps => match P.underlying t with
    | some (.slice e) => match zeroCs P e with
      | some z => if len * z.length ≤ 16777216 then (cParts P n (fun i => some (i * z.length, z.length)) ps.toList).map fun qs => .a (.mkSl z z.length len qs) else none
      | none => none
    | _ => none
  | .insert t m k x | .mapUpdate t m k x => match cOpd P n m, cOpd P n k, cOpd P n x, P.underlying t with
    | some m, some k, some x, some (.map kt _) => (keyOf P kt).map fun kc => .h (.mapUpd kc m k x)
    | _, _, _, _ => none
  | .load t x => match cOpd P n x, szA P t with | some a, some (s, g) => if 0 < s then some (.r (.load s g a)) else none | _, _ => none
  | .store t x v => match cOpd P n x, cOpd P n v, szOf P t with | some a, some b, some s => some (.h (.store s a b)) | _, _, _ => none
  | .nilCheck x => (cOpd P n x).map fun a => .p (.nilchk a)
  | .binOp op t x y _ => match cOpd P n x, cOpd P n y with
    | some a, some b => match op with
      | .eql => (cEq P false t x y a b).map .p
      | .neq => (cEq P true t x y a b).map .p
      | _ => some (.p (.bin op a b))
    | _, _ => none
  | .unOp op _ x => (cOpd P n x).map fun a => .p (.un op a)
  | .convert s d x => match cOpd P n x, P.underlying s, P.underlying d with
    | some a, some (.int _), some (.int k) => some (.p (.convInt k a))
    | some a, some .string, some .string => some (.p (.convStr a))
    | some a, some (.slice e), some .string => match P.underlying e with | some (.int .u8) => some (.r (.toStr a)) | _ => none
    | some a, some .string, some (.slice e) => match P.underlying e with | some (.int .u8) => some (.a (.toBytes a)) | _ => none
    | _, _, _ => none
  | .makeInterface t x => match cOpd P n x, P.underlying t with
    | some _, some (.interface _) => none
    | some a, some _ => some (.p (.mkIf t a))
    | _, _ => none
  | .makeFunc (.func f) a c => match cOpds P n a.toList, cOpds P n c.toList with | some a, some c => some (.p (.mkFn f a c)) | _, _ => none
  | .makeMap _ none => some (.a .mkMap)
  | .makeSlice t l c => match cOpd P n l, cOpd P n c, P.underlying t with
    | some l, some c, some (.slice e) => match zeroCs P e, P.info? e with | some z, some i => if i.bytes ≤ 1048576 then some (.a (.make z z.length i.bytes l c)) else none | _, _ => none
    | _, _, _ => none
  | .slice t x l h none => match cOpd P n x, cOpt P n l, cOpt P n h, P.underlying t with
    | some a, some l, some h, some .string => some (.p (.subStr a l h))
    | some a, some l, some h, some (.slice e) => match szOf P e with | some s => if 0 < s then some (.p (.subSl s a l h)) else none | none => none
    | some a, some l, some h, some (.array k e) => match szOf P e with | some s => if 0 < s then some (.r (.slArr k s a l h)) else none | none => none
    | _, _, _, _ => none
  | .fieldAddr t x f => match cOpd P n x, P.underlying t with
    | some a, some (.struct fs) => match fs[f]? with
      | some f => match szOf P f.type with | some s => if s = 0 then none else some (.p (.fieldAt f.offset a)) | none => none
      | none => none
    | _, _ => none
  | .field t x f => match cOpd P n x, P.underlying t with
    | some a, some (.struct fs) => match fs[f]? with
      | some f => match szA P f.type with | some (s, g) => some (.p (.field f.offset s g a)) | none => none
      | none => none
    | _, _ => none
  | .indexAddr t x i => match cOpd P n x, cOpd P n i, P.underlying t with
    | some a, some b, some (.slice e) => match szOf P e with | some s => some (.p (.idxSl s a b)) | none => none
    | some a, some b, some (.array k e) => match szOf P e with | some s => some (.p (.idxArr k s a b)) | none => none
    | _, _, _ => none
  | .index t x i => match cOpd P n x, cOpd P n i, P.underlying t with
    | some a, some b, some .string => some (.p (.idxStr a b))
    | some a, some b, some (.array k e) => match szA P e with | some (s, g) => some (.p (.idxAgg k s g a b)) | none => none
    | _, _, _ => none
  | .lookup t m k ok => match cOpd P n m, cOpd P n k, P.underlying t with
    | some m, some k, some (.map kt e) => match keyOf P kt, zeroT P e with | some kc, some z => some (.r (.lookup kc z ok m k)) | _, _ => none
    | _, _, _ => none
  | .mapEntry t m k => match cOpd P n m, cOpd P n k, P.underlying t with
    | some m, some k, some (.map kt e) => match keyOf P kt, zeroT P e with | some kc, some z => some (.h (.mapEntry kc z m k)) | _, _ => none
    | _, _, _ => none
  | .entryStore _ m s v => match cOpd P n m, cOpd P n s, cOpd P n v with | some m, some s, some v => some (.h (.entryStore m s v)) | _, _, _ => none
  | .range t x => match cOpd P n x, P.underlying t with
    | some a, some (.map _ _) => some (.h (.range a))
    | some a, some .string => some (.h (.rangeStr a))
    | _, _ => none
  | .next it s => (cOpd P n it).map fun a => if s then .h (.nextStr a) else .h (.next a)
  | .entry it => (cOpd P n it).map fun a => .r (.entry a)
  | .typeAssert x _ t false => match cOpd P n x, P.underlying t with
    | some _, some (.interface _) => none
    | some a, some _ => some (.p (.unwrap t a))
    | _, _ => none
  | .extract x i => (cOpd P n x).map fun a => .p (.ext a i)
  | .call c => match c.callee with
    | .builtin b => cBuiltin P n b c.args.toList c.argTypes.toList
    | .value (.func f) => match P.funcs[f]? with
      | some fn => if fn.body.isNone ∧ fn.name = "maps.clone" ∧ noNext fn then match c.args.toList with | [x] => (cOpd P n x).map fun a => .h (.clone a) | _ => none
        else (cOpds P n c.args.toList).map fun as => .h (.call (.c (.fn f [] [])) as)
      | none => none
    | .value f => match cOpd P n f, cOpds P n c.args.toList with | some f, some as => some (.h (.call f as)) | _, _ => none
    | _ => none
  | .defer c => match c.callee with
    | .value f => match cOpd P n f, cOpds P n c.args.toList with | some f, some as => some (.h (.dfr f as)) | _, _ => none
    | _ => none
  | _ => none

/-! ### Regions -/
/-- The guard's temporary. -/
def cGuard (ops : Array Oper) : Option (Nat × Bool) → Option (Option (Nat × Bool))
  | none => some none
  | some (j, b) => match (ops[j]?).bind (·.dst) with | some d => if d < n then some (some (d, b)) else none | none => none
def cDst : Option Tmp → Bool
  | none => true
  | some d => decide (d < n)
/-- What is not taken: whoever comes there is told nothing. -/
def stuckK : Kind := .p (.ext (.c .undef) 0)
def stuckC : IC := .cond (.c .undef) .skip .skip
def cOper (ops : Array Oper) (o : Oper) : Option IOp :=
  match cGuard n ops o.guard with
  | some g => if cDst n o.dst then some { dst := o.dst, guard := g, k := (cOp P n o.op).getD stuckK } else none
  | none => none
def cOpers (ops : Array Oper) : List Oper → Option (List IOp)
  | [] => some []
  | o :: os => match cOper P n ops o, cOpers ops os with | some x, some xs => some (x :: xs) | _, _ => none

/-- Which operations must be ahead of each (as bits), by the edges that always bind. -/
def maskOf (M : List Nat) (o : Oper) : Nat := o.after.toList.foldl (fun s e => if Region.binds .any e then s ||| 2 ^ e.on ||| M.getD e.on 0 else s) 0
def masks : List Oper → List Nat → List Nat
  | [], M => M
  | o :: os, M => masks os (M ++ [maskOf M o])
def Kind.heavy : Kind → Bool
  | .h _ => true
  | _ => false
def Kind.read : Kind → Bool
  | .r _ => true
  | _ => false
def Kind.makes : Kind → Bool
  | .a _ => true
  | _ => false
def oo : Option Opd → List Opd
  | some x => [x]
  | none => []
def PK.opds : PK → List Opd
  | .mv x | .un _ x | .convInt _ x | .convStr x | .field _ _ _ x | .fieldAt _ x | .ext x _ | .mkIf _ x | .nilchk x | .lenStr x | .lenSl x | .unwrap _ x | .byteStr _ x => [x]
  | .pick c a b => [c, a, b]
  | .eqIf _ _ x y | .bin _ x y | .eq _ _ x y | .eqAgg _ _ x y | .idxStr x y | .idxAgg _ _ _ x y | .idxSl _ x y | .idxArr _ _ x y => [x, y]
  | .subStr x l h | .subSl _ x l h => x :: (oo l ++ oo h)
  | .mkFn _ a c => a ++ c
  | .build _ ps => ps.map fun p => p.2.2
  | .lenK _ => []
  | .mnmx _ x xs => x :: xs
def RK.opds : RK → List Opd
  | .load _ _ x | .lenMap x | .toStr x | .entry x => [x]
  | .lookup _ _ _ m k => [m, k]
  | .slArr _ _ x l h => x :: (oo l ++ oo h)
def AK.opds : AK → List Opd
  | .alloc _ | .mkMap => []
  | .box x | .toBytes x => [x]
  | .mkSl _ _ _ ps => ps.map fun p => p.2.2
  | .make _ _ _ l c => [l, c]
def HK.opds : HK → List Opd
  | .store _ x y | .app _ _ x y | .copy _ x y | .delete _ x y => [x, y]
  | .call g as | .dfr g as => g :: as
  | .mapUpd _ m k v | .entryStore m k v => [m, k, v]
  | .mapEntry _ _ m k => [m, k]
  | .range x | .next x | .rangeStr x | .nextStr x | .clone x => [x]
def Kind.opds : Kind → List Opd
  | .p k => k.opds
  | .r k => k.opds
  | .a k => k.opds
  | .h k => k.opds
def tmpOf : Opd → Option Nat
  | .tmp t => some t
  | _ => none
def IOp.looks (o : IOp) : List Nat := o.k.opds.filterMap tmpOf ++ (match o.guard with | some (j, _) => [j] | none => [])
/-- Do two operations use no temporary in common, but for looking at it? -/
def IOp.apart (x y : IOp) : Bool :=
  (match x.dst with | some d => !y.looks.contains d && y.dst != some d | none => true) &&
  (match y.dst with | some d => !x.looks.contains d | none => true)
/-- May y, which stands behind x, be done ahead of x? -/
def IOp.swaps (x y : IOp) : Bool :=
  !x.k.heavy && x.apart y && (!y.k.heavy || (!x.k.makes && (!x.k.read || y.watch.contains x.id)))
/-- A call of a fixed function. -/
def Kind.plainCall : Kind → Bool
  | .h (.call (.c (.fn _ [] [])) _) => true
  | _ => false
def Kind.light : Kind → Bool
  | .p _ | .a _ => true
  | _ => false
/-- May y, which stands behind the call x, be done ahead of it? -/
def IOp.lets (x y : IOp) : Bool := x.k.plainCall && x.watch.isEmpty && x.apart y && y.k.light
def ordered (M : List Nat) (x y : Nat) : Bool := (M.getD y 0).testBit x
def pairsOk (M : List Nat) : List IOp → Bool
  | [] => true
  | x :: l => l.all (fun y => !ordered M y.id x.id && (ordered M x.id y.id || (x.swaps y || x.lets y))) && pairsOk M l
/-- Is r kept behind the call y, for what it hangs on is made beside it? -/
def held (M : List Nat) (l : List IOp) (y r : IOp) : Bool := y.k.plainCall && l.any fun a => a.k.makes && !ordered M a.id y.id && (a.id == r.id || ordered M a.id r.id)
/-- The order in which a region of open order is told: ahead of each heavy operation whatever need not be behind it. -/
def plan (M : List Nat) (l : List IOp) : List IOp → List Nat → List Nat
  | [], done => done ++ (l.map (·.id)).filter fun i => !done.contains i
  | y :: hs, done => plan M l hs (done ++ ((l.filter fun r => !r.k.heavy && !(M.getD r.id 0).testBit y.id && !done.contains r.id && !held M l y r).map (·.id)) ++ [y.id])
def watched (M : List Nat) (l : List IOp) (o : IOp) : IOp :=
  if o.k.heavy then { o with watch := (l.filter fun r => r.k.read && !ordered M r.id o.id && !ordered M o.id r.id).map (·.id) } else o
def numbered : List IOp → Nat → List IOp
  | [], _ => []
  | o :: l, i => { o with id := i } :: numbered l (i + 1)
def edgesOk : List Oper → Nat → Bool
  | [], _ => true
  | o :: l, i => o.after.toList.all (fun e => !Region.binds .any e || decide (e.on < i)) && edgesOk l (i + 1)
def nodup : List Nat → Bool
  | [] => true
  | x :: l => !l.contains x && nodup l
def cDraw (ops : Array Oper) : Option (List IOp) :=
  match cOpers P n ops ops.toList with
  | none => none
  | some l0 =>
    let M := masks ops.toList []
    let l := (numbered l0 0).map (watched M (numbered l0 0))
    let order := plan M l (l.filter (·.k.heavy)) []
    let told := order.filterMap fun i => l[i]?
    if edgesOk ops.toList 0 && nodup order && (List.range l.length).all order.contains && decide (order.length ≤ l.length) && order.all (fun i => decide (i < l.length)) && pairsOk M told then some told else none

/-! string([]byte{c}): told without its block, where nothing else looks at it. -/
def findMk : List IOp → Nat → Nat → Option (Nat × Opd)
  | [], _, _ => none
  | o :: l, t, s => match o.k with
    | .a (.mkSl [.int .u8 0] 1 1 [(0, 1, x)]) => if o.dst = some t then some (s, x) else findMk l t (s + 1)
    | _ => findMk l t (s + 1)
def findTx (all : List IOp) : List IOp → Nat → Option (Nat × Nat × Nat × Opd)
  | [], _ => none
  | o :: l, s => match o.k with
    | .r (.toStr (.tmp t)) => match findMk all t 0 with | some (j, x) => some (s, j, t, x) | none => findTx all l (s + 1)
    | _ => findTx all l (s + 1)
def fuseOk (M : List Nat) (i j t : Nat) (x : Opd) (g : Option (Nat × Bool)) (io : IOp) : Bool :=
  !io.looks.contains t && (io.id == j || (io.dst != some t && (ordered M io.id j || (match io.dst with | none => true | some d => tmpOf x != some d && (match g with | some (y, _) => y != d | none => true)))))
def cFuse (ops : Array Oper) : Option (List IOp) :=
  match cOpers P n ops ops.toList with
  | none => none
  | some l0 => match findTx l0 l0 0 with
    | none => none
    | some (i, j, t, x) => match l0[i]?, l0[j]? with
      | some oi, some oj =>
        let M := masks ops.toList []
        let l1 := (l0.set j { oj with k := .p (.byteStr false x) }).set i { oi with k := .p (.byteStr true x) }
        let l := (numbered l1 0).map (watched M (numbered l1 0))
        let order := plan M l (l.filter (·.k.heavy)) []
        let told := order.filterMap fun i => l[i]?
        if edgesOk ops.toList 0 && nodup order && (List.range l.length).all order.contains && decide (order.length ≤ l.length) && order.all (fun i => decide (i < l.length)) && pairsOk M told &&
          i != j && oi.guard == oj.guard && ordered M j i && told.all (fuseOk M i j t x oj.guard) then some told else none
      | _, _ => none

/-- How a region of open order is told. -/
def cAny (ops : Array Oper) : Option (List IOp) :=
  match cDraw P n ops with
  | some l => some l
  | none => cFuse P n ops

def hasDfr : List IOp → Bool
  | [] => false
  | o :: l => (match o.k with | .h (.dfr _ _) => true | _ => false) || hasDfr l
/-- Does a piece of code defer a call, or range over a function? -/
def IC.defers : IC → Bool
  | .ops l | .draw l => hasDfr l
  | .seq a b | .cond _ a b => a.defers || b.defers
  | .block _ c | .loop c => c.defers
  | .rangeFn _ _ _ _ => true
  | _ => false

def comp : Code → Option IC
  | .skip => some .skip
  | .region _ ops false => some (match cOpers P n ops ops.toList with | some l => .ops l | none => stuckC)
  | .region _ ops true => some (match cAny P n ops with | some l => .draw l | none => stuckC)
  | .seq a b => match comp a, comp b with | some x, some y => some (.seq x y) | _, _ => none
  | .cond c a b => match cOpd P n c, comp a, comp b with | some c, some x, some y => some (.cond c x y) | none, _, _ => some stuckC | _, _, _ => none
  | .block id c => (comp c).map (.block id)
  | .loop c => (comp c).map .loop
  | .rangeFunc f ps a b => match cOpd P n f, comp a, comp b with
    | some f, some x, some y => if x.defers = false ∧ y.defers = false ∧ ps.toList.all (fun p => decide (p < n)) then some (.rangeFn f ps.toList x y) else some stuckC
    | _, _, _ => some stuckC
  | .exit id => some (.exit id)
  | .ret => some .ret
  | .scope c => comp c
  | .label _ => some .skip
  | _ => some stuckC

def cRes : List ResultVar → Option (List Res)
  | [] => some []
  | .tmp t :: rs => match cRes rs with | some l => if t < n then some (.tmp t :: l) else none | none => none
  | .cell t ty :: rs => match cRes rs, szA P ty with | some l, some (s, g) => if t < n ∧ 0 < s then some (.cell t s g :: l) else none | _, _ => none
end

def compF (P : Program) (f : Func) : Option Fn :=
  match f.body with
  | none => none
  | some c => match comp P f.ntmps c, cRes P f.ntmps f.results.toList with
    | some b, some r => some { n := f.ntmps, res := r, body := b }
    | _, _ => none
end Mir
