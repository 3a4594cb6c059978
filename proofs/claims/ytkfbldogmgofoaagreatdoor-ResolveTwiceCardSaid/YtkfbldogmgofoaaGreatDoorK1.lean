import GoSem.Dispatch
import GoSem.Step
set_option linter.unusedSimpArgs false
set_option linter.unusedVariables false
namespace Mir
section
theorem An2{a b:Prop}(x:a)(y:b):a∧b:=⟨x,y⟩
open Go
inductive V where
 |bool (b:Bool)
 |int (k:IntKind) (n:Int)
 |str (s:List UInt8)
 |ptr (b o:Nat)
 |nilptr
 |sl (b o es len:Nat)
 |nilsl
 |map (b:Nat)
 |nilmap
 |fn (f:Nat) (first cap:List V)
 |yield (l:Nat)
 |nilfn
 |iface (t:Nat) (v:V)
 |nilif
 |agg (cs:List V)
 |tup (vs:List V)
 |undef
 |any
 deriving Inhabited
def V.cells:V→List V
 |.agg cs=>cs
 |v=>[v]
def V.flat:V→Bool
 |.agg _|.tup _|.undef=>false
 |_=>true
inductive Opd where
 |tmp (t:Nat)
 |c (v:V)
 |glob (g:Nat)
inductive EqC where
 |int|str|bool|ptr|sl|map|fn|iface
 deriving DecidableEq
inductive KC where
 |one (c:EqC)
 |agg (cs:List EqC)
inductive PK where
 |mv (x:Opd)
 |pick (c a b:Opd)
 |bin (op:BinOp) (x y:Opd)
 |eq (c:EqC) (neg:Bool) (x y:Opd)
 |eqAgg (cs:List EqC) (neg:Bool) (x y:Opd)
 |un (op:UnOp) (x:Opd)
 |convInt (k:IntKind) (x:Opd)
 |convStr (x:Opd)
 |subStr (x:Opd) (l h:Option Opd)
 |subSl (es:Nat) (x:Opd) (l h:Option Opd)
 |idxStr (x i:Opd)
 |idxAgg (len es:Nat) (agg:Bool) (x i:Opd)
 |field (off n:Nat) (agg:Bool) (x:Opd)
 |fieldAt (off:Nat) (x:Opd)
 |idxSl (es:Nat) (x i:Opd)
 |idxArr (len es:Nat) (x i:Opd)
 |ext (x:Opd) (i:Nat)
 |mkIf (t:Nat) (x:Opd)
 |mkFn (f:Nat) (first cap:List Opd)
 |build (zero:List V) (parts:List (Nat × Nat × Opd))
 |nilchk (x:Opd)
 |lenStr (x:Opd)
 |lenSl (x:Opd)
 |lenK (n:Nat)
 |mnmx (mx:Bool) (x:Opd) (xs:List Opd)
 |unwrap (t:Nat) (x:Opd)
 |eqIf (ok:List Nat) (neg:Bool) (x y:Opd)
 |byteStr (txt:Bool) (x:Opd)
 |idxByte (x c:Opd)
 |dataSl (x:Opd)
inductive RK where
 |load (n:Nat) (agg:Bool) (x:Opd)
 |lookup (kc:KC) (zero:V) (ok:Bool) (m k:Opd)
 |lenMap (m:Opd)
 |toStr (x:Opd)
 |entry (it:Opd)
 |slArr (len es:Nat) (x:Opd) (l h:Option Opd)
 |uns (x:Opd)
 |idxSub (g:Nat) (x y:Opd)
inductive AK where
 |alloc (zero:List V)
 |box (x:Opd)
 |mkSl (zero:List V) (es len:Nat) (parts:List (Nat × Nat × Opd))
 |mkMap
 |make (zero:List V) (es bytes:Nat) (l c:Opd)
 |toBytes (x:Opd)
 |allocW (zero:List V)
inductive HK where
 |store (n:Nat) (x v:Opd)
 |call (f:Opd) (args:List Opd)
 |app (es bytes:Nat) (x y:Opd)
 |copy (es:Nat) (x y:Opd)
 |mapUpd (kc:KC) (m k v:Opd)
 |mapEntry (kc:KC) (zero:V) (m k:Opd)
 |entryStore (m s v:Opd)
 |delete (kc:KC) (m k:Opd)
 |range (m:Opd)
 |next (it:Opd)
 |rangeStr (s:Opd)
 |nextStr (it:Opd)
 |clone (x:Opd)
 |ustr (p n:Opd)
 |dfr (f:Opd) (args:List Opd)
inductive Kind where
 |p (k:PK)
 |r (k:RK)
 |a (k:AK)
 |h (k:HK)
structure IOp where
 dst:Option Nat
 guard:Option (Nat × Bool)
 k:Kind
 id:Nat:=0
 watch:List Nat:=[]
inductive IC where
 |skip
 |ops (l:List IOp)
 |draw (l:List IOp)
 |seq (a b:IC)
 |cond (x:Opd) (a b:IC)
 |block (id:Nat) (c:IC)
 |loop (c:IC)
 |rangeFn (f:Opd) (params:List Nat) (assign body:IC)
 |exit (id:Nat)
 |ret
inductive Ex where
 |nm
 |exit (id:Nat)
 |ret
 deriving DecidableEq
inductive LSt where
 |ready|busy|done
 deriving DecidableEq
abbrev Tm:=Nat→V
inductive AObj where
 |cells (cs:List V) (ro:Bool)
 |map (es:List (V × V × Nat)) (clock:Nat)
 |iter (m:Option Nat) (since:Nat) (seen:List Nat) (stepped:Nat)
 |sit (s:List UInt8) (pos:Nat)
 |loop (t:Tm) (params:List Nat) (assign body:IC) (st:LSt) (pend:Option Ex)
abbrev H:=Nat→Option AObj
def hset(h:H)(b:Nat)(o:Option AObj):H:=fun i=>if i=b then o else h i
abbrev hadd(h:H)(b:Nat)(o:AObj):H:=hset h b (some o)
def upd(t:Tm)(d:Nat)(v:V):Tm:=fun i=>if i=d then v else t i
def put(t:Tm)(d:Option Nat)(v:V):Tm:=
 match d with
 |some d=>upd t d v
 |none=>t
structure A where
 t:Tm
 d:List (V × List V)
def Opd.ev(t:Tm):Opd→V
 |.tmp i=>t i
 |.c v=>v
 |.glob g=>.ptr g 0
def isB(b:Nat):Prop:=b % 2=1∧1000<b
def isW(b:Nat):Prop:=b % 4=2∧1000<b
instance (b:Nat):Decidable (isW b):=inferInstanceAs (Decidable (_∧_))
def cu(t s:List UInt8):Int:=match (List.range (s.length+1-t.length)).find? fun i=>(s.take (i+t.length)).drop i==t with
 |some i=>i
 |none=>-1
def mG(c:UInt8):List UInt8→Int
 |[]=>-1
 |b::l=>if b=c then 0 else if mG c l = -1 then -1 else mG c l+1
def bK(op:BinOp)(x y:V):Option V:=
 match x,y with
 |.int k a,.int k' b =>
   match op with
   |.shl=>if b<0 then none else some (.int k (k.wrap (a*2 ^ (min b.toNat k.bits))))
   |.shr=>if b<0 then none else some (.int k (a.fdiv (2 ^ (min b.toNat k.bits))))
   |.add=>if k=k' then some (.int k (k.wrap (a+b)))else none
   |.sub=>if k=k' then some (.int k (k.wrap (a-b)))else none
   |.mul=>if k=k' then some (.int k (k.wrap (a*b)))else none
   |.quo=>if k=k' then if b=0 then none else some (.int k (k.wrap (a.tdiv b)))else none
   |.rem=>if k=k' then if b=0 then none else some (.int k (a.tmod b))else none
   |.and=>if k=k' then some (.int k (k.wrap ((BitVec.ofInt k.bits a &&& BitVec.ofInt k.bits b).toNat)))else none
   |.or=>if k=k' then some (.int k (k.wrap ((BitVec.ofInt k.bits a ||| BitVec.ofInt k.bits b).toNat)))else none
   |.xor=>if k=k' then some (.int k (k.wrap ((BitVec.ofInt k.bits a ^^^ BitVec.ofInt k.bits b).toNat)))else none
   |.andNot=>if k=k' then some (.int k (k.wrap ((BitVec.ofInt k.bits a &&& ~~~ BitVec.ofInt k.bits b).toNat)))else none
   |.eql=>if k=k' then some (.bool (a==b))else none
   |.neq=>if k=k' then some (.bool (a != b))else none
   |.lss=>if k=k' then some (.bool (decide (a<b)))else none
   |.leq=>if k=k' then some (.bool (decide (a≤b)))else none
   |.gtr=>if k=k' then some (.bool (decide (b<a)))else none
   |.geq=>if k=k' then some (.bool (decide (b≤a)))else none
 |.str a,.str b =>
   match op with
   |.add=>if a.length+b.length<4611686018427387904 then some (.str (a++b))else none
   |.eql=>some (.bool (a==b))
   |.neq=>some (.bool !(a==b))
   |.lss=>some (.bool (Op.bytesLess a b))
   |.leq=>some (.bool (Op.bytesLess a b||a==b))
   |.gtr=>some (.bool !(Op.bytesLess a b||a==b))
   |.geq=>some (.bool !(Op.bytesLess a b))
   |_=>none
 |_,_=>none
def eQ:EqC→V→V→Option Bool
 |.int,.int k a,.int k' b=>if k=k' then some (a==b)else none
 |.str,.str a,.str b=>some (a==b)
 |.bool,.bool a,.bool b=>some (a==b)
 |.ptr,.nilptr,.nilptr=>some true
 |.ptr,.nilptr,.ptr _ _=>some false
 |.ptr,.ptr _ _,.nilptr=>some false
 |.ptr,.ptr b o,.ptr b' o'=>if b=b' then some (o==o')else none
 |.sl,.nilsl,.nilsl=>some true
 |.sl,.nilsl,.sl ..=>some false
 |.sl,.sl ..,.nilsl=>some false
 |.map,.nilmap,.nilmap=>some true
 |.map,.nilmap,.map _=>some false
 |.map,.map _,.nilmap=>some false
 |.fn,.nilfn,.nilfn=>some true
 |.fn,.nilfn,.fn ..=>some false
 |.fn,.fn ..,.nilfn=>some false
 |.iface,.nilif,.nilif=>some true
 |.iface,.nilif,.iface ..=>some false
 |.iface,.iface ..,.nilif=>some false
 |_,_,_=>none
def fF:List EqC→List V→List V→Option Bool
 |[],[],[]=>some true
 |c::cs,x::xs,y::ys =>
   match eQ c x y with
   |some true=>fF cs xs ys
   |some false=>some false
   |none=>none
 |_,_,_=>none
def OJ(ok:List Nat):V→V→Option Bool
 |.nilif,.iface ..=>some false
 |.iface ..,.nilif=>some false
 |.iface t (.int k a),.iface t' (.int k' b)=>if t=t' then(if k=k'∧t∈ok then some (a==b)else none)else some false
 |_,_=>none
def partOf(off n:Nat)(agg:Bool)(cs:List V):Option V:=
 if agg then(if off+n≤cs.length then some (.agg ((cs.drop off).take n))else none)
 else cs[off]?
def di(ρ:Opd→V):List V→List (Nat × Nat × Opd)→Option (List V)
 |cs,[]=>some cs
 |cs,(off,n,x)::rest =>
   let p:=(ρ x).cells
   if p.length=n∧off+n≤cs.length∧p.all V.flat then di ρ (cs.take off++p++cs.drop (off+n)) rest else none
def fK(ρ:Opd→V)(len:Nat)(l h:Option Opd):Option (Nat × Nat):=
 match (match h with|none=>some len|some y=>match ρ y with|.int _ j=>if 0≤j∧j≤len then some j.toNat else none|_=>none)with
 |none=>none
 |some j =>
   match l with
   |none=>some (0,j)
   |some x=>match ρ x with|.int _ i=>if 0≤i∧i≤j then some (i.toNat,j)else none|_=>none
def Kr(mx:Bool):V→V→Option V
 |.int k a,.int k' b=>if k=k' then some (.int k (if mx then(if a<b then b else a)else(if b<a then b else a)))else none
 |_,_=>none
def uu(mx:Bool):V→List V→Option V
 |v,[]=>some v
 |v,x::xs=>match Kr mx v x with|some w=>uu mx w xs|none=>none
def PK.ev(ρ:Opd→V):PK→Option V
 |.mv x=>some (ρ x)
 |.pick c a b=>match ρ c with|.bool c=>some (if c then ρ a else ρ b)|_=>none
 |.bin op x y=>bK op (ρ x) (ρ y)
 |.eq c neg x y=>(eQ c (ρ x) (ρ y)).map fun b=>.bool (if neg then !b else b)
 |.eqAgg cs neg x y=>match ρ x,ρ y with|.agg xs,.agg ys=>(fF cs xs ys).map fun b=>.bool (if neg then !b else b)|_,_=>none
 |.un op x=>match op,ρ x with|.neg,.int k n=>some (.int k (k.wrap (0-n)))|.not,.bool b=>some (.bool !b)|.xor,.int k n=>some (.int k (k.wrap ((BitVec.ofInt k.bits (if k.signed then -1 else k.max) ^^^ BitVec.ofInt k.bits n).toNat)))|_,_=>none
 |.convInt k x=>match ρ x with|.int _ n=>some (.int k (k.wrap n))|_=>none
 |.convStr x=>match ρ x with|.str s=>some (.str s)|_=>none
 |.subStr x l h=>match ρ x with|.str s=>(fK ρ s.length l h).map fun(i,j)=>.str ((s.take j).drop i)|_=>none
 |.subSl es x l h =>
   match ρ x with
   |.sl b o es' n=>if es=es' then(fK ρ n l h).map fun(i,j)=>.sl b (o+i*es) es (j-i)else none
   |.nilsl=>(fK ρ 0 l h).map fun _=>.nilsl
   |_=>none
 |.idxStr x i=>match ρ x,ρ i with|.str s,.int _ n=>if 0≤n then(s[n.toNat]?).map fun c=>.int .u8 c.toNat else none|_,_=>none
 |.idxAgg len es agg x i=>match ρ x,ρ i with|.agg cs,.int _ n=>if 0≤n∧n<len then partOf (n.toNat*es) es agg cs else none|_,_=>none
 |.field off n agg x=>match ρ x with|.agg cs=>partOf off n agg cs|_=>none
 |.fieldAt off x=>match ρ x with|.ptr b o=>some (.ptr b (o+off))|_=>none
 |.idxSl es x i=>match ρ x,ρ i with|.sl b o es' n,.int _ j=>if es=es'∧0≤j∧j<n then some (.ptr b (o+j.toNat*es))else none|_,_=>none
 |.idxArr len es x i=>match ρ x,ρ i with|.ptr b o,.int _ j=>if 0≤j∧j<len then some (.ptr b (o+j.toNat*es))else none|_,_=>none
 |.ext x i=>match ρ x with|.tup vs=>vs[i]?|_=>none
 |.byteStr txt x=>match ρ x with|.int .u8 n=>some (if txt then .str [UInt8.ofNat n.toNat]else .undef)|_=>none
 |.idxByte x c=>match ρ x,ρ c with|.str s,.int .u8 n=>some (.int .i64 (mG (UInt8.ofNat n.toNat) s))|_,_=>none
 |.dataSl x=>match ρ x with|.sl b o _ n=>if 0<n then some (.ptr b o)else none|.nilsl=>some .nilptr|_=>none
 |.mkIf t x=>some (.iface t (ρ x))
 |.mkFn f first cap=>some (.fn f (first.map ρ) (cap.map ρ))
 |.build zero parts=>(di ρ zero parts).map .agg
 |.nilchk x=>match ρ x with|.nilptr|.nilif|.nilfn|.undef|.any=>none|.fn f a b=>some (.fn f a b)|v=>some v
 |.lenStr x=>match ρ x with|.str s=>some (.int .i64 s.length)|_=>none
 |.lenSl x=>match ρ x with|.sl _ _ _ n=>some (.int .i64 n)|.nilsl=>some (.int .i64 0)|_=>none
 |.lenK n=>some (.int .i64 n)
 |.mnmx mx x xs=>uu mx (ρ x) (xs.map ρ)
 |.unwrap t x=>match ρ x with|.iface t' v=>if t=t' then some v else none|_=>none
 |.eqIf ok neg x y=>(OJ ok (ρ x) (ρ y)).map fun b=>.bool (if neg then !b else b)
def bH:KC→V→V→Option Bool
 |.one c,x,y=>eQ c x y
 |.agg cs,.agg xs,.agg ys=>fF cs xs ys
 |_,_,_=>none
abbrev Ents:=List (V × V × Nat)
def aK(kc:KC)(k:V):Ents→Option (Option (V × Nat))
 |[]=>some none
 | e::es=>match bH kc k e.1 with
   |some true=>some (some (e.2.1,e.2.2))
   |some false=>aK kc k es
   |none=>none
def sD(kc:KC)(k v:V):Ents→Ents
 |[]=>[]
 |e::es=>if bH kc k e.1=some true then(k,v,e.2.2)::es else e::sD kc k v es
def Am(kc:KC)(k:V):Ents→Ents
 |[]=>[]
 |e::es=>if bH kc k e.1=some true then es else e::Am kc k es
def iQ(n:Nat)(v:V):Ents→Ents
 |[]=>[]
 |e::es=>if e.2.2=n then(e.1,v,e.2.2)::es else e::iQ n v es
def bV(n:Nat):Ents→Option (V × V)
 |[]=>none
 |e::es=>if e.2.2=n then some (e.1,e.2.1)else bV n es
def bytesOf:List V→Option (List UInt8)
 |[]=>some []
 |.int .u8 n::vs=>match bytesOf vs with|some s=>some (UInt8.ofNat n.toNat::s)|none=>none
 |_=>none
def RK.ev(ρ:Opd→V)(h:H):RK→Option V
 |.load n agg x =>
   match ρ x with
   | .ptr b o=>match h b with
     |some (.cells cs _)=>partOf o n agg cs
     |_=>none
   |_=>none
 |.lookup kc zero ok m k =>
   if bH kc (ρ k) (ρ k)=some true then
    match ρ m with
    |.nilmap=>some (if ok then .tup [zero,.bool false]else zero)
    | .map b=>match h b with
      |some (.map es _) =>
        match aK kc (ρ k) es with
        |some (some (v,_))=>some (if ok then .tup [v,.bool true]else v)
        |some none=>some (if ok then .tup [zero,.bool false]else zero)
        |none=>none
      |_=>none
    |_=>none
   else none
 |.lenMap m =>
   match ρ m with
   |.nilmap=>some (.int .i64 0)
   | .map b=>match h b with
     |some (.map es _)=>some (.int .i64 es.length)
     |_=>none
   |_=>none
 |.toStr x =>
   match ρ x with
   |.nilsl=>some (.str [])
   | .sl b o es n=>match h b with
     |some (.cells cs _)=>if es=1∧o+n≤cs.length then(bytesOf ((cs.drop o).take n)).map .str else none
     |_=>none
   |_=>none
 |.entry it =>
   match ρ it with
   | .ptr i 0=>match h i with
     | some (.iter (some m) _ seen stepped)=>match h m with
       |some (.map es clock) =>
         match seen.getLast? with
         |some n=>if clock=stepped then(bV n es).map fun(k,v)=>.tup [k,v]else none
         |none=>none
       |_=>none
     |_=>none
   |_=>none
 |.slArr len es x l h' =>
   match ρ x with
   | .ptr b o=>match h b with
     |some (.cells cs _)=>if o+len*es≤cs.length then(fK ρ len l h').map fun(i,j)=>.sl b (o+i*es) es (j-i)else none
     |_=>none
   |_=>none
 |.uns x =>
   match ρ x with
   | .ptr b 0=>match h b with
     |some (.cells _ _)=>if isW b then some (.ptr b 0)else none
     |_=>none
   |_=>none
 |.idxSub g x y =>
   match ρ x,ρ y,h g with
   |.str s,.str t,some (.cells [.int .i64 m] _)=>if 2≤t.length∧(t.length:Int)≤m∧s.length<4294967281 then some (.int .i64 (cu t s))else none
   |_,_,_=>none
def zeros(zero:List V)(n:Nat):List V:=(List.replicate n zero).flatten
def bytesIn(s:List UInt8):List V:=s.map fun c=>.int .u8 c.toNat
def AK.ev(ρ:Opd→V):AK→Option (AObj × (Nat→V))
 |.alloc zero|.allocW zero=>some (.cells zero false,fun b=>.ptr b 0)
 |.box x=>if(ρ x).cells.all V.flat then some (.cells (ρ x).cells false,fun b=>.ptr b 0)else none
 |.mkSl zero es len parts=>(di ρ (zeros zero len) parts).map fun cs=>(.cells cs false,fun b=>.sl b 0 es len)
 |.mkMap=>some (.map [] 0,fun b=>.map b)
 |.make zero es bytes l c =>
   match ρ l,ρ c with
   |.int .i64 n,.int .i64 m=>if 0≤n∧n≤m∧m*bytes≤1099511627776∧m≤1099511627776 then some (.cells (zeros zero m.toNat) false,fun b=>.sl b 0 es n.toNat)else none
   |_,_=>none
 |.toBytes x=>match ρ x with|.str s=>some (.cells (bytesIn s) false,fun b=>.sl b 0 1 s.length)|_=>none
def AK.fits(b:Nat):AK→Prop
 |.make _ _ bytes _ _=>bytes=1→isB b
 |.allocW _=>isW b
 |_=>True
inductive Callee where
 |fn (f:Nat)
 |round (l:Nat)
abbrev CP:=Callee→List V→H→(V→H→Prop)→Prop
def dI(es:Nat)(h:H):V→Option (Nat × List V)
 |.nilsl=>some (0,[])
 |.str s=>if es=1 then some (s.length,bytesIn s)else none
 | .sl b o es' n=>match h b with
   |some (.cells cs _)=>if es=es'∧o+n*es≤cs.length then some (n,(cs.drop o).take (n*es))else none
   |_=>none
 |_=>none
def candidates(es:Ents)(since:Nat)(seen:List Nat):List (Option (V × V × Nat)):=
 let left:=es.filter fun e=>!seen.contains e.2.2
 let old:=left.filter fun e=>decide (e.2.2<since)
 let new:=left.filter fun e=>!decide (e.2.2<since)
 (if old.isEmpty then [none]else [])++(old++new).map some
def vO(call:CP)(f:V)(args:List V)(h:H)(Q:V→H→Prop):Prop:=
 match f with
 |.fn f first cap=>call (.fn f) (first++args++cap) h Q
 |.yield l=>call (.round l) args h Q
 |_=>False
def HK.E(call:CP)(ρ:Opd→V)(h:H)(Q:V→H→Prop):HK→Prop
 |.store n x v =>
   match ρ x with
   | .ptr b o=>match h b with
     |some (.cells cs false)=>(ρ v).cells.length=n∧o+n≤cs.length∧(ρ v).cells.all V.flat=true∧Q .undef (hadd h b (.cells (cs.take o++(ρ v).cells++cs.drop (o+n)) false))
     |_=>False
   |_=>False
 |.call f args=>vO call (ρ f) (args.map ρ) h Q
 |.app es bytes x y =>
   match dI es h (ρ y)with
   |none=>False
   |some (n,new) =>
     match ρ x with
     |.nilsl=>if n=0 then Q .nilsl h else n*bytes≤1099511627776∧n≤1099511627776∧∀b',h b'=none→(bytes=1→isB b')→Q (.sl b' 0 es n) (hadd h b' (.cells new false))
     |.sl b o es' len =>
       if n=0 then es=es'∧Q (.sl b o es len) h else
       match h b with
       | some (.cells cs false)=>es=es'∧o+len*es≤cs.length∧(len+n)*bytes≤1099511627776∧len+n≤1099511627776 ∧
         ∀b',b'≠b→h b'=none→(bytes=1→isB b→isB b')→Q (.sl b' 0 es (len+n)) (hadd (hset h b none) b' (.cells ((cs.drop o).take (len*es)++new) false))
       |_=>False
     |_=>False
 |.copy es x y =>
   match dI es h (ρ y)with
   |none=>False
   |some (n,new) =>
     match ρ x with
     |.nilsl=>Q (.int .i64 0) h
     |.sl b o es' len =>
       match h b with
       | some (.cells cs false)=>es=es'∧o+len*es≤cs.length ∧
         Q (.int .i64 (min n len:Nat)) (hadd h b (.cells (cs.take o++new.take (min n len*es)++cs.drop (o+min n len*es)) false))
       |_=>False
     |_=>False
 |.mapUpd kc m k v =>
   match ρ m with
   | .map b=>match h b with
     | some (.map es clock)=>bH kc (ρ k) (ρ k)=some true ∧
       match aK kc (ρ k) es with
       |some (some _)=>Q .undef (hadd h b (.map (sD kc (ρ k) (ρ v) es) clock))
       |some none=>Q .undef (hadd h b (.map (es++[(ρ k,ρ v,clock)]) (clock+1)))
       |none=>False
     |_=>False
   |_=>False
 |.mapEntry kc zero m k =>
   match ρ m with
   | .map b=>match h b with
     | some (.map es clock)=>bH kc (ρ k) (ρ k)=some true ∧
       match aK kc (ρ k) es with
       |some (some (v,n))=>Q (.tup [v,.int .i64 n]) (hadd h b (.map (sD kc (ρ k) v es) clock))
       |some none=>Q (.tup [zero,.int .i64 clock]) (hadd h b (.map (es++[(ρ k,zero,clock)]) (clock+1)))
       |none=>False
     |_=>False
   |_=>False
 |.entryStore m s v =>
   match ρ m,ρ s with
   | .map b,.int .i64 n=>match h b with
     |some (.map es clock)=>0≤n∧(bV n.toNat es).isSome=true∧Q .undef (hadd h b (.map (iQ n.toNat (ρ v) es) clock))
     |_=>False
   |_,_=>False
 |.delete kc m k =>
   match ρ m with
   | .map b=>match h b with
     | some (.map es clock)=>bH kc (ρ k) (ρ k)=some true ∧
       match aK kc (ρ k) es with
       |some _=>Q .undef (hadd h b (.map (Am kc (ρ k) es) clock))
       |none=>False
     |_=>False
   |_=>False
 |.range m =>
   match ρ m with
   |.nilmap=>∀b',h b'=none→Q (.ptr b' 0) (hadd h b' (.iter none 0 [] 0))
   | .map b=>match h b with
     |some (.map _ clock)=>∀b',h b'=none→Q (.ptr b' 0) (hadd h b' (.iter (some b) clock [] clock))
     |_=>False
   |_=>False
 |.next it =>
   match ρ it with
   | .ptr i 0=>match h i with
     |some (.iter none _ _ _)=>Q (.tup [.bool false]) h
     | some (.iter (some m) since seen stepped)=>match h m with
       | some (.map es clock)=>(!seen.isEmpty&&!es.isEmpty&&es.all fun e=>decide (stepped≤e.2.2))=false ∧
         ∀x∈candidates es since seen,match x with
           |some e=>Q (.tup [.bool true,e.1,e.2.1]) (hadd h i (.iter (some m) since (seen++[e.2.2]) clock))
           |none=>Q (.tup [.bool false]) h
       |_=>False
     |_=>False
   |_=>False
 |.rangeStr s=>match ρ s with|.str s=>∀b',h b'=none→Q (.ptr b' 0) (hadd h b' (.sit s 0))|_=>False
 |.nextStr it =>
   match ρ it with
   | .ptr i 0=>match h i with
     |some (.sit s pos) =>
       if pos<s.length then Q (.tup [.bool true,.int .i64 pos,.int .i32 (Utf8.decode ⟨s.toArray⟩ pos).1]) (hadd h i (.sit s (pos+(Utf8.decode ⟨s.toArray⟩ pos).2)))
       else Q (.tup [.bool false]) h
     |_=>False
   |_=>False
 |.clone x =>
   match ρ x with
   | .iface t (.map b)=>match h b with
     |some (.map es clock)=>∀b',h b'=none→Q (.iface t (.map b')) (hadd h b' (.map es clock))
     |_=>False
   |_=>False
 |.ustr p n =>
   match ρ n with
   | .int .i64 k=>0≤k∧k≤9223372036854775807∧match ρ p with
     |.nilptr=>k=0∧Q (.str []) h
     | .ptr b o=>if k=0 then Q (.str []) h else
       match h b with
       | some (.cells cs false)=>isB b∧o+k.toNat≤cs.length∧match bytesOf ((cs.drop o).take k.toNat)with
         |some s=>Q (.str s) (hadd h b (.cells cs true))
         |none=>False
       |_=>False
     |_=>False
   |_=>False
 |.dfr _ _=>False
section
variable{ρ:Opd→V}{h:H}
theorem cZ{h:H}{b i:Nat}{o x:AObj}(hb:h b=none)(hi:h i=some x):hadd h b o i=some x:=by
 have:i≠b:=fun e=>by subst e;rw[hb]at hi;cases hi
 simp[hadd,hset,this,hi]
theorem RK.ev_mono{k:RK}{v:V}{b:Nat}{o:AObj}(hb:h b=none)(he:k.ev ρ h=some v):k.ev ρ (hadd h b o)=some v:=by
 cases k<;>simp only[RK.ev]at he⊢
 case load n g x =>
  split at he<;>(try cases he;done);split at he<;>(try cases he;done);rename_i hi;rw[cZ hb hi];exact he
 case lookup kc z ok m k =>
  split at he<;>(try cases he;done);rename_i hk;rw[if_pos hk];split at he<;>(try cases he;done)
  ·exact he
  ·split at he<;>(try cases he;done);rename_i hi;rw[cZ hb hi];exact he
 case lenMap m =>
  split at he<;>(try cases he;done)
  ·exact he
  ·split at he<;>(try cases he;done);rename_i hi;rw[cZ hb hi];exact he
 case toStr x =>
  split at he<;>(try cases he;done)
  ·exact he
  ·split at he<;>(try cases he;done);rename_i hi;rw[cZ hb hi];exact he
 case entry it =>
  split at he<;>(try cases he;done);split at he<;>(try cases he;done);rename_i hi;rw[cZ hb hi];simp only;split at he<;>(try cases he;done);rename_i hi;rw[cZ hb hi];exact he
 case slArr len es x l hh =>
  split at he<;>(try cases he;done);split at he<;>(try cases he;done);rename_i hi;rw[cZ hb hi];exact he
 case uns x =>
  split at he<;>(try cases he;done);split at he<;>(try cases he;done);rename_i hi;rw[cZ hb hi];exact he
 case idxSub g x y =>
  split at he<;>(try cases he;done);rename_i q1 q2 hi;rw[q1,q2,cZ hb hi];exact he
end
abbrev Rd:={f:H→Option V // ∀(h:H) (b:Nat) (o:AObj) (v:V),h b=none→f h=some v→f (hadd h b o)=some v}
def RK.rd(k:RK)(ρ:Opd→V):Rd:=⟨fun h=>k.ev ρ h,fun h b o v hb he=>RK.ev_mono hb he⟩
def az(t:Tm):Option (Nat × Bool)→Bool
 |none=>true
 |some (j,b)=>match t j with|.bool c=>c==b|_=>false
def aF(t:Tm):Option (Nat × Bool)→Prop
 |none=>True
 |some (j,_)=>(∃c,t j=.bool c)∨t j=.tup []
def bF(call:CP)(o:IOp)(a:A)(h:H)(K:V→A→H→Prop):Prop:=
 match o.k with
 |.p k=>match k.ev (Opd.ev a.t)with|some v=>K v {a with t:=put a.t o.dst v} h|none=>False
 |.r k=>match k.ev (Opd.ev a.t) h with|some v=>K v {a with t:=put a.t o.dst v} h|none=>False
 |.a k=>match k.ev (Opd.ev a.t)with|some (x,f)=>∀b,h b=none→k.fits b→K (f b) {a with t:=put a.t o.dst (f b)} (hadd h b x)|none=>False
 | .h (.dfr f args)=>match f.ev a.t with
   |.fn g first cap=>K .undef {t:=put a.t o.dst .undef,d:=(.fn g first cap,args.map (Opd.ev a.t))::a.d} h
   |_=>False
 |.h k=>k.E call (Opd.ev a.t) h fun v h'=>K v {a with t:=put a.t o.dst v} h'
def opsE(call:CP):List IOp→A→H→(A→H→Prop)→Prop
 |[],a,h,K=>K a h
 |o::l,a,h,K =>
   aF a.t o.guard ∧
   if az a.t o.guard then bF call o a h fun _ a' h'=>opsE call l a' h' K
   else opsE call l {a with t:=put a.t o.dst (.tup [])} h K
abbrev Reads:=List (Nat × Rd × V)
def Reads.hold(W:Reads)(l:List Nat)(h:H):Prop:=∀x∈W,x.1∈l→x.2.1.1 h=some x.2.2
def aT(call:CP):List IOp→Reads→A→H→(A→H→Prop)→Prop
 |[],_,a,h,K=>K a h
 |o::l,W,a,h,K =>
   aF a.t o.guard ∧
   if az a.t o.guard then
    match o.k with
    |.r k=>bF call o a h fun v a' h'=>aT call l ((o.id,k.rd (Opd.ev a.t),v)::W) a' h' K
    |.h _=>bF call o a h fun _ a' h'=>W.hold o.watch h'∧aT call l W a' h' K
    |_=>bF call o a h fun _ a' h'=>aT call l W a' h' K
   else aT call l W {a with t:=put a.t o.dst (.tup [])} h K
def andThen(K:A→H→Prop)(Q:Ex→A→H→Prop):Ex→A→H→Prop
 |.nm,a,h=>K a h
 |e,a,h=>Q e a h
def jh(id:Nat)(Q:Ex→A→H→Prop):Ex→A→H→Prop
 |.exit i,a,h=>if i=id then Q .nm a h else Q (.exit i) a h
 |e,a,h=>Q e a h
def E(call:CP):IC→A→H→(Ex→A→H→Prop)→Prop
 |.skip,a,h,Q=>Q .nm a h
 |.ops l,a,h,Q=>opsE call l a h (Q .nm)
 |.draw l,a,h,Q=>aT call l [] a h (Q .nm)
 |.seq c d,a,h,Q=>E call c a h (andThen (fun a h=>E call d a h Q) Q)
 | .cond x c d,a,h,Q=>match x.ev a.t with
   |.bool b=>(b=true→E call c a h Q)∧(b=false→E call d a h Q)
   |_=>False
 |.block id c,a,h,Q=>E call c a h (jh id Q)
 |.loop c,a,h,Q=>∀X:A→H→Prop,(∀a h,E call c a h (andThen X Q)→X a h)→X a h
 | .rangeFn f ps as bd,a,h,Q=>∀l,h l=none →
   match f.ev a.t with
   |.fn g first cap=>call (.fn g) (first++[.yield l]++cap) (hadd h l (.loop a.t ps as bd .ready none)) fun _ h' =>
     ∃t ps as bd st pd,h' l=some (.loop t ps as bd st pd)∧st≠.busy∧Q (pd.getD .nm) a (hset h' l none)
   |_=>False
 |.exit id,a,h,Q=>Q (.exit id) a h
 |.ret,a,h,Q=>Q .ret a h
inductive Res where
 |tmp (t:Nat)
 |cell (t n:Nat) (agg:Bool)
structure Fn where
 n:Nat
 res:List Res
 body:IC
structure Pg where
 fns:Nat→Option Fn
 known:Nat→List V→Option V
def kU(t:Tm)(h:H):Res→Option V
 |.tmp i=>match t i with|.undef=>none|v=>some v
 | .cell i n agg=>match t i with
   | .ptr b o=>match h b with
     |some (.cells cs _)=>partOf o n agg cs
     |_=>none
   |_=>none
def bY:List (Option V)→Option (List V)
 |[]=>some []
 |some v::l=>match bY l with|some vs=>some (v::vs)|none=>none
 |none::_=>none
def packed:List V→V
 |[v]=>v
 |vs=>.tup vs
def yz(call:CP):List (V × List V)→H→(H→Prop)→Prop
 |[],h,K=>K h
 | (f,args)::ds,h,K=>match f with
   |.fn f first cap=>call (.fn f) (first++args++cap) h fun _ h'=>yz call ds h' K
   |_=>False
def Sub(h' h:H):Prop:=∀b o,h' b=some o→h b=some o
def start(args:List V):Tm:=fun i=>(args[i]?).getD (.tup [])
def params(t:Tm):List Nat→List V→Tm
 |p::ps,v::vs=>params (upd t p v) ps vs
 |_,_=>t
def yQ:Ex→LSt
 |.nm=>.ready
 |_=>.done
def yP:Ex→Option Ex
 |.nm=>none
 |e=>some e
def F(pg:Pg)(call:CP):CP
 |.fn f,args,h,Q =>
   (∃v,pg.known f args=some v∧Q v h) ∨
   ∃g,pg.fns f=some g∧args.length≤g.n∧E call g.body ⟨start args,[]⟩ h fun e a h' =>
     (e=.nm∨e=.ret)∧yz call a.d h' fun h''=>∃vs h3,bY (g.res.map (kU a.t h''))=some vs∧Sub h3 h''∧Q (packed vs) h3
 |.round l,args,h,Q =>
   ∃t ps as bd pd,h l=some (.loop t ps as bd .ready pd)∧ps.length=args.length ∧
     E call as ⟨params t ps args,[]⟩ h fun e a h1=>e=.nm∧a.d=[] ∧
       ∃t1 ps1 as1 bd1 pd1,h1 l=some (.loop t1 ps1 as1 bd1 .ready pd1) ∧
       E call bd a (hadd h1 l (.loop t1 ps1 as1 bd1 .busy pd1)) fun e a2 h2=>a2.d=[] ∧
         ∃t2 ps2 as2 bd2 st2 pd2 h3,h2 l=some (.loop t2 ps2 as2 bd2 st2 pd2)∧Sub h3 (hadd h2 l (.loop t2 ps2 as2 bd2 (yQ e) (yP e))) ∧
           Q (.bool (e==.nm)) h3
def AC(pg:Pg):CP:=fun c args h Q=>∀X:CP,(∀c args h Q,F pg X c args h Q→X c args h Q)→X c args h Q
end
section
open Go
def Es(f:Value→Option V):List Value→Option (List V)
 |[]=>some []
 |v::vs=>match f v,Es f vs with|some x,some xs=>some (x::xs)|_,_=>none
def toV:Nat→Value→Option V
 |0,_=>none
 | n+1,v=>match v with
   |.bool b=>some (.bool b)
   |.int k i=>some (.int k i)
   |.string s=>some (.str s.data.toList)
   |.pointer none=>some .nilptr
   |.slice none 0 0=>some .nilsl
   |.map none=>some .nilmap
   |.nilFunc=>some .nilfn
   |.nilIface=>some .nilif
   |.func (.func f) a c=>if a.size=0∧c.size=0 then some (.fn f [] [])else none
   |.iface t v=>(toV n v).map (.iface t)
   |.agg cs=>(Es (toV n) cs.toList).map .agg
   |.tuple cs=>(Es (toV n) cs.toList).map .tup
   |_=>none
section
variable(P:Program)(n:Nat)
def aH:Operand→Option Opd
 |.tmp t=>if t<n then some (.tmp t)else none
 |.const v=>(toV 4 v).map .c
 |.global g=>if g<P.globals.size then some (.glob g)else none
 |.func f=>some (.c (.fn f [] []))
def jZ:List Operand→Option (List Opd)
 |[]=>some []
 |x::xs=>match aH P n x,jZ xs with|some y,some ys=>some (y::ys)|_,_=>none
def uU:Option Operand→Option (Option Opd)
 |none=>some none
 |some x=>(aH P n x).map some
def fZ(t:TypeId):Option Nat:=(P.info? t).map (·.size)
def szA(t:TypeId):Option (Nat × Bool):=match fZ P t,P.underlying t with
 |some s,some (.struct _)|some s,some (.array _ _)=>some (s,true)
 |some s,some _=>some (s,false)
 |_,_=>none
def zN(t:TypeId):Option V:=match P.info? t with
 |some i=>match i.zero with|some z=>toV 4 z|none=>none
 |none=>none
def lV(t:TypeId):Option (List V):=
 match zN P t,fZ P t with
 |some z,some s=>if z.cells.length=s∧z.cells.all V.flat∧0<s then some z.cells else none
 |_,_=>none
def QB(t:TypeId):Bool:=match P.info? t with
 |some i=>(match i.desc with|.named n _=>n == "strings.Builder" | _=>false)&&P.cellsOf t != 0&&i.size==P.cellsOf t&&liesAt P P.depth t (P.cellsOf t / P.cellsOf t) 0 t 1
 |none=>false
def Cb:Option Nat:=(List.range P.types.size).find? (QB P)
def Bq:Option Nat:=P.globals.findIdx? (·.name == "internal/bytealg.MaxLen")
def vW(t:TypeId):Option EqC:=match P.underlying t with
 |some .bool=>some .bool
 |some (.int _)=>some .int
 |some .string=>some .str
 |_=>none
def pU:List Field→Nat→Option (List EqC)
 |[],_=>some []
 |f::fs,i=>if f.name ≠ "_" ∧ f.offset=i then match vW P f.type,pU fs (i+1)with|some c,some cs=>some (c::cs)|_,_=>none else none
def fC(t:TypeId):Option (List EqC):=match P.underlying t with
 |some (.struct fs)=>if P.stoodInHeld t=false∧P.eqGuardType P.depth t=false then pU P fs.toList 0 else none
 |_=>none
def keyOf(t:TypeId):Option KC:=match vW P t with
 |some c=>some (.one c)
 |none=>(fC P t).map .agg
def nI:List Nat:=(List.range P.types.size).filter fun t=>match P.underlying t,P.info? t with
 |some (.int _),some i=>i.comparable
 |_,_=>false
def isConst:Operand→Bool
 |.const _=>true
 |_=>false
def cEq(neg:Bool)(t:TypeId)(x y:Operand)(a b:Opd):Option PK:=
 match P.underlying t with
 |some (.int _)|some .string=>some (.bin (if neg then .neq else .eql) a b)
 |some .bool=>some (.eq .bool neg a b)
 |some (.pointer e)=>match fZ P e with|some s=>if s=0 then none else some (.eq .ptr neg a b)|none=>none
 |some (.slice _)=>some (.eq .sl neg a b)
 |some (.map _ _)=>some (.eq .map neg a b)
 |some (.func _ _ _)=>some (.eq .fn neg a b)
 |some (.interface _)=>if isConst x||isConst y then some (.eq .iface neg a b)else some (.eqIf (nI P) neg a b)
 |some (.struct _)=>(fC P t).map fun cs=>.eqAgg cs neg a b
 |_=>none
def iG(place:Nat→Option (Nat × Nat)):List (Nat × Operand)→Option (List (Nat × Nat × Opd))
 |[]=>some []
 | (i,x)::ps=>match place i,aH P n x,iG place ps with
   |some (o,s),some y,some qs=>some ((o,s,y)::qs)
   |_,_,_=>none
def AO(fs:Array Field)(i:Nat):Option (Nat × Nat):=match fs[i]? with
 |some f=>(fZ P f.type).map fun s=>(f.offset,s)
 |none=>none
def fG(e:TypeId)(n:Nat):Nat:=if n=1 then(match P.underlying e with|some (.int .u8)=>if P.cellsOf e=1 then 1 else 2|_=>2)else n
def iT(b:Builtin)(args:List Operand)(ts:List TypeId):Option Kind:=
 match b,args,ts with
 | .len,[x],t::_=>match aH P n x,P.underlying t with
   |some a,some .string=>some (.p (.lenStr a))
   |some a,some (.slice _)=>some (.p (.lenSl a))
   |some a,some (.map _ _)=>some (.r (.lenMap a))
   |some _,some (.array k _)=>some (.p (.lenK k))
   |_,_=>none
 |.min,x::xs,_=>match aH P n x,jZ P n xs with|some a,some as=>some (.p (.mnmx false a as))|_,_=>none
 |.max,x::xs,_=>match aH P n x,jZ P n xs with|some a,some as=>some (.p (.mnmx true a as))|_,_=>none
 | .append,[x,y],t::u::_=>match aH P n x,aH P n y,P.underlying t,P.underlying u with
   |some a,some b,some (.slice e),some d=>if d matches .int _ then none else match lV P e,P.info? e with|some z,some i=>if 0<i.bytes∧i.bytes≤1048576 then some (.h (.app z.length (fG P e i.bytes) a b))else none|_,_=>none
   |_,_,_,_=>none
 | .unsafeString,[x,y],t::_=>match aH P n x,aH P n y,P.underlying t with
   |some a,some b,some (.pointer e)=>match P.underlying e with|some (.int .u8)=>if P.cellsOf e=1 then some (.h (.ustr a b))else none|_=>none
   |_,_,_=>none
 |.unsafeSliceData,[x],_=>(aH P n x).map fun a=>.p (.dataSl a)
 | .copy,[x,y],t::_=>match aH P n x,aH P n y,P.underlying t with
   |some a,some b,some (.slice e)=>match fZ P e with|some s=>if 0<s then some (.h (.copy s a b))else none|none=>none
   |_,_,_=>none
 | .delete,[x,y],t::_=>match aH P n x,aH P n y,P.underlying t with
   |some a,some b,some (.map k _)=>(keyOf P k).map fun kc=>.h (.delete kc a b)
   |_,_,_=>none
 |_,_,_=>none
def qB(fn:Func):Bool:=(Extern.allNextRows.lookup fn.name).isNone&&(Extern.allNextRows.lookup fn.origin).isNone
def cOp(op:Op):Option Kind:=
 match op with
 |.move x|.assign x=>(aH P n x).map fun a=>.p (.mv a)
 |.pick c a b=>match aH P n c,aH P n a,aH P n b with|some c,some a,some b=>some (.p (.pick c a b))|_,_,_=>none
 |.alloc e=>(lV P e).map fun z=>.a (if Cb P=some e then .allocW z else .alloc z)
 |.box _ x=>(aH P n x).map fun a=>.a (.box a)
 | .build t ps=>match P.underlying t,lV P t with
   |some (.struct fs),some z=>if fs.toList.all (fun f=>(fZ P f.type).isSome)then(iG P n (AO P fs) ps.toList).map fun qs=>.p (.build z qs)else none
   | some (.array _ e),some z=>match fZ P e with
     |some s=>(iG P n (fun i=>some (i*s,s)) ps.toList).map fun qs=>.p (.build z qs)
     |none=>none
   |_,_=>none
 | .buildSlice t len ps=>match P.underlying t with
   | some (.slice e)=>match lV P e with
     |some z=>if len*z.length≤16777216 then(iG P n (fun i=>some (i*z.length,z.length)) ps.toList).map fun qs=>.a (.mkSl z z.length len qs)else none
     |none=>none
   |_=>none
 | .insert t m k x|.mapUpdate t m k x=>match aH P n m,aH P n k,aH P n x,P.underlying t with
   |some m,some k,some x,some (.map kt _)=>(keyOf P kt).map fun kc=>.h (.mapUpd kc m k x)
   |_,_,_,_=>none
 |.load t x=>match aH P n x,szA P t with|some a,some (s,g)=>if 0<s then some (.r (.load s g a))else none|_,_=>none
 |.store t x v=>match aH P n x,aH P n v,fZ P t with|some a,some b,some s=>some (.h (.store s a b))|_,_,_=>none
 |.nilCheck x=>(aH P n x).map fun a=>.p (.nilchk a)
 | .binOp op t x y _=>match aH P n x,aH P n y with
   | some a,some b=>match op with
     |.eql=>(cEq P false t x y a b).map .p
     |.neq=>(cEq P true t x y a b).map .p
     |_=>some (.p (.bin op a b))
   |_,_=>none
 |.unOp op _ x=>(aH P n x).map fun a=>.p (.un op a)
 | .convert s d x=>match aH P n x,P.underlying s,P.underlying d with
   |some a,some (.int _),some (.int k)=>some (.p (.convInt k a))
   |some a,some .string,some .string=>some (.p (.convStr a))
   |some a,some (.slice e),some .string=>match P.underlying e with|some (.int .u8)=>some (.r (.toStr a))|_=>none
   |some a,some .string,some (.slice e)=>match P.underlying e with|some (.int .u8)=>some (.a (.toBytes a))|_=>none
   |some a,some (.pointer t),some .unsafePointer=>if Cb P=some t then some (.r (.uns a))else none
   |some a,some .unsafePointer,some (.pointer t)=>if Cb P=some t then some (.r (.uns a))else none
   |_,_,_=>none
 | .makeInterface t x=>match aH P n x,P.underlying t with
   |some _,some (.interface _)=>none
   |some a,some _=>some (.p (.mkIf t a))
   |_,_=>none
 |.makeFunc (.func f) a c=>match jZ P n a.toList,jZ P n c.toList with|some a,some c=>some (.p (.mkFn f a c))|_,_=>none
 |.makeMap _ none=>some (.a .mkMap)
 | .makeSlice t l c=>match aH P n l,aH P n c,P.underlying t with
   |some l,some c,some (.slice e)=>match lV P e,P.info? e with|some z,some i=>if i.bytes≤1048576 then some (.a (.make z z.length (fG P e i.bytes) l c))else none|_,_=>none
   |_,_,_=>none
 | .slice t x l h none=>match aH P n x,uU P n l,uU P n h,P.underlying t with
   |some a,some l,some h,some .string=>some (.p (.subStr a l h))
   |some a,some l,some h,some (.slice e)=>match fZ P e with|some s=>if 0<s then some (.p (.subSl s a l h))else none|none=>none
   |some a,some l,some h,some (.array k e)=>match fZ P e with|some s=>if 0<s then some (.r (.slArr k s a l h))else none|none=>none
   |_,_,_,_=>none
 | .fieldAddr t x f=>match aH P n x,P.underlying t with
   | some a,some (.struct fs)=>match fs[f]? with
     |some f=>match fZ P f.type with|some s=>if s=0 then none else some (.p (.fieldAt f.offset a))|none=>none
     |none=>none
   |_,_=>none
 | .field t x f=>match aH P n x,P.underlying t with
   | some a,some (.struct fs)=>match fs[f]? with
     |some f=>match szA P f.type with|some (s,g)=>some (.p (.field f.offset s g a))|none=>none
     |none=>none
   |_,_=>none
 | .indexAddr t x i=>match aH P n x,aH P n i,P.underlying t with
   |some a,some b,some (.slice e)=>match fZ P e with|some s=>some (.p (.idxSl s a b))|none=>none
   |some a,some b,some (.array k e)=>match fZ P e with|some s=>some (.p (.idxArr k s a b))|none=>none
   |_,_,_=>none
 | .index t x i=>match aH P n x,aH P n i,P.underlying t with
   |some a,some b,some .string=>some (.p (.idxStr a b))
   |some a,some b,some (.array k e)=>match szA P e with|some (s,g)=>some (.p (.idxAgg k s g a b))|none=>none
   |_,_,_=>none
 | .lookup t m k ok=>match aH P n m,aH P n k,P.underlying t with
   |some m,some k,some (.map kt e)=>match keyOf P kt,zN P e with|some kc,some z=>some (.r (.lookup kc z ok m k))|_,_=>none
   |_,_,_=>none
 | .mapEntry t m k=>match aH P n m,aH P n k,P.underlying t with
   |some m,some k,some (.map kt e)=>match keyOf P kt,zN P e with|some kc,some z=>some (.h (.mapEntry kc z m k))|_,_=>none
   |_,_,_=>none
 |.entryStore _ m s v=>match aH P n m,aH P n s,aH P n v with|some m,some s,some v=>some (.h (.entryStore m s v))|_,_,_=>none
 | .range t x=>match aH P n x,P.underlying t with
   |some a,some (.map _ _)=>some (.h (.range a))
   |some a,some .string=>some (.h (.rangeStr a))
   |_,_=>none
 |.next it s=>(aH P n it).map fun a=>if s then .h (.nextStr a)else .h (.next a)
 |.entry it=>(aH P n it).map fun a=>.r (.entry a)
 | .typeAssert x _ t false=>match aH P n x,P.underlying t with
   |some _,some (.interface _)=>none
   |some a,some _=>some (.p (.unwrap t a))
   |_,_=>none
 |.extract x i=>(aH P n x).map fun a=>.p (.ext a i)
 | .call c=>match c.callee with
   |.builtin b=>iT P n b c.args.toList c.argTypes.toList
   | .value (.func f)=>match P.funcs[f]? with
     | some fn=>if fn.body.isNone∧fn.name = "maps.clone" ∧ qB fn then match c.args.toList with|[x]=>(aH P n x).map fun a=>.h (.clone a)|_=>none
       else if fn.body.isNone∧fn.name = "internal/bytealg.IndexByteString" ∧ qB fn then match c.args.toList with
        |[x,y]=>match aH P n x,aH P n y with|some a,some b=>some (.p (.idxByte a b))|_,_=>none
        |_=>none
       else if fn.body.isNone∧fn.name = "internal/abi.NoEscape" ∧ qB fn then match c.args.toList with|[x]=>(aH P n x).map fun a=>.p (.mv a)|_=>none
       else if fn.body.isNone∧fn.name = "internal/bytealg.IndexString" ∧ qB fn then match c.args.toList with
        |[x,y]=>match aH P n x,aH P n y,Bq P with|some a,some b,some g=>if g<P.globals.size then some (.r (.idxSub g a b))else none|_,_,_=>none
        |_=>none
       else(jZ P n c.args.toList).map fun as=>.h (.call (.c (.fn f [] [])) as)
     |none=>none
   |.value f=>match aH P n f,jZ P n c.args.toList with|some f,some as=>some (.h (.call f as))|_,_=>none
   |_=>none
 | .defer c=>match c.callee with
   |.value f=>match aH P n f,jZ P n c.args.toList with|some f,some as=>some (.h (.dfr f as))|_,_=>none
   |_=>none
 |_=>none
def Ae(ops:Array Oper):Option (Nat × Bool)→Option (Option (Nat × Bool))
 |none=>some none
 |some (j,b)=>match (ops[j]?).bind (·.dst)with|some d=>if d<n then some (some (d,b))else none|none=>none
def Cm:Option Tmp→Bool
 |none=>true
 |some d=>decide (d<n)
def N9:Kind:=.p (.ext (.c .undef) 0)
def qK:IC:=.cond (.c .undef) .skip .skip
def Gm(ops:Array Oper)(o:Oper):Option IOp:=
 match Ae n ops o.guard with
 |some g=>if Cm n o.dst then some {dst:=o.dst,guard:=g,k:=(cOp P n o.op).getD N9} else none
 |none=>none
def mQ(ops:Array Oper):List Oper→Option (List IOp)
 |[]=>some []
 |o::os=>match Gm P n ops o,mQ ops os with|some x,some xs=>some (x::xs)|_,_=>none
def tK(M:List Nat)(o:Oper):Nat:=o.after.toList.foldl (fun s e=>if Region.binds .any e then s ||| 2 ^ e.on ||| M.getD e.on 0 else s) 0
def masks:List Oper→List Nat→List Nat
 |[],M=>M
 |o::os,M=>masks os (M++[tK M o])
def Kind.heavy:Kind→Bool
 |.h _=>true
 |_=>false
def Kind.read:Kind→Bool
 |.r _=>true
 |_=>false
def Kind.makes:Kind→Bool
 |.a _=>true
 |_=>false
def oo:Option Opd→List Opd
 |some x=>[x]
 |none=>[]
def PK.opds:PK→List Opd
 |.mv x|.un _ x|.convInt _ x|.convStr x|.field _ _ _ x|.fieldAt _ x|.ext x _|.mkIf _ x|.nilchk x|.lenStr x|.lenSl x|.unwrap _ x|.byteStr _ x|.dataSl x=>[x]
 |.pick c a b=>[c,a,b]
 |.idxByte x y|.eqIf _ _ x y|.bin _ x y|.eq _ _ x y|.eqAgg _ _ x y|.idxStr x y|.idxAgg _ _ _ x y|.idxSl _ x y|.idxArr _ _ x y=>[x,y]
 |.subStr x l h|.subSl _ x l h=>x::(oo l++oo h)
 |.mkFn _ a c=>a++c
 |.build _ ps=>ps.map fun p=>p.2.2
 |.lenK _=>[]
 |.mnmx _ x xs=>x::xs
def RK.opds:RK→List Opd
 |.load _ _ x|.lenMap x|.toStr x|.entry x|.uns x=>[x]
 |.idxSub _ x y=>[x,y]
 |.lookup _ _ _ m k=>[m,k]
 |.slArr _ _ x l h=>x::(oo l++oo h)
def AK.opds:AK→List Opd
 |.alloc _|.allocW _|.mkMap=>[]
 |.box x|.toBytes x=>[x]
 |.mkSl _ _ _ ps=>ps.map fun p=>p.2.2
 |.make _ _ _ l c=>[l,c]
def HK.opds:HK→List Opd
 |.store _ x y|.ustr x y|.app _ _ x y|.copy _ x y|.delete _ x y=>[x,y]
 |.call g as|.dfr g as=>g::as
 |.mapUpd _ m k v|.entryStore m k v=>[m,k,v]
 |.mapEntry _ _ m k=>[m,k]
 |.range x|.next x|.rangeStr x|.nextStr x|.clone x=>[x]
def Kind.opds:Kind→List Opd
 |.p k=>k.opds
 |.r k=>k.opds
 |.a k=>k.opds
 |.h k=>k.opds
def uO:Opd→Option Nat
 |.tmp t=>some t
 |_=>none
def IOp.looks(o:IOp):List Nat:=o.k.opds.filterMap uO++(match o.guard with|some (j,_)=>[j]|none=>[])
def IOp.apart(x y:IOp):Bool:=
 (match x.dst with|some d=>!y.looks.contains d&&y.dst != some d|none=>true) &&
 (match y.dst with|some d=>!x.looks.contains d|none=>true)
def IOp.swaps(x y:IOp):Bool:=
 !x.k.heavy&&x.apart y&&(!y.k.heavy||(!x.k.makes&&(!x.k.read||y.watch.contains x.id)))
def Kind.plainCall:Kind→Bool
 |.h (.call (.c (.fn _ [] [])) _)=>true
 |_=>false
def Kind.light:Kind→Bool
 |.p _|.a _=>true
 |_=>false
def IOp.lets(x y:IOp):Bool:=x.k.plainCall&&x.apart y&&y.k.light
def ordered(M:List Nat)(x y:Nat):Bool:=(M.getD y 0).testBit x
def rY(M:List Nat):List IOp→Bool
 |[]=>true
 |x::l=>l.all (fun y=>!ordered M y.id x.id&&(ordered M x.id y.id||(x.swaps y||x.lets y)))&&rY M l
def held(M:List Nat)(l:List IOp)(y r:IOp):Bool:=y.k.plainCall&&l.any fun a=>a.k.makes&&!ordered M a.id y.id&&(a.id==r.id||ordered M a.id r.id)
def plan(M:List Nat)(l:List IOp):List IOp→List Nat→List Nat
 |[],done=>done++(l.map (·.id)).filter fun i=>!done.contains i
 |y::hs,done=>plan M l hs (done++((l.filter fun r=>!r.k.heavy&&!(M.getD r.id 0).testBit y.id&&!done.contains r.id&&!held M l y r).map (·.id))++[y.id])
def watched(M:List Nat)(l:List IOp)(o:IOp):IOp:=
 if o.k.heavy then {o with watch:=(l.filter fun r=>r.k.read&&!ordered M r.id o.id&&!ordered M o.id r.id).map (·.id)} else o
def numbered:List IOp→Nat→List IOp
 |[],_=>[]
 |o::l,i=>{o with id:=i}::numbered l (i+1)
def rq:List Oper→Nat→Bool
 |[],_=>true
 |o::l,i=>o.after.toList.all (fun e=>!Region.binds .any e||decide (e.on<i))&&rq l (i+1)
def nodup:List Nat→Bool
 |[]=>true
 |x::l=>!l.contains x&&nodup l
def JI(ops:Array Oper):Option (List IOp):=
 match mQ P n ops ops.toList with
 |none=>none
 |some l0 =>
   let M:=masks ops.toList []
   let l:=(numbered l0 0).map (watched M (numbered l0 0))
   let order:=plan M l (l.filter (·.k.heavy)) []
   let told:=order.filterMap fun i=>l[i]?
   if rq ops.toList 0&&nodup order&&(List.range l.length).all order.contains&&decide (order.length≤l.length)&&order.all (fun i=>decide (i<l.length))&&rY M told then some told else none
def qx:List IOp→Nat→Nat→Option (Nat × Opd)
 |[],_,_=>none
 | o::l,t,s=>match o.k with
   |.a (.mkSl [.int .u8 0] 1 1 [(0,1,x)])=>if o.dst=some t then some (s,x)else qx l t (s+1)
   |_=>qx l t (s+1)
def qy(all:List IOp):List IOp→Nat→Option (Nat × Nat × Nat × Opd)
 |[],_=>none
 | o::l,s=>match o.k with
   |.r (.toStr (.tmp t))=>match qx all t 0 with|some (j,x)=>some (s,j,t,x)|none=>qy all l (s+1)
   |_=>qy all l (s+1)
def AQ(M:List Nat)(i j t:Nat)(x:Opd)(g:Option (Nat × Bool))(io:IOp):Bool:=
 !io.looks.contains t&&(io.id==j||(io.dst != some t&&(ordered M io.id j||(match io.dst with|none=>true|some d=>uO x != some d&&(match g with|some (y,_)=>y != d|none=>true)))))
def JJ(ops:Array Oper):Option (List IOp):=
 match mQ P n ops ops.toList with
 |none=>none
 | some l0=>match qy l0 l0 0 with
   |none=>none
   | some (i,j,t,x)=>match l0[i]?,l0[j]? with
     |some oi,some oj =>
       let M:=masks ops.toList []
       let l1:=(l0.set j {oj with k:=.p (.byteStr false x)}).set i {oi with k:=.p (.byteStr true x)}
       let l:=(numbered l1 0).map (watched M (numbered l1 0))
       let order:=plan M l (l.filter (·.k.heavy)) []
       let told:=order.filterMap fun i=>l[i]?
       if rq ops.toList 0&&nodup order&&(List.range l.length).all order.contains&&decide (order.length≤l.length)&&order.all (fun i=>decide (i<l.length))&&rY M told &&
        i != j&&oi.guard==oj.guard&&ordered M j i&&told.all (AQ M i j t x oj.guard)then some told else none
     |_,_=>none
def Rf(ops:Array Oper):Option (List IOp):=
 match JI P n ops with
 |some l=>some l
 |none=>JJ P n ops
def AV:List IOp→Bool
 |[]=>false
 |o::l=>(match o.k with|.h (.dfr _ _)=>true|_=>false)||AV l
def IC.defers:IC→Bool
 |.ops l|.draw l=>AV l
 |.seq a b|.cond _ a b=>a.defers||b.defers
 |.block _ c|.loop c=>c.defers
 |.rangeFn _ _ _ _=>true
 |_=>false
def comp:Code→Option IC
 |.skip=>some .skip
 |.region _ ops false=>some (match mQ P n ops ops.toList with|some l=>.ops l|none=>qK)
 |.region _ ops true=>some (match Rf P n ops with|some l=>.draw l|none=>qK)
 |.seq a b=>match comp a,comp b with|some x,some y=>some (.seq x y)|_,_=>none
 |.cond c a b=>match aH P n c,comp a,comp b with|some c,some x,some y=>some (.cond c x y)|none,_,_=>some qK|_,_,_=>none
 |.block id c=>(comp c).map (.block id)
 |.loop c=>(comp c).map .loop
 | .rangeFunc f ps a b=>match aH P n f,comp a,comp b with
   |some f,some x,some y=>if x.defers=false∧y.defers=false∧ps.toList.all (fun p=>decide (p<n))then some (.rangeFn f ps.toList x y)else some qK
   |_,_,_=>some qK
 |.exit id=>some (.exit id)
 |.ret=>some .ret
 |.scope c=>comp c
 |.label _=>some .skip
 |_=>some qK
def Af:List ResultVar→Option (List Res)
 |[]=>some []
 |.tmp t::rs=>match Af rs with|some l=>if t<n then some (.tmp t::l)else none|none=>none
 |.cell t ty::rs=>match Af rs,szA P ty with|some l,some (s,g)=>if t<n∧0<s then some (.cell t s g::l)else none|_,_=>none
end
def compF(P:Program)(f:Func):Option Fn:=
 match f.body with
 |none=>none
 | some c=>match comp P f.ntmps c,Af P f.ntmps f.results.toList with
   |some b,some r=>some {n:=f.ntmps,res:=r,body:=b}
   |_,_=>none
end
section
open Go
variable{ρ ρ':Opd→V}{h h':H}{call:CP}
def LeM(X Y:CP):Prop:=∀c args h (Q Q':V→H→Prop),(∀v h,Q v h→Q' v h)→X c args h Q→Y c args h Q'
abbrev mF(call:CP):Prop:=LeM call call
theorem jB{l hh:Option Opd}(len:Nat)(e:∀x∈oo l++oo hh,ρ x=ρ' x):fK ρ len l hh=fK ρ' len l hh:=by
 cases l<;>cases hh<;>simp only[oo,List.mem_append,List.mem_singleton,List.not_mem_nil,or_false,false_or]at e<;>simp only[fK]
 ·rw[e _ rfl]
 ·rw[e _ rfl]
 ·rename_i x y;rw[e x (.inl rfl),e y (.inr rfl)]
theorem lu:∀(ps:List (Nat × Nat × Opd)) (cs:List V),(∀x∈ps.map (fun p=>p.2.2),ρ x=ρ' x)→di ρ cs ps=di ρ' cs ps
 |[],cs,_=>rfl
 |(off,n,x)::ps,cs,e=>by
   simp only[di];rw[e x (by simp),lu ps _ (fun y hy=>e y (by simp at hy⊢;exact .inr hy))]
theorem jG{l:List Opd}(e:∀x∈l,ρ x=ρ' x):l.map ρ=l.map ρ':=List.map_congr_left e
theorem PK.congr{k:PK}(e:∀x∈k.opds,ρ x=ρ' x):k.ev ρ=k.ev ρ':=by
 cases k with
 |subStr x l hh=>simp only[PK.opds,List.mem_cons]at e;simp only[PK.ev];rw[e x (.inl rfl)];split<;>first|rfl|(rw[jB _ fun y hy=>e y (.inr hy)])
 |subSl es x l hh=>simp only[PK.opds,List.mem_cons]at e;simp only[PK.ev];rw[e x (.inl rfl)];split<;>first|rfl|(rw[jB _ fun y hy=>e y (.inr hy)])
 |mkFn f a c =>
   simp only[PK.opds,List.mem_append]at e;simp only[PK.ev];rw[jG fun x hx=>e x (.inl hx),jG fun x hx=>e x (.inr hx)]
 |build z ps=>simp only[PK.opds]at e;simp only[PK.ev];rw[lu ps z e]
 |mnmx mx x xs =>
   simp only[PK.opds,List.mem_cons]at e;simp only[PK.ev];rw[e x (.inl rfl),jG fun y hy=>e y (.inr hy)]
 |_=>simp_all [PK.ev,PK.opds]
theorem RK.congr{k:RK}(h:H)(e:∀x∈k.opds,ρ x=ρ' x):k.ev ρ h=k.ev ρ' h:=by
 cases k with
 |slArr a b x l hh=>simp only[RK.opds,List.mem_cons]at e;simp only[RK.ev];rw[e x (.inl rfl)];split<;>(try rfl);split<;>(try rfl);split<;>(try rfl);rw[jB _ fun y hy=>e y (.inr hy)]
 |_=>simp_all [RK.ev,RK.opds]
theorem AK.congr{k:AK}(e:∀x∈k.opds,ρ x=ρ' x):k.ev ρ=k.ev ρ':=by
 cases k with
 |mkSl z es len ps=>simp only[AK.opds]at e;simp only[AK.ev];rw[lu ps _ e]
 |_=>simp_all [AK.ev,AK.opds]
theorem HK.congr{k:HK}{Q:V→H→Prop}(e:∀x∈k.opds,ρ x=ρ' x):k.E call ρ h Q=k.E call ρ' h Q:=by
 cases k with
 |call f as =>
   simp only[HK.opds,List.mem_cons]at e;simp only[HK.E];rw[e f (.inl rfl),jG fun y hy=>e y (.inr hy)]
 |_=>simp_all [HK.E,HK.opds]
theorem HK.mono{X Y:CP}(hm:LeM X Y){k:HK}{Q Q':V→H→Prop}(hq:∀v h,Q v h→Q' v h)(hE:k.E X ρ h Q):k.E Y ρ h Q':=by
 cases k<;>simp only[HK.E]at hE⊢
 case store n x v =>
  split at hE<;>(try exact hE.elim);split at hE<;>(try exact hE.elim);exact⟨hE.1,hE.2.1,hE.2.2.1,hq _ _ hE.2.2.2⟩
 case call f as =>
  simp only[vO]at hE⊢;split at hE<;>(try exact hE.elim)
  ·exact hm _ _ _ _ _ hq hE
  ·exact hm _ _ _ _ _ hq hE
 case app es bytes x y =>
  split at hE<;>(try exact hE.elim);split at hE<;>(try exact hE.elim)
  ·split at hE
   ·rename_i c;rw[if_pos c];exact hq _ _ hE
   ·rename_i c;rw[if_neg c];exact⟨hE.1,hE.2.1,fun b hb hB=>hq _ _ (hE.2.2 b hb hB)⟩
  ·split at hE
   ·rename_i c;rw[if_pos c];exact⟨hE.1,hq _ _ hE.2⟩
   ·rename_i c;rw[if_neg c];split at hE<;>(try exact hE.elim);exact⟨hE.1,hE.2.1,hE.2.2.1,hE.2.2.2.1,fun b hb hb' hB=>hq _ _ (hE.2.2.2.2 b hb hb' hB)⟩
 case copy es x y =>
  split at hE<;>(try exact hE.elim);split at hE<;>(try exact hE.elim)
  ·exact hq _ _ hE
  ·split at hE<;>(try exact hE.elim);exact⟨hE.1,hE.2.1,hq _ _ hE.2.2⟩
 case mapUpd kc m k v =>
  split at hE<;>(try exact hE.elim);split at hE<;>(try exact hE.elim);refine⟨hE.1,?_⟩;have h2:=hE.2;split at h2<;>(try exact h2.elim)<;>exact hq _ _ h2
 case mapEntry kc z m k =>
  split at hE<;>(try exact hE.elim);split at hE<;>(try exact hE.elim);refine⟨hE.1,?_⟩;have h2:=hE.2;split at h2<;>(try exact h2.elim)<;>exact hq _ _ h2
 case entryStore m s v =>
  split at hE<;>(try exact hE.elim);split at hE<;>(try exact hE.elim);exact⟨hE.1,hE.2.1,hq _ _ hE.2.2⟩
 case delete kc m k =>
  split at hE<;>(try exact hE.elim);split at hE<;>(try exact hE.elim);refine⟨hE.1,?_⟩;have h2:=hE.2;split at h2<;>(try exact h2.elim)<;>exact hq _ _ h2
 case range m =>
  split at hE<;>(try exact hE.elim)
  ·exact fun b hb=>hq _ _ (hE b hb)
  ·split at hE<;>(try exact hE.elim);exact fun b hb=>hq _ _ (hE b hb)
 case next it =>
  split at hE<;>(try exact hE.elim);split at hE<;>(try exact hE.elim)
  ·exact hq _ _ hE
  ·split at hE<;>(try exact hE.elim);refine⟨hE.1,fun x hx=>?_⟩;have h2:=hE.2 x hx;cases x<;>exact hq _ _ h2
 case rangeStr s =>
  split at hE<;>(try exact hE.elim);exact fun b hb=>hq _ _ (hE b hb)
 case nextStr it =>
  split at hE<;>(try exact hE.elim);split at hE<;>(try exact hE.elim);split at hE
  ·rename_i c;rw[if_pos c];exact hq _ _ hE
  ·rename_i c;rw[if_neg c];exact hq _ _ hE
 case clone x =>
  split at hE<;>(try exact hE.elim);split at hE<;>(try exact hE.elim);exact fun b hb=>hq _ _ (hE b hb)
 case ustr x y =>
  split at hE<;>(try exact hE.elim);refine⟨hE.1,hE.2.1,?_⟩;have h2:=hE.2.2;split at h2<;>(try exact h2.elim)
  ·exact⟨h2.1,hq _ _ h2.2⟩
  ·split at h2
   ·rename_i c;rw[if_pos c];exact hq _ _ h2
   ·rename_i c;rw[if_neg c];split at h2<;>(try exact h2.elim);refine⟨h2.1,h2.2.1,?_⟩;have h3:=h2.2.2;split at h3<;>(try exact h3.elim);exact hq _ _ h3
theorem bu{X Y:CP}(hm:LeM X Y){o:IOp}{a:A}{K K':V→A→H→Prop}(hk:∀v a h,K v a h→K' v a h)(hE:bF X o a h K):bF Y o a h K':=by
 unfold bF at hE⊢;split at hE
 ·split at hE
  ·exact hk _ _ _ hE
  ·exact hE.elim
 ·split at hE
  ·exact hk _ _ _ hE
  ·exact hE.elim
 ·split at hE
  ·exact fun b hb hB=>hk _ _ _ (hE b hb hB)
  ·exact hE.elim
 ·split at hE
  ·exact hk _ _ _ hE
  ·exact hE.elim
 ·exact HK.mono hm (fun v h=>hk _ _ _) hE
theorem gB{X Y:CP}(hm:LeM X Y):∀{l:List IOp} {a:A} {h:H} {K K':A→H→Prop},(∀a h,K a h→K' a h)→opsE X l a h K→opsE Y l a h K'
 |[],a,h,K,K',hk,hE=>hk _ _ hE
 |o::l,a,h,K,K',hk,hE=>by
   simp only[opsE]at hE⊢;refine⟨hE.1,?_⟩;have h2:=hE.2;split at h2
   ·rename_i c;rw[if_pos c];exact bu hm (fun v a h=>gB hm hk) h2
   ·rename_i c;rw[if_neg c];exact gB hm hk h2
def doE(call:CP)(o:IOp)(W:Reads)(a:A)(h:H)(K:Reads→A→H→Prop):Prop:=
 aF a.t o.guard ∧
  if az a.t o.guard then
   match o.k with
   |.r k=>bF call o a h fun v a' h'=>K ((o.id,k.rd (Opd.ev a.t),v)::W) a' h'
   |.h _=>bF call o a h fun _ a' h'=>W.hold o.watch h'∧K W a' h'
   |_=>bF call o a h fun _ a' h'=>K W a' h'
  else K W {a with t:=put a.t o.dst (.tup [])} h
theorem dB(o:IOp)(l:List IOp)(W:Reads)(a:A)(h:H)(K:A→H→Prop):aT call (o::l) W a h K=doE call o W a h fun W' a' h'=>aT call l W' a' h' K:=by
 obtain⟨dst,guard,k,id,watch⟩:=o;cases k<;>rfl
theorem Reads.hold_anti{W W':Reads}(hs:∀x∈W',x∈W){l:List Nat}(hw:W.hold l h):Reads.hold W' l h:=fun x hx hl=>hw x (hs x hx) hl
theorem iW{X Y:CP}(hm:LeM X Y){o:IOp}{W:Reads}{a:A}{K K':Reads→A→H→Prop}(hk:∀W a h,K W a h→K' W a h)(hE:doE X o W a h K):doE Y o W a h K':=by
 unfold doE at hE⊢;refine⟨hE.1,?_⟩;have h2:=hE.2;split at h2
 ·rename_i c;rw[if_pos c];split at h2
  ·exact bu hm (fun v a h=>hk _ _ _) h2
  ·exact bu hm (fun v a h x=>⟨x.1,hk _ _ _ x.2⟩) h2
  ·exact bu hm (fun v a h x=>hk _ _ _ x) h2
 ·rename_i c;rw[if_neg c];exact hk _ _ _ h2
theorem J3{X Y:CP}(hm:LeM X Y){o:IOp}{W W':Reads}(hs:∀x∈W',x∈W){a:A}{K K':Reads→A→H→Prop}(hk:∀W W' a h,(∀x∈W',x∈W)→K W a h→K' W' a h)(hE:doE X o W a h K):doE Y o W' a h K':=by
 unfold doE at hE⊢;refine⟨hE.1,?_⟩;have h2:=hE.2;split at h2
 ·rename_i c;rw[if_pos c];split at h2
  ·exact bu hm (fun v a h=>hk _ _ _ _ (fun x hx=>by
    rcases List.mem_cons.1 hx with rfl|hx
    ·simp
    ·exact List.mem_cons_of_mem _ (hs x hx))) h2
  ·exact bu hm (fun v a h x=>⟨Reads.hold_anti hs x.1,hk _ _ _ _ hs x.2⟩) h2
  ·exact bu hm (fun v a h x=>hk _ _ _ _ hs x) h2
 ·rename_i c;rw[if_neg c];exact hk _ _ _ _ hs h2
theorem lm{X Y:CP}(hm:LeM X Y):∀{l:List IOp} {W W':Reads} {a:A} {h:H} {K K':A→H→Prop},(∀x∈W',x∈W)→(∀a h,K a h→K' a h)→aT X l W a h K→aT Y l W' a h K'
 |[],W,W',a,h,K,K',_,hk,hE=>hk _ _ hE
 |o::l,W,W',a,h,K,K',hs,hk,hE=>by
   rw[dB]at hE⊢;exact J3 hm hs (fun W W' a h hs=>lm hm hs hk) hE
theorem Oi(t:Tm){d e:Nat}(hn:d≠e)(v u:V):upd (upd t d v) e u=upd (upd t e u) d v:=by
 funext i;simp only[upd]
 by_cases h1:i=e
 ·have h2:¬i=d:=fun h2=>hn (h2.symm.trans h1);rw[if_pos h1,if_neg h2,if_pos h1]
 ·rw[if_neg h1,if_neg h1]
theorem put_comm(t:Tm){d e:Option Nat}(hn:∀x,d=some x→e≠some x)(v u:V):put (put t d v) e u=put (put t e u) d v:=by
 cases d with
 |none=>cases e<;>rfl
 | some d=>cases e with
   |none=>rfl
   |some e=>exact Oi t (fun x=>hn d rfl (by rw[x])) v u
theorem Rt{t:Tm}{d:Option Nat}{v:V}{x:Opd}(hn:∀i,d=some i→uO x≠some i):Opd.ev (put t d v) x=Opd.ev t x:=by
 cases d with
 |none=>rfl
 |some d =>
   cases x with
   |tmp i =>
     have:i≠d:=fun e=>hn d rfl (by simp[uO,e]);simp[Opd.ev,put,upd,this]
   |c v=>rfl
   |glob g=>rfl
def IOp.blind(o:IOp)(d:Option Nat):Prop:=∀i,d=some i→i∉o.looks
theorem fO{o:IOp}{d:Option Nat}(hb:o.blind d)(t:Tm)(v:V):∀x∈o.k.opds,Opd.ev (put t d v) x=Opd.ev t x:=fun x hx=>Rt fun i hi e=>hb i hi (by
 simp only[IOp.looks,List.mem_append,List.mem_filterMap];exact .inl ⟨x,hx,e⟩)
theorem dY{o:IOp}{d:Option Nat}(hb:o.blind d)(t:Tm)(v:V):az (put t d v) o.guard=az t o.guard∧(aF (put t d v) o.guard↔aF t o.guard):=by
 cases hg:o.guard with
 |none=>exact⟨rfl,Iff.rfl⟩
 |some jb =>
   obtain⟨j,b⟩:=jb;have:put t d v j=t j:=by
    cases d with
    |none=>rfl
    |some d =>
      have:j≠d:=fun e=>hb d rfl (by simp[IOp.looks,hg,e]);simp[put,upd,this]
   constructor
   ·simp only[az,this]
   ·simp only[aF,this]
theorem pI(hm:mF call){o:IOp}{d:Option Nat}{v:V}(hb:o.blind d)(hn:∀x,d=some x→o.dst≠some x){a:A}{K:V→A→H→Prop}:
  bF call o {a with t:=put a.t d v} h K↔bF call o a h fun u a' h'=>K u {a' with t:=put a'.t d v} h':=by
 have hc:∀u,put (put a.t d v) o.dst u=put (put a.t o.dst u) d v:=fun u=>put_comm a.t hn v u;have hops:=fO hb a.t v;unfold bF;cases hk:o.k with
 |p k=>rw[hk]at hops;simp only[Kind.opds]at hops;simp only[PK.congr hops,hc]
 |r k=>rw[hk]at hops;simp only[Kind.opds]at hops;simp only[RK.congr _ hops,hc]
 |a k=>rw[hk]at hops;simp only[Kind.opds]at hops;simp only[AK.congr hops,hc]
 |h k =>
   rw[hk]at hops;simp only[Kind.opds]at hops;cases k with
   |dfr f as =>
     simp only[HK.opds,List.mem_cons]at hops;simp only[hops f (.inl rfl),jG fun y hy=>hops y (.inr hy),hc]
   |_=>simp only[HK.congr hops,hc]
end
section
open Go
variable{ρ ρ':Opd→V}{h h':H}{call:CP}
def Fin(h:H):Prop:=∃N,∀b,N≤b→h b=none
def nV:V→List Nat
 |.ptr b _|.sl b _ _ _|.map b=>[b]
 |_=>[]
def Fq(h:H)(i:Nat):List Nat:=match h i with
 |some (.iter (some m) _ _ _)=>[m]
 |_=>[]
def RK.gl:RK→List Nat
 |.idxSub g _ _=>[g]
 |_=>[]
def RK.locs(ρ:Opd→V)(h:H)(k:RK):List Nat:=let l:=k.opds.flatMap fun x=>nV (ρ x)
 k.gl++(l++l.flatMap (Fq h))
theorem bZ{h:H}{b i:Nat}{o:AObj}(hi:i≠b):hadd h b o i=h i:=by simp[hadd,hset,hi]
theorem RK.ev_add{k:RK}{b:Nat}{o:AObj}(hb:b∉k.locs ρ h):k.ev ρ (hadd h b o)=k.ev ρ h:=by
 have h1:∀x∈k.opds,∀i∈nV (ρ x),i≠b:=fun x hx i hi e=>hb (by
  simp only[RK.locs,List.mem_append,List.mem_flatMap];exact .inr (.inl ⟨x,hx,e ▸ hi⟩))
 have h2:∀x∈k.opds,∀i∈nV (ρ x),∀m∈Fq h i,m≠b:=fun x hx i hi m hm e=>hb (by
  simp only[RK.locs,List.mem_append,List.mem_flatMap];exact .inr (.inr ⟨i,⟨x,hx,hi⟩,e ▸ hm⟩))
 have h3:∀g∈k.gl,g≠b:=fun g hg e=>hb (by
  simp only[RK.locs,List.mem_append];exact .inl (e ▸ hg))
 cases k<;>simp only[RK.ev]
 case load n g x =>
  split<;>(try rfl);rename_i i o' e;rw[bZ (h1 x (by simp[RK.opds]) i (by simp[e,nV]))]
 case lookup kc z ok m k =>
  split<;>(try rfl);split<;>(try rfl);rename_i i e;rw[bZ (h1 m (by simp[RK.opds]) i (by simp[e,nV]))]
 case lenMap m =>
  split<;>(try rfl);rename_i i e;rw[bZ (h1 m (by simp[RK.opds]) i (by simp[e,nV]))]
 case toStr x =>
  split<;>(try rfl);rename_i i _ _ _ e;rw[bZ (h1 x (by simp[RK.opds]) i (by simp[e,nV]))]
 case entry it =>
  split<;>(try rfl);rename_i i e;rw[bZ (h1 it (by simp[RK.opds]) i (by simp[e,nV]))];split<;>(try rfl);rename_i m _ _ _ e2;rw[bZ (h2 it (by simp[RK.opds]) i (by simp[e,nV]) m (by simp[Fq,e2]))]
 case slArr len es x l hh =>
  split<;>(try rfl);rename_i i o' e;rw[bZ (h1 x (by simp[RK.opds]) i (by simp[e,nV]))]
 case uns x =>
  split<;>(try rfl);rename_i i e;rw[bZ (h1 x (by simp[RK.opds]) i (by simp[e,nV]))]
 case idxSub g x y=>rw[bZ (h3 g (by simp[RK.gl]))]
theorem Td(l:List Nat):∃M,∀b,M≤b→b∉l:=by
 induction l with
 |nil=>exact⟨0,fun b _=>by simp⟩
 |cons x l ih =>
   obtain⟨M,hM⟩:=ih;refine⟨max M (x+1),fun b hb=>?_⟩;simp only[List.mem_cons,not_or];exact⟨by omega,hM b (by omega)⟩
theorem Fin.pickB(hf:Fin h)(l:List Nat)(k:AK):∃b,h b=none∧b∉l∧k.fits b:=by
 obtain⟨N,hN⟩:=hf;obtain⟨M,hM⟩:=Td l;have hB:∃b,h b=none∧b∉l∧isB b:=⟨2*(max N M+1000)+1,hN _ (by omega),hM _ (by omega),by unfold isB;omega⟩;have hW:∃b,h b=none∧b∉l∧isW b:=⟨4*(max N M+1000)+2,hN _ (by omega),hM _ (by omega),by unfold isW;omega⟩;cases k with
 |make z es bytes l c=>obtain⟨b,h1,h2,h3⟩:=hB;exact⟨b,h1,h2,fun _=>h3⟩
 |allocW z=>exact hW
 |_=>obtain⟨b,h1,h2,_⟩:=hB;exact⟨b,h1,h2,trivial⟩
theorem Fin.add(hf:Fin h)(b:Nat)(o:AObj):Fin (hadd h b o):=by
 obtain⟨N,hN⟩:=hf;exact⟨max N (b+1),fun i hi=>by rw[bZ (by omega)];exact hN i (by omega)⟩
theorem lT(hm:mF call){o:IOp}{a:A}{K:V→A→H→Prop}(hE:bF call o a h K):
  bF call o a h fun v a' h'=>a'.t=put a.t o.dst v∧(o.k.heavy=false→Fin h→Fin h')∧K v a' h':=by
 unfold bF at hE⊢;split at hE
 ·split at hE
  ·exact⟨rfl,fun _=>id,hE⟩
  ·exact hE.elim
 ·split at hE
  ·exact⟨rfl,fun _=>id,hE⟩
  ·exact hE.elim
 ·split at hE
  ·exact fun b hb hB=>⟨rfl,fun _ hf=>hf.add _ _,hE b hb hB⟩
  ·exact hE.elim
 ·rename_i f as hk;split at hE
  ·exact⟨rfl,fun e=>(by rw[hk]at e;cases e),hE⟩
  ·exact hE.elim
 ·rename_i k _ hk;exact HK.mono hm (fun v h'' x=>⟨rfl,fun e=>(by rw[hk]at e;cases e),x⟩) hE
theorem gW(hm:mF call){o:IOp}{d:Option Nat}{v:V}(hb:o.blind d)(hn:∀x,d=some x→o.dst≠some x){W:Reads}{a:A}{K:Reads→A→H→Prop}:
  doE call o W {a with t:=put a.t d v} h K↔doE call o W a h fun W' a' h'=>K W' {a' with t:=put a'.t d v} h':=by
 obtain⟨g1,g2⟩:=dY hb a.t v;unfold doE;simp only[g1,g2];refine and_congr Iff.rfl ?_
 by_cases hw:az a.t o.guard=true
 ·simp only[hw,if_true];cases hk:o.k with
  |r k =>
    simp only;have hops:=fO hb a.t v;rw[hk]at hops;have:k.rd (Opd.ev (put a.t d v))=k.rd (Opd.ev a.t):=Subtype.ext (funext fun h=>RK.congr h hops);simp only[this];exact pI hm hb hn
  |p k=>exact pI hm hb hn
  |a k=>exact pI hm hb hn
  |h k=>exact pI hm hb hn
 ·simp only[hw,if_false,Bool.false_eq_true];rw[put_comm a.t hn v (.tup [])]
theorem iY(hm:mF call){o:IOp}{W:Reads}{a:A}{K:Reads→A→H→Prop}(hE:doE call o W a h K):
  doE call o W a h fun W' a' h'=>(∃v,a'.t=put a.t o.dst v)∧(o.k.heavy=false→Fin h→Fin h')∧K W' a' h':=by
 unfold doE at hE⊢;refine⟨hE.1,?_⟩;have h2:=hE.2;split at h2
 ·rename_i c;rw[if_pos c];split at h2
  ·exact bu hm (fun v a' h' x=>⟨⟨v,x.1⟩,x.2.1,x.2.2⟩) (lT hm h2)
  ·exact bu hm (fun v a' h' x=>⟨x.2.2.1,⟨v,x.1⟩,x.2.1,x.2.2.2⟩) (lT hm h2)
  ·exact bu hm (fun v a' h' x=>⟨⟨v,x.1⟩,x.2.1,x.2.2⟩) (lT hm h2)
 ·rename_i c;rw[if_neg c];exact⟨⟨_,rfl⟩,fun _=>id,h2⟩
theorem apart_spec{x y:IOp}(e:x.apart y=true):y.blind x.dst∧x.blind y.dst∧(∀d,x.dst=some d→y.dst≠some d):=by
 simp only[IOp.apart,Bool.and_eq_true]at e;refine⟨fun i hi=>?_,fun i hi=>?_,fun i hi=>?_⟩
 ·have:=e.1;simp[hi]at this;exact this.1
 ·have:=e.2;simp[hi]at this;exact this
 ·have:=e.1;simp[hi]at this;exact this.2
end
section
open Go
variable{h h':H}{call:CP}
theorem Il(h:H){b c:Nat}(hn:b≠c)(x y:AObj):hadd (hadd h b x) c y=hadd (hadd h c y) b x:=by
 funext i;simp only[hadd,hset]
 by_cases h1:i=c
 ·have h2:¬i=b:=fun h2=>hn (h2.symm.trans h1);rw[if_pos h1,if_neg h2,if_pos h1]
 ·rw[if_neg h1,if_neg h1]
section
variable{o:IOp}{W:Reads}{a:A}{K:Reads→A→H→Prop}
theorem eU(hw:¬az a.t o.guard=true):doE call o W a h K↔aF a.t o.guard∧K W {a with t:=put a.t o.dst (.tup [])} h:=by
 unfold doE;rw[if_neg hw]
theorem lX{k:PK}(hw:az a.t o.guard=true)(hk:o.k=.p k):doE call o W a h K↔aF a.t o.guard∧∃v,k.ev (Opd.ev a.t)=some v∧K W {a with t:=put a.t o.dst v} h:=by
 unfold doE;rw[if_pos hw];simp only[hk,bF];cases k.ev (Opd.ev a.t)<;>simp
theorem vV{k:RK}(hw:az a.t o.guard=true)(hk:o.k=.r k):
  doE call o W a h K↔aF a.t o.guard∧∃v,k.ev (Opd.ev a.t) h=some v∧K ((o.id,k.rd (Opd.ev a.t),v)::W) {a with t:=put a.t o.dst v} h:=by
 unfold doE;rw[if_pos hw];simp only[hk,bF];cases k.ev (Opd.ev a.t) h<;>simp
theorem rf{k:AK}(hw:az a.t o.guard=true)(hk:o.k=.a k):
  doE call o W a h K↔aF a.t o.guard∧∃x f,k.ev (Opd.ev a.t)=some (x,f)∧∀b,h b=none→k.fits b→K W {a with t:=put a.t o.dst (f b)} (hadd h b x):=by
 unfold doE;rw[if_pos hw];simp only[hk,bF];cases he:k.ev (Opd.ev a.t)with
 |none=>simp
 |some of =>
   obtain⟨x,f⟩:=of;constructor
   ·rintro⟨g,q⟩;exact⟨g,x,f,rfl,q⟩
   ·rintro⟨g,x',f',e,q⟩;cases e;exact⟨g,q⟩
theorem J4{k:HK}(hw:az a.t o.guard=true)(hk:o.k=.h k):
  doE call o W a h K↔aF a.t o.guard∧bF call o a h fun v a' h'=>W.hold o.watch h'∧K W a' h':=by
 unfold doE;rw[if_pos hw];simp only[hk]
end
theorem swap(hm:mF call){x y:IOp}(hs:x.swaps y=true)(hf:Fin h){W:Reads}{a:A}{K K':Reads→A→H→Prop}(hk:∀W W' a h,(∀z∈W',z∈W)→K W a h→K' W' a h)
  (hE:doE call x W a h fun W1 a1 h1=>doE call y W1 a1 h1 K):doE call y W a h fun W1 a1 h1=>doE call x W1 a1 h1 K':=by
 simp only[IOp.swaps,Bool.and_eq_true,Bool.not_eq_true',Bool.or_eq_true]at hs;obtain⟨⟨hxh,hap⟩,hyh⟩:=hs;obtain⟨hyx,hxy,hn⟩:=apart_spec hap;have hS:∀vx,(∀W1 a1 h1,(∃u,a1.t=put a.t y.dst u)→K' W1 {a1 with t:=put a1.t x.dst vx} h1→doE call x W1 a1 h1 K')→doE call y W {a with t:=put a.t x.dst vx} h K →
   doE call y W a h fun W1 a1 h1=>doE call x W1 a1 h1 K':=fun vx hx hy =>
  iW hm (fun W1 a1 h1 q=>hx W1 a1 h1 q.1 (hk _ _ _ _ (fun _=>id) q.2.2)) (iY hm ((gW hm hyx hn).1 hy))
 by_cases hw:az a.t x.guard=true
 ·have hg:∀(a1:A) u,a1.t=put a.t y.dst u→aF a.t x.guard→aF a1.t x.guard∧az a1.t x.guard=true:=fun a1 u hu g=>by
   obtain⟨g1,g2⟩:=dY hxy a.t u;rw[hu];exact⟨g2.2 g,by rw[g1];exact hw⟩
  cases hkx:x.k with
  |p k =>
    obtain⟨gx,vx,he,h2⟩:=(lX hw hkx).1 hE;refine hS vx (fun W1 a1 h1 hu hK=>?_) h2;obtain⟨u,hu⟩:=hu;obtain⟨g1,g2⟩:=hg a1 u hu gx;have hops:=fO hxy a.t u;rw[hkx]at hops;exact(lX g2 hkx).2 ⟨g1,vx,by rw[hu,PK.congr hops];exact he,hK⟩
  |r k =>
    obtain⟨gx,vx,he,h2⟩:=(vV hw hkx).1 hE;have h3:=(gW hm hyx hn).1 h2;have hR:∀W1 (a1:A) h1 u,a1.t=put a.t y.dst u→k.ev (Opd.ev a.t) h1=some vx→K' ((x.id,k.rd (Opd.ev a.t),vx)::W1) {a1 with t:=put a1.t x.dst vx} h1→doE call x W1 a1 h1 K':=by
     intro W1 a1 h1 u hu hev hK;obtain⟨g1,g2⟩:=hg a1 u hu gx;have hops:=fO hxy a.t u;rw[hkx]at hops;have hcl:∀h,k.ev (Opd.ev a1.t) h=k.ev (Opd.ev a.t) h:=fun h=>by rw[hu];exact RK.congr h hops
     refine(vV g2 hkx).2 ⟨g1,vx,by rw[hcl];exact hev,?_⟩;rw[show k.rd (Opd.ev a1.t)=k.rd (Opd.ev a.t)from Subtype.ext (funext hcl)];exact hK
    by_cases hwy:az a.t y.guard=true
    ·cases hky:y.k with
     |p k2 =>
       obtain⟨gy,vy,he2,h4⟩:=(lX hwy hky).1 h3;exact(lX hwy hky).2 ⟨gy,vy,he2,hR _ _ _ vy rfl he (hk _ _ _ _ (fun z hz=>hz) h4)⟩
     |r k2 =>
       obtain⟨gy,vy,he2,h4⟩:=(vV hwy hky).1 h3;refine(vV hwy hky).2 ⟨gy,vy,he2,hR _ _ _ vy rfl he (hk _ _ _ _ (fun z hz=>?_) h4)⟩;simp only[List.mem_cons]at hz⊢;rcases hz with hz|hz|hz
       ·exact .inr (.inl hz)
       ·exact .inl hz
       ·exact .inr (.inr hz)
     |a k2 =>
       obtain⟨gy,o,f,he2,h4⟩:=(rf hwy hky).1 h3;exact(rf hwy hky).2 ⟨gy,o,f,he2,fun b hb hB=>hR _ _ _ (f b) rfl (RK.ev_mono hb he) (hk _ _ _ _ (fun z hz=>hz) (h4 b hb hB))⟩
     |h k2 =>
       obtain⟨gy,h4⟩:=(J4 hwy hky).1 h3;have hwat:x.id∈y.watch:=by
        rcases hyh with e|e
        ·rw[hky]at e;cases e
        ·rcases e.2 with e|e
         ·rw[hkx]at e;cases e
         ·simpa using e
       refine(J4 hwy hky).2 ⟨gy,bu hm (fun v a1 h1 q=>?_) (lT hm h4)⟩;obtain⟨hu,_,hhold,hK⟩:=q;refine⟨Reads.hold_anti (fun z hz=>List.mem_cons_of_mem _ hz) hhold,?_⟩;exact hR _ _ _ v hu (hhold _ (List.mem_cons_self ..) hwat) (hk _ _ _ _ (fun z hz=>hz) hK)
    ·obtain⟨gy,h4⟩:=(eU hwy).1 h3;exact(eU hwy).2 ⟨gy,hR _ _ _ _ rfl he (hk _ _ _ _ (fun z hz=>hz) h4)⟩
  |a k =>
    obtain⟨gx,o,f,he,h2⟩:=(rf hw hkx).1 hE;have h3:∀b,h b=none→k.fits b→doE call y W a (hadd h b o) fun W1 a1 h1=>K W1 {a1 with t:=put a1.t x.dst (f b)} h1:=fun b hb hB=>(gW hm hyx hn).1 (h2 b hb hB);have hA:∀W1 (a1:A) h1 u,a1.t=put a.t y.dst u→(∀b,h1 b=none→k.fits b→K' W1 {a1 with t:=put a1.t x.dst (f b)} (hadd h1 b o))→doE call x W1 a1 h1 K':=by
     intro W1 a1 h1 u hu hK;obtain⟨g1,g2⟩:=hg a1 u hu gx;have hops:=fO hxy a.t u;rw[hkx]at hops;exact(rf g2 hkx).2 ⟨g1,o,f,by rw[hu,AK.congr hops];exact he,hK⟩
    by_cases hwy:az a.t y.guard=true
    ·cases hky:y.k with
     |p k2 =>
       obtain⟨b0,hb0,_,hB0⟩:=hf.pickB [] k;obtain⟨gy,vy,he2,_⟩:=(lX hwy hky).1 (h3 b0 hb0 hB0);refine(lX hwy hky).2 ⟨gy,vy,he2,hA _ _ _ vy rfl fun b hb hB=>?_⟩;obtain⟨_,vy',he2',h4⟩:=(lX hwy hky).1 (h3 b hb hB);rw[he2]at he2';cases he2';exact hk _ _ _ _ (fun z hz=>hz) h4
     |r k2 =>
       obtain⟨b0,hb0,hl0,hB0⟩:=hf.pickB (k2.locs (Opd.ev a.t) h) k;obtain⟨gy,vy,he2,_⟩:=(vV hwy hky).1 (h3 b0 hb0 hB0);rw[RK.ev_add hl0]at he2;refine(vV hwy hky).2 ⟨gy,vy,he2,hA _ _ _ vy rfl fun b hb hB=>?_⟩;obtain⟨_,vy',he2',h4⟩:=(vV hwy hky).1 (h3 b hb hB);rw[RK.ev_mono hb he2]at he2';cases he2';exact hk _ _ _ _ (fun z hz=>hz) h4
     |a k2 =>
       obtain⟨b0,hb0,_,hB0⟩:=hf.pickB [] k;obtain⟨gy,o2,f2,he2,_⟩:=(rf hwy hky).1 (h3 b0 hb0 hB0);refine(rf hwy hky).2 ⟨gy,o2,f2,he2,fun b2 hb2 hB2=>hA _ _ _ (f2 b2) rfl fun b hb hB=>?_⟩;have hne:b≠b2:=fun e=>by subst e;simp[hadd,hset]at hb
       have hb':h b=none:=by rw[bZ hne]at hb;exact hb
       obtain⟨_,o2',f2',he2',h4⟩:=(rf hwy hky).1 (h3 b hb' hB);rw[he2]at he2';cases he2';rw[Il h (Ne.symm hne)];exact hk _ _ _ _ (fun z hz=>hz) (h4 b2 (by rw[bZ (Ne.symm hne)];exact hb2) hB2)
     |h k2 =>
       rcases hyh with e|e
       ·rw[hky]at e;cases e
       ·have:=e.1;rw[hkx]at this;cases this
    ·obtain⟨b0,hb0,_,hB0⟩:=hf.pickB [] k;obtain⟨gy,_⟩:=(eU hwy).1 (h3 b0 hb0 hB0);refine(eU hwy).2 ⟨gy,hA _ _ _ _ rfl fun b hb hB=>?_⟩;exact hk _ _ _ _ (fun z hz=>hz) ((eU hwy).1 (h3 b hb hB)).2
  |h k=>rw[hkx]at hxh;cases hxh
 ·obtain⟨gx,h2⟩:=(eU hw).1 hE;refine hS _ (fun W1 a1 h1 hu hK=>?_) h2;obtain⟨u,hu⟩:=hu;obtain⟨g1,g2⟩:=dY hxy a.t u;refine(eU (by rw[hu,g1];exact hw)).2 ⟨by rw[hu];exact g2.2 gx,hK⟩
theorem front(hm:mF call){y:IOp}{post:List IOp}{K:A→H→Prop}:∀(pre:List IOp) {W:Reads} {a:A} {h:H},(∀x∈pre,x.swaps y=true)→Fin h→aT call (pre++y::post) W a h K →
  doE call y W a h fun W' a' h'=>aT call (pre++post) W' a' h' K
 |[],W,a,h,_,_,hE=>by rw[List.nil_append,dB]at hE;exact hE
 |x::pre,W,a,h,hs,hf,hE=>by
   rw[List.cons_append,dB]at hE;have hx:=hs x (by simp);have hxh:x.k.heavy=false:=by
    simp only[IOp.swaps,Bool.and_eq_true,Bool.not_eq_true']at hx;exact hx.1.1
   have h2:doE call x W a h fun W1 a1 h1=>doE call y W1 a1 h1 fun W2 a2 h2=>aT call (pre++post) W2 a2 h2 K:=
    iW hm (fun W1 a1 h1 q=>front hm pre (fun z hz=>hs z (by simp[hz])) (q.2.1 hxh hf) q.2.2) (iY hm hE)
   have h3:=swap hm hx hf (K':=fun W2 a2 h2=>aT call (pre++post) W2 a2 h2 K) (fun W W' a h hs=>lm hm hs fun _ _=>id) h2;exact iW hm (fun W1 a1 h1 q=>by rw[List.cons_append,dB];exact q) h3
end
section
open Go
variable{X Y:CP}{pg:Pg}
theorem lg{K K':A→H→Prop}{Q Q':Ex→A→H→Prop}(hk:∀a h,K a h→K' a h)(hq:∀e a h,Q e a h→Q' e a h):∀e a h,andThen K Q e a h→andThen K' Q' e a h:=by
 intro e a h;cases e<;>simp only[andThen]<;>first|exact hk _ _|exact hq _ _ _
theorem zV{id:Nat}{Q Q':Ex→A→H→Prop}(hq:∀e a h,Q e a h→Q' e a h):∀e a h,jh id Q e a h→jh id Q' e a h:=by
 intro e a h;cases e<;>simp only[jh]<;>(try exact hq _ _ _);split<;>exact hq _ _ _
theorem kZ(hm:LeM X Y):∀{c:IC} {a:A} {h:H} {Q Q':Ex→A→H→Prop},(∀e a h,Q e a h→Q' e a h)→E X c a h Q→E Y c a h Q':=by
 intro c;induction c with
 |skip=>intro a h Q Q' hq hE;exact hq _ _ _ hE
 |ops l=>intro a h Q Q' hq hE;simp only[E]at hE⊢;exact gB hm (fun a h=>hq _ a h) hE
 |draw l=>intro a h Q Q' hq hE;simp only[E]at hE⊢;exact lm hm (fun _=>id) (fun a h=>hq _ a h) hE
 |seq x y ihx ihy=>intro a h Q Q' hq hE;simp only[E]at hE⊢;exact ihx (lg (fun a h=>ihy hq) hq) hE
 |cond x c d ihc ihd =>
   intro a h Q Q' hq hE;simp only[E]at hE⊢;split at hE
   ·exact⟨fun e=>ihc hq (hE.1 e),fun e=>ihd hq (hE.2 e)⟩
   ·exact hE.elim
 |block id c ih=>intro a h Q Q' hq hE;simp only[E]at hE⊢;exact ih (zV hq) hE
 |loop c ih =>
   intro a h Q Q' hq hE;simp only[E]at hE⊢;intro Z hZ;exact hE Z fun a h hb=>hZ a h (ih (lg (fun _ _=>id) hq) hb)
 |rangeFn f ps as bd _ _ =>
   intro a h Q Q' hq hE;simp only[E]at hE⊢;intro l hl';have h2:=hE l hl';split at h2
   ·refine hm _ _ _ _ _ (fun v h' q=>?_) h2;obtain⟨t,ps,as,bd,st,pd,a1,a2,a3⟩:=q;exact⟨t,ps,as,bd,st,pd,a1,a2,hq _ _ _ a3⟩
   ·exact h2.elim
 |exit id=>intro a h Q Q' hq hE;exact hq _ _ _ hE
 |ret=>intro a h Q Q' hq hE;exact hq _ _ _ hE
theorem sS(hm:LeM X Y):∀{ds:List (V × List V)} {h:H} {K K':H→Prop},(∀h,K h→K' h)→yz X ds h K→yz Y ds h K'
 |[],h,K,K',hk,hE=>hk _ hE
 |(f,args)::ds,h,K,K',hk,hE=>by
   simp only[yz]at hE⊢;split at hE
   ·exact hm _ _ _ _ _ (fun v h=>sS hm hk) hE
   ·exact hE.elim
theorem Jt(hm:LeM X Y){c:Callee}{args:List V}{h:H}{Q Q':V→H→Prop}(hq:∀v h,Q v h→Q' v h)(hF:F pg X c args h Q):F pg Y c args h Q':=by
 cases c with
 |fn f =>
   simp only[F]at hF⊢;rcases hF with⟨v,h1,h2⟩|⟨g,h1,h2,h3⟩
   ·exact .inl ⟨v,h1,hq _ _ h2⟩
   ·refine .inr ⟨g,h1,h2,kZ hm (fun e a h q=>?_) h3⟩;exact⟨q.1,sS hm (fun h ⟨vs,h3,r1,r2,r3⟩=>⟨vs,h3,r1,r2,hq _ _ r3⟩) q.2⟩
 |round l =>
   simp only[F]at hF⊢;obtain⟨t,ps,as,bd,pd,h1,h2,h3⟩:=hF;refine⟨t,ps,as,bd,pd,h1,h2,kZ hm (fun e a h q=>?_) h3⟩;obtain⟨q1,q2,t1,ps1,as1,bd1,pd1,q3,q4⟩:=q;refine⟨q1,q2,t1,ps1,as1,bd1,pd1,q3,kZ hm (fun e a h r=>?_) q4⟩;obtain⟨r1,t2,ps2,as2,bd2,st2,pd2,h3,r2,r3,r4⟩:=r;exact⟨r1,t2,ps2,as2,bd2,st2,pd2,h3,r2,r3,hq _ _ r4⟩
theorem AC.mono:mF (AC pg):=by
 intro c args h Q Q' hq hA X hX;exact hA (fun c args h Q=>∀Q',(∀v h,Q v h→Q' v h)→X c args h Q') (fun c args h Q hF Q' hq=>hX c args h Q' (Jt (fun c args h Q Q' hq q=>q Q' hq) hq hF)) Q' hq
theorem AC.fold{c:Callee}{args:List V}{h:H}{Q:V→H→Prop}(hF:F pg (AC pg) c args h Q):AC pg c args h Q:=by
 intro X hX;refine hX _ _ _ _ (Jt (fun c args h Q Q' hq hA=>?_) (fun _ _=>id) hF);exact AC.mono c args h Q Q' hq hA X hX
theorem AC.fn{f:Nat}{g:Fn}{args:List V}{h:H}{Q:V→H→Prop}(hg:pg.fns f=some g)(hl:args.length≤g.n)
  (hE:E (AC pg) g.body ⟨start args,[]⟩ h fun e a h'=>(e=.nm∨e=.ret)∧yz (AC pg) a.d h' fun h''=>∃vs h3,bY (g.res.map (kU a.t h''))=some vs∧Sub h3 h''∧Q (packed vs) h3):AC pg (.fn f) args h Q:=
 AC.fold (.inr ⟨g,hg,hl,hE⟩)
end
section
open Go
variable{call:CP}{a:A}{h h' h'':H}{Q:Ex→A→H→Prop}
theorem QU:E call .skip a h Q=Q .nm a h:=rfl
theorem Ua{l:List IOp}:E call (.ops l) a h Q=opsE call l a h (Q .nm):=rfl
theorem Ot{id:Nat}{c:IC}:E call (.block id c) a h Q=E call c a h (jh id Q):=rfl
theorem QT{id:Nat}:E call (.exit id) a h Q=Q (.exit id) a h:=rfl
theorem Ub:E call .ret a h Q=Q .ret a h:=rfl
theorem ah{b:Nat}{o:AObj}:hadd h b o b=some o:=by simp[hadd,hset]
theorem wK{b:Nat}{o o':AObj}:hadd (hadd h b o) b o'=hadd h b o':=by
 funext i;simp only[hadd,hset];split<;>rfl
theorem Sub.refl:Sub h h:=fun _ _=>id
theorem Sub.put(s:Sub h h'){b:Nat}(hb:h b=none){o:AObj}:Sub h (hadd h' b o):=fun i x hi=>by
 have:i≠b:=fun e=>by subst e;rw[hb]at hi;cases hi
 rw[bZ this];exact s i x hi
theorem Sub.none(s:Sub h h'){b:Nat}(hb:h' b=none):h b=none:=by
 cases e:h b with
 |none=>rfl
 |some o=>rw[s b o e]at hb;cases hb
theorem yl{n:Int}(h0:0≤n)(h1:n<256):IntKind.u8.wrap n=n:=by
 simp[IntKind.wrap,IntKind.bits,IntKind.signed];omega
theorem uS{n:Int}(h0:0≤n)(h1:n<4294967296):IntKind.u32.wrap n=n:=by
 simp[IntKind.wrap,IntKind.bits,IntKind.signed];omega
theorem uT{n:Int}(h0:0≤n)(h1:n<18446744073709551616):IntKind.u64.wrap n=n:=by
 simp[IntKind.wrap,IntKind.bits,IntKind.signed];omega
theorem oI{n:Int}(h0:-9223372036854775808≤n)(h1:n<9223372036854775808):IntKind.i64.wrap n=n:=by
 simp[IntKind.wrap,IntKind.bits,IntKind.signed];omega
theorem IM(w n:Nat):BitVec.ofInt w (n:Int)=BitVec.ofNat w n:=by
 apply BitVec.eq_of_toNat_eq;simp[BitVec.toNat_ofInt,BitVec.toNat_ofNat]
end
section
open Go
variable{call:CP}{a:A}{h:H}{K:A→H→Prop}{d:Option Nat}{g:Option (Nat × Bool)}{i:Nat}{w:List Nat}{l:List IOp}
def later(call:CP)(l:List IOp)(a:A)(h:H)(K:A→H→Prop):Prop:=opsE call l a h K
theorem MW:opsE call [] a h K=K a h:=rfl
theorem SY(k:PK):opsE call (⟨d,none,.p k,i,w⟩::l) a h K=(match k.ev (Opd.ev a.t)with|some v=>opsE call l {a with t:=put a.t d v} h K|none=>False):=by
 simp[opsE,aF,az,bF]<;>rfl
theorem Tc(k:RK):opsE call (⟨d,none,.r k,i,w⟩::l) a h K=(match k.ev (Opd.ev a.t) h with|some v=>opsE call l {a with t:=put a.t d v} h K|none=>False):=by
 simp[opsE,aF,az,bF]<;>rfl
theorem SV(k:AK):opsE call (⟨d,none,.a k,i,w⟩::l) a h K=(match k.ev (Opd.ev a.t)with|some (x,f)=>∀b,h b=none→k.fits b→opsE call l {a with t:=put a.t d (f b)} (hadd h b x) K|none=>False):=by
 simp[opsE,aF,az,bF]<;>rfl
theorem MV(f:Opd)(args:List Opd):opsE call (⟨d,none,.h (.dfr f args),i,w⟩::l) a h K=(match f.ev a.t with
  |.fn q first cap=>opsE call l {t:=put a.t d .undef,d:=(.fn q first cap,args.map (Opd.ev a.t))::a.d} h K
  |_=>False):=by
 simp[opsE,aF,az,bF]<;>rfl
theorem G5{k:Kind}{j:Nat}{b:Bool}(e:a.t j=.bool b):opsE call (⟨d,some (j,b),k,i,w⟩::l) a h K=opsE call (⟨d,none,k,i,w⟩::l) a h K:=by
 simp[opsE,aF,az,e]<;>rfl
theorem MZ{k:Kind}{j:Nat}(e:a.t j=.bool false):opsE call (⟨d,some (j,true),k,i,w⟩::l) a h K=opsE call l {a with t:=put a.t d (.tup [])} h K:=by
 simp[opsE,aF,az,e]
theorem IU{k:Kind}{j:Nat}(e:a.t j=.bool true):opsE call (⟨d,some (j,false),k,i,w⟩::l) a h K=opsE call l {a with t:=put a.t d (.tup [])} h K:=by
 simp[opsE,aF,az,e]
theorem PU{k:Kind}{j:Nat}{b:Bool}(e:a.t j=.tup []):opsE call (⟨d,some (j,b),k,i,w⟩::l) a h K=opsE call l {a with t:=put a.t d (.tup [])} h K:=by
 simp[opsE,aF,az,e]
theorem IP(f:Opd)(args:List Opd):opsE call (⟨d,none,.h (.call f args),i,w⟩::l) a h K=HK.E call (Opd.ev a.t) h (fun v h'=>later call l {a with t:=put a.t d v} h' K) (.call f args):=by
 simp[opsE,aF,az,bF,later]<;>rfl
theorem MS(es bytes:Nat)(x y:Opd):opsE call (⟨d,none,.h (.app es bytes x y),i,w⟩::l) a h K=HK.E call (Opd.ev a.t) h (fun v h'=>later call l {a with t:=put a.t d v} h' K) (.app es bytes x y):=by
 simp[opsE,aF,az,bF,later]<;>rfl
theorem FQ(m:Opd):opsE call (⟨d,none,.h (.range m),i,w⟩::l) a h K=HK.E call (Opd.ev a.t) h (fun v h'=>later call l {a with t:=put a.t d v} h' K) (.range m):=by
 simp[opsE,aF,az,bF,later]<;>rfl
theorem IR(x:Opd):opsE call (⟨d,none,.h (.next x),i,w⟩::l) a h K=HK.E call (Opd.ev a.t) h (fun v h'=>later call l {a with t:=put a.t d v} h' K) (.next x):=by
 simp[opsE,aF,az,bF,later]<;>rfl
theorem IV(x y:Opd):opsE call (⟨d,none,.h (.ustr x y),i,w⟩::l) a h K=HK.E call (Opd.ev a.t) h (fun v h'=>later call l {a with t:=put a.t d v} h' K) (.ustr x y):=by
 simp[opsE,aF,az,bF,later]<;>rfl
def Qm(call:CP)(d:IC)(Q:Ex→A→H→Prop):Ex→A→H→Prop:=andThen (fun a h=>E call d a h Q) Q
section
variable{Q:Ex→A→H→Prop}{c e:IC}{j:Nat}
theorem Js:E call (.seq c e) a h Q=E call c a h (Qm call e Q):=rfl
theorem Qn:Qm call e Q .nm a h=E call e a h Q:=rfl
theorem Jj:Qm call e Q (.exit j) a h=Q (.exit j) a h:=rfl
theorem NT:Qm call e Q .ret a h=Q .ret a h:=rfl
end
def EX(call:CP)(res:List Res)(Q:V→H→Prop):Ex→A→H→Prop:=fun e a h'=>(e=.nm∨e=.ret)∧yz call a.d h' fun h''=>∃vs h3,bY (res.map (kU a.t h''))=some vs∧Sub h3 h''∧Q (packed vs) h3
section
variable{res:List Res}{Q:V→H→Prop}
end
theorem AC.fn'{pg:Pg}{f:Nat}{g:Fn}{args:List V}{h:H}{Q:V→H→Prop}(hg:pg.fns f=some g)(hl:args.length≤g.n)(hE:E (AC pg) g.body ⟨start args,[]⟩ h (EX (AC pg) g.res Q)):AC pg (.fn f) args h Q:=AC.fn hg hl hE
end
section
open Go
variable{h h':H}
theorem He{a b:Int}(h:0≤a):Int.tmod a b=a % b:=Int.tmod_eq_emod_of_nonneg h
theorem Ha{a b:Int}(h:0≤a):Int.tdiv a b=a / b:=Int.tdiv_eq_ediv_of_nonneg h
theorem uQ{n:Int}(h0:-2147483648≤n)(h1:n<2147483648):IntKind.i32.wrap n=n:=by
 simp[IntKind.wrap,IntKind.bits,IntKind.signed];omega
end

end Mir
