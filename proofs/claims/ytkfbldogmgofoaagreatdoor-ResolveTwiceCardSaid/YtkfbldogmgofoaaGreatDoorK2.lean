import Derived.Attr
import Derived.Test.YtkfbldogmgofoaaGreatDoorK1
set_option linter.unusedSimpArgs false
set_option linter.unusedVariables false
namespace Mir
section
open Go
variable{call:CP}{a:A}{h h':H}{K:A→H→Prop}{d:Option Nat}{g:Option (Nat × Bool)}{i j:Nat}{w:List Nat}{l:List IOp}{t:Tm}{v:V}
theorem TZ{d i:Nat}:upd t d v i=if i=d then v else t i:=rfl
theorem Tv{d:Nat}:put t (some d) v=upd t d v:=rfl
theorem Tu:put t none v=t:=rfl
theorem N7{args:List V}{i:Nat}:start args i=(args[i]?).getD (.tup []):=rfl
def goP(o:Option V)(d:Option Nat)(call:CP)(l:List IOp)(a:A)(h:H)(K:A→H→Prop):Prop:=
 match o with|some v=>opsE call l ⟨put a.t d v,a.d⟩ h K|none=>False
theorem LK:goP (some v) d call l a h K=opsE call l ⟨put a.t d v,a.d⟩ h K:=rfl
def goA(o:Option (AObj × (Nat→V)))(bp:Nat→Prop)(d:Option Nat)(call:CP)(l:List IOp)(a:A)(h:H)(K:A→H→Prop):Prop:=
 match o with|some (x,f)=>∀b,h b=none→bp b→opsE call l ⟨put a.t d (f b),a.d⟩ (hadd h b x) K|none=>False
theorem LD{bp:Nat→Prop}{x:AObj}{f:Nat→V}:goA (some (x,f)) bp d call l a h K=∀b,h b=none→bp b→later call l ⟨put a.t d (f b),a.d⟩ (hadd h b x) K:=rfl
theorem JG{z:List V}{b:Nat}:AK.fits b (.alloc z)=True:=rfl
theorem Ht{z:List V}{b:Nat}:AK.fits b (.allocW z)=isW b:=rfl
theorem Q9{x:Opd}{b:Nat}:AK.fits b (.box x)=True:=rfl
theorem OD{z:List V}{es len:Nat}{ps:List (Nat × Nat × Opd)}{b:Nat}:AK.fits b (.mkSl z es len ps)=True:=rfl
theorem JH{b:Nat}:AK.fits b .mkMap=True:=rfl
def goH(o:Option (V × H))(d:Option Nat)(call:CP)(l:List IOp)(a:A)(K:A→H→Prop):Prop:=
 match o with|some (v,h)=>opsE call l ⟨put a.t d v,a.d⟩ h K|none=>False
theorem LH:goH (some (v,h)) d call l a K=opsE call l ⟨put a.t d v,a.d⟩ h K:=rfl
def goG(c:V)(b:Bool)(d:Option Nat)(k:Kind)(i:Nat)(w:List Nat)(l:List IOp)(call:CP)(a:A)(h:H)(K:A→H→Prop):Prop:=
 match c with
 |.bool c=>if c=b then opsE call (⟨d,none,k,i,w⟩::l) a h K else opsE call l ⟨put a.t d (.tup []),a.d⟩ h K
 |.tup []=>opsE call l ⟨put a.t d (.tup []),a.d⟩ h K
 |_=>False
theorem RX{k:Kind}:goG (.bool true) true d k i w l call a h K=opsE call (⟨d,none,k,i,w⟩::l) a h K:=rfl
theorem RP{k:Kind}:goG (.bool false) false d k i w l call a h K=opsE call (⟨d,none,k,i,w⟩::l) a h K:=rfl
theorem RV{k:Kind}:goG (.bool true) false d k i w l call a h K=opsE call l ⟨put a.t d (.tup []),a.d⟩ h K:=rfl
theorem RQ{k:Kind}:goG (.bool false) true d k i w l call a h K=opsE call l ⟨put a.t d (.tup []),a.d⟩ h K:=rfl
theorem RU{k:Kind}{b:Bool}:goG (.tup []) b d k i w l call a h K=opsE call l ⟨put a.t d (.tup []),a.d⟩ h K:=rfl
theorem SX{k:Kind}{b:Bool}:opsE call (⟨d,some (j,b),k,i,w⟩::l) a h K=goG (a.t j) b d k i w l call a h K:=by
 cases hv:a.t j with
 |bool c =>
   cases c<;>cases b
   ·rw[G5 hv];rfl
   ·rw[MZ hv];rfl
   ·rw[IU hv];rfl
   ·rw[G5 hv];rfl
 |tup vs =>
   cases vs with
   |nil=>rw[PU hv];rfl
   |cons x xs=>simp[opsE,aF,hv,goG]
 |_=>simp[opsE,aF,hv,goG]
theorem PV(k:PK):opsE call (⟨d,none,.p k,i,w⟩::l) a h K=goP (k.ev (Opd.ev a.t)) d call l a h K:=by
 rw[SY];rfl
theorem PW(k:RK):opsE call (⟨d,none,.r k,i,w⟩::l) a h K=goP (k.ev (Opd.ev a.t) h) d call l a h K:=by
 rw[Tc];rfl
theorem PT(k:AK):opsE call (⟨d,none,.a k,i,w⟩::l) a h K=goA (k.ev (Opd.ev a.t)) (fun b=>k.fits b) d call l a h K:=by
 rw[SV];rfl
theorem Ru{i:Nat}:Opd.ev t (.tmp i)=t i:=(rfl)
theorem Vf:Opd.ev t (.c v)=v:=(rfl)
theorem OL{g:Nat}:Opd.ev t (.glob g)=.ptr g 0:=(rfl)
section
variable{ρ:Opd→V}{x y z:Opd}{n o b:Nat}{cs:List V}{ro:Bool}{k:IntKind}{p q:Int}{s:List UInt8}
theorem UE:PK.ev ρ (.mv x)=some (ρ x):=(rfl)
def Ns(c a b:V):Option V:=match c with|.bool c=>some (if c then a else b)|_=>none
theorem pk_pick:PK.ev ρ (.pick x y z)=Ns (ρ x) (ρ y) (ρ z):=(rfl)
theorem Tn{a b:V}:Ns (.bool true) a b=some a:=(rfl)
theorem Tj{a b:V}:Ns (.bool false) a b=some b:=(rfl)
theorem Tq{op:BinOp}:PK.ev ρ (.bin op x y)=bK op (ρ x) (ρ y):=(rfl)
theorem UD{c:EqC}{ng:Bool}:PK.ev ρ (.eq c ng x y)=(eQ c (ρ x) (ρ y)).map fun b=>.bool (if ng then !b else b):=(rfl)
def Ve(cs:List EqC)(ng:Bool)(x y:V):Option V:=match x,y with|.agg xs,.agg ys=>(fF cs xs ys).map fun b=>.bool (if ng then !b else b)|_,_=>none
def unE(op:UnOp)(v:V):Option V:=match op,v with|.neg,.int k n=>some (.int k (k.wrap (0-n)))|.not,.bool b=>some (.bool !b)|.xor,.int k n=>some (.int k (k.wrap ((BitVec.ofInt k.bits (if k.signed then -1 else k.max) ^^^ BitVec.ofInt k.bits n).toNat)))|_,_=>none
theorem UF{op:UnOp}:PK.ev ρ (.un op x)=unE op (ρ x):=by
 simp only[PK.ev,unE];cases op<;>cases ρ x<;>rfl
def Ux(k:IntKind)(p:Int):Int:=k.wrap ((BitVec.ofInt k.bits (if k.signed then -1 else k.max) ^^^ BitVec.ofInt k.bits p).toNat)
theorem TY:unE .xor (.int k p)=some (.int k (Ux k p)):=(rfl)
theorem TW{b:Bool}:unE .not (.bool b)=some (.bool !b):=(rfl)
def ciE(k:IntKind)(v:V):Option V:=match v with|.int _ n=>some (.int k (k.wrap n))|_=>none
theorem FY:PK.ev ρ (.convInt k x)=ciE k (ρ x):=(rfl)
theorem Ri{k':IntKind}:ciE k (.int k' p)=some (.int k (k.wrap p)):=(rfl)
def csE(v:V):Option V:=match v with|.str s=>some (.str s)|_=>none
def qQ(len:Nat)(l h:Option V):Option (Nat × Nat):=
 match (match h with|none=>some len|some v=>match v with|.int _ j=>if 0≤j∧j≤len then some j.toNat else none|_=>none)with
 |none=>none
 |some j =>
   match l with
   |none=>some (0,j)
   |some x=>match x with|.int _ i=>if 0≤i∧i≤j then some (i.toNat,j)else none|_=>none
theorem ut{len:Nat}{l h:Option Opd}:fK ρ len l h=qQ len (l.map ρ) (h.map ρ):=by
 cases l<;>cases h<;>rfl
theorem zW{len:Nat}(c:0≤p∧p≤len):qQ len none (some (.int k p))=some (0,p.toNat):=by simp[qQ,c]
theorem EH{len:Nat}(c:0≤p∧p≤len):qQ len (some (.int k p)) none=some (p.toNat,len):=by simp[qQ,c]
theorem EG{len:Nat}{k':IntKind}(c:0≤p∧p≤q∧q≤len):qQ len (some (.int k p)) (some (.int k' q))=some (p.toNat,q.toNat):=by
 have h1:(0≤q∧q≤(len:Int)):=by omega
 have h2:(0≤p∧p≤((q.toNat:Nat):Int)):=by omega
 simp only[qQ];rw[if_pos h1];simp only;rw[if_pos h2]
def ssE(v:V)(l h:Option V):Option V:=match v with|.str s=>(qQ s.length l h).map fun(i,j)=>.str ((s.take j).drop i)|_=>none
theorem Ja{l h:Option Opd}:PK.ev ρ (.subStr x l h)=ssE (ρ x) (l.map ρ) (h.map ρ):=by
 simp only[PK.ev,ssE,ut];cases ρ x<;>rfl
theorem TT{l h:Option V}:ssE (.str s) l h=(qQ s.length l h).map fun(i,j)=>.str ((s.take j).drop i):=(rfl)
def slE(es:Nat)(v:V)(l h:Option V):Option V:=match v with
 |.sl b o es' n=>if es=es' then(qQ n l h).map fun(i,j)=>.sl b (o+i*es) es (j-i)else none
 |.nilsl=>(qQ 0 l h).map fun _=>.nilsl
 |_=>none
theorem NF{es:Nat}{l h:Option Opd}:PK.ev ρ (.subSl es x l h)=slE es (ρ x) (l.map ρ) (h.map ρ):=by
 simp only[PK.ev,slE,ut];cases ρ x<;>rfl
theorem QQ{es:Nat}{l h:Option V}:slE es (.sl b o es n) l h=(qQ n l h).map fun(i,j)=>.sl b (o+i*es) es (j-i):=by simp[slE]
def isE(v i:V):Option V:=match v,i with|.str s,.int _ n=>if 0≤n then(s[n.toNat]?).map fun c=>.int .u8 c.toNat else none|_,_=>none
theorem I7:PK.ev ρ (.idxStr x y)=isE (ρ x) (ρ y):=by
 simp only[PK.ev,isE];cases ρ x<;>cases ρ y<;>rfl
theorem Fp(c:0≤p):isE (.str s) (.int k p)=(s[p.toNat]?).map fun c=>.int .u8 c.toNat:=by simp[isE,c]
def iaE(len es:Nat)(agg:Bool)(v i:V):Option V:=match v,i with|.agg cs,.int _ n=>if 0≤n∧n<len then partOf (n.toNat*es) es agg cs else none|_,_=>none
theorem Ff{len es:Nat}{agg:Bool}(c:0≤p∧p<len):iaE len es agg (.agg cs) (.int k p)=partOf (p.toNat*es) es agg cs:=by simp[iaE,c]
def fdE(off n:Nat)(agg:Bool)(v:V):Option V:=match v with|.agg cs=>partOf off n agg cs|_=>none
theorem Nw{agg:Bool}:PK.ev ρ (.field o n agg x)=fdE o n agg (ρ x):=(rfl)
theorem RD{agg:Bool}:fdE o n agg (.agg cs)=partOf o n agg cs:=(rfl)
theorem Ti:partOf o n false cs=cs[o]?:=by simp[partOf]
theorem FX(c:o+n≤cs.length):partOf o n true cs=some (.agg ((cs.drop o).take n)):=by simp[partOf,c]
def faE(off:Nat)(v:V):Option V:=match v with|.ptr b o=>some (.ptr b (o+off))|_=>none
theorem FZ{off:Nat}:PK.ev ρ (.fieldAt off x)=faE off (ρ x):=(rfl)
theorem Ry{off:Nat}:faE off (.ptr b o)=some (.ptr b (o+off)):=(rfl)
def ixE(es:Nat)(v i:V):Option V:=match v,i with|.sl b o es' n,.int _ j=>if es=es'∧0≤j∧j<n then some (.ptr b (o+j.toNat*es))else none|_,_=>none
theorem Ny{es:Nat}:PK.ev ρ (.idxSl es x y)=ixE es (ρ x) (ρ y):=by
 simp only[PK.ev,ixE];cases ρ x<;>cases ρ y<;>rfl
theorem LY{es:Nat}(c:0≤p∧p<n):ixE es (.sl b o es n) (.int k p)=some (.ptr b (o+p.toNat*es)):=by simp[ixE,c]
def irE(len es:Nat)(v i:V):Option V:=match v,i with|.ptr b o,.int _ j=>if 0≤j∧j<len then some (.ptr b (o+j.toNat*es))else none|_,_=>none
theorem I5{len es:Nat}:PK.ev ρ (.idxArr len es x y)=irE len es (ρ x) (ρ y):=by
 simp only[PK.ev,irE];cases ρ x<;>cases ρ y<;>rfl
theorem Fj{len es:Nat}(c:0≤p∧p<len):irE len es (.ptr b o) (.int k p)=some (.ptr b (o+p.toNat*es)):=by simp[irE,c]
def exE(v:V)(i:Nat):Option V:=match v with|.tup vs=>vs[i]?|_=>none
theorem Tt{i:Nat}:PK.ev ρ (.ext x i)=exE (ρ x) i:=(rfl)
theorem Rx{vs:List V}{i:Nat}:exE (.tup vs) i=vs[i]?:=(rfl)
theorem P6{f:Nat}{l m:List Opd}:PK.ev ρ (.mkFn f l m)=some (.fn f (l.map ρ) (m.map ρ)):=(rfl)
theorem Nv{zero:List V}{ps:List (Nat × Nat × Opd)}:PK.ev ρ (.build zero ps)=(di ρ zero ps).map .agg:=(rfl)
theorem Kw:di ρ cs []=some cs:=(rfl)
def Dj(v:V)(o n:Nat)(ρ:Opd→V)(cs:List V)(rest:List (Nat × Nat × Opd)):Option (List V):=
 if v.cells.length=n∧o+n≤cs.length∧v.cells.all V.flat then di ρ (cs.take o++v.cells++cs.drop (o+n)) rest else none
theorem H8{rest:List (Nat × Nat × Opd)}:di ρ cs ((o,n,x)::rest)=Dj (ρ x) o n ρ cs rest:=(rfl)
theorem Kz:(V.int k p).flat=true:=(rfl)
theorem KE:(V.str s).flat=true:=(rfl)
theorem H9{b:Bool}:(V.bool b).flat=true:=(rfl)
theorem KD:(V.ptr b o).flat=true:=(rfl)
theorem O8{es:Nat}:(V.sl b o es n).flat=true:=(rfl)
theorem EZ:V.nilsl.flat=true:=(rfl)
theorem KA:(V.map b).flat=true:=(rfl)
theorem O7{f:Nat}{l m:List V}:(V.fn f l m).flat=true:=(rfl)
theorem sZ{rest:List (Nat × Nat × Opd)}(hv:v.flat=true)(c:o+1≤cs.length):Dj v o 1 ρ cs rest=di ρ (cs.take o++[v]++cs.drop (o+1)) rest:=by
 have e:v.cells=[v]:=by cases v<;>first|rfl|cases hv
 simp[Dj,e,c,hv]
theorem sW{rest:List (Nat × Nat × Opd)}{vs:List V}(hl:vs.length=n)(c:o+n≤cs.length)(hv:vs.all V.flat=true):Dj (.agg vs) o n ρ cs rest=di ρ (cs.take o++vs++cs.drop (o+n)) rest:=by
 simp only[Dj,V.cells,hl,c,hv,and_self,if_true]
def ncE(v:V):Option V:=match v with|.nilptr|.nilif|.nilfn|.undef|.any=>none|.fn f a b=>some (.fn f a b)|v=>some v
theorem I9:PK.ev ρ (.nilchk x)=ncE (ρ x):=(rfl)
theorem SS:ncE (.ptr b o)=some (.ptr b o):=(rfl)
def lsE(v:V):Option V:=match v with|.str s=>some (.int .i64 s.length)|_=>none
theorem I8:PK.ev ρ (.lenStr x)=lsE (ρ x):=(rfl)
theorem SA:lsE (.str s)=some (.int .i64 s.length):=(rfl)
def llE(v:V):Option V:=match v with|.sl _ _ _ n=>some (.int .i64 n)|.nilsl=>some (.int .i64 0)|_=>none
theorem Nz:PK.ev ρ (.lenSl x)=llE (ρ x):=(rfl)
theorem GR{es:Nat}:llE (.sl b o es n)=some (.int .i64 n):=(rfl)
theorem Sz:llE .nilsl=some (.int .i64 0):=(rfl)
theorem P7{mx:Bool}{xs:List Opd}:PK.ev ρ (.mnmx mx x xs)=uu mx (ρ x) (xs.map ρ):=(rfl)
theorem SL:uu false (.int k p) [.int k q]=some (.int k (min p q)):=by
 simp only[uu,Kr,if_true,Bool.false_eq_true,if_false];rw[Int.min_def];congr 2;split<;>split<;>omega
theorem O0:eQ .int (.int k p) (.int k q)=some (decide (p=q)):=by simp[eQ];rfl
theorem Gt{s':List UInt8}:eQ .str (.str s) (.str s')=some (decide (s=s')):=by
 simp only[eQ];congr 1;by_cases e:s=s'<;>simp[e]
theorem Kv{a b:Bool}:eQ .bool (.bool a) (.bool b)=some (decide (a=b)):=by cases a<;>cases b<;>rfl
theorem O1:eQ .ptr .nilptr .nilptr=some true:=(rfl)
theorem O3:eQ .ptr (.ptr b o) .nilptr=some false:=(rfl)
theorem O4{o':Nat}:eQ .ptr (.ptr b o) (.ptr b o')=some (decide (o=o')):=by
 simp only[eQ,if_true];rfl
theorem PR{p:Prop}[Decidable p]:(!decide p)=decide (¬p):=(decide_not).symm
def ldC(o:Option AObj)(off n:Nat)(agg:Bool):Option V:=match o with|some (.cells cs _)=>partOf off n agg cs|_=>none
def ldE(v:V)(n:Nat)(agg:Bool)(h:H):Option V:=match v with|.ptr b o=>ldC (h b) o n agg|_=>none
theorem Qk{agg:Bool}:RK.ev ρ h (.load n agg x)=ldE (ρ x) n agg h:=by
 simp only[RK.ev,ldE];cases ρ x<;>rfl
theorem Su{agg:Bool}:ldE (.ptr b o) n agg h=ldC (h b) o n agg:=(rfl)
theorem IB{agg:Bool}:ldC (some (.cells cs ro)) o n agg=partOf o n agg cs:=(rfl)
def luC(o:Option AObj)(kc:KC)(zero:V)(ok:Bool)(k:V):Option V:=match o with
 |some (.map es _) =>
   match aK kc k es with
   |some (some (v,_))=>some (if ok then .tup [v,.bool true]else v)
   |some none=>some (if ok then .tup [zero,.bool false]else zero)
   |none=>none
 |_=>none
def luE(kc:KC)(zero:V)(ok:Bool)(m k:V)(h:H):Option V:=
 if bH kc k k=some true then match m with
  |.nilmap=>some (if ok then .tup [zero,.bool false]else zero)
  |.map b=>luC (h b) kc zero ok k
  |_=>none
 else none
theorem Je{kc:KC}{zero:V}{ok:Bool}:RK.ev ρ h (.lookup kc zero ok x y)=luE kc zero ok (ρ x) (ρ y) h:=by
 simp only[RK.ev,luE];split
 ·cases ρ x<;>rfl
 ·rfl
theorem MI{kc:KC}{zero:V}{ok:Bool}(hk:bH kc v v=some true):luE kc zero ok (.map b) v h=luC (h b) kc zero ok v:=by simp[luE,hk]
def luF(r:Option (Option (V × Nat)))(zero:V)(ok:Bool):Option V:=match r with
    |some (some (v,_))=>some (if ok then .tup [v,.bool true]else v)
    |some none=>some (if ok then .tup [zero,.bool false]else zero)
    |none=>none
theorem GU{kc:KC}{zero:V}{ok:Bool}{es:Ents}{clock:Nat}:luC (some (.map es clock)) kc zero ok v=luF (aK kc v es) zero ok:=(rfl)
theorem MH{zero:V}{u:V × Nat}:luF (some (some u)) zero false=some u.1:=by cases u;rfl
theorem SE{zero:V}{u:V × Nat}:luF (some (some u)) zero true=some (.tup [u.1,.bool true]):=by cases u;rfl
theorem MG{zero:V}:luF (some none) zero false=some zero:=(rfl)
theorem SC{zero:V}:luF (some none) zero true=some (.tup [zero,.bool false]):=(rfl)
theorem Iz:bH (.one .str) (.str s) (.str s)=some true:=by simp[bH,eQ]
def tsC(o:Option AObj)(off es n:Nat):Option V:=match o with
 |some (.cells cs _)=>if es=1∧off+n≤cs.length then(bytesOf ((cs.drop off).take n)).map .str else none
 |_=>none
def tsE(v:V)(h:H):Option V:=match v with|.nilsl=>some (.str [])|.sl b o es n=>tsC (h b) o es n|_=>none
theorem NM:RK.ev ρ h (.toStr x)=tsE (ρ x) h:=by
 simp only[RK.ev,tsE];cases ρ x<;>rfl
theorem UN{es:Nat}:tsE (.sl b o es n) h=tsC (h b) o es n:=(rfl)
theorem uj(c:o+n≤cs.length):tsC (some (.cells cs ro)) o 1 n=(bytesOf ((cs.drop o).take n)).map .str:=by simp[tsC,c]
theorem jA:∀s:List UInt8,bytesOf (bytesIn s)=some s
 |[]=>rfl
 |c::s=>by
   show bytesOf (.int .u8 c.toNat::bytesIn s)=_
   simp only[bytesOf,jA s,Int.toNat_natCast];congr 2;exact UInt8.ofNat_toNat
theorem iR(s:List UInt8):(bytesIn s).length=s.length:=by simp[bytesIn]
theorem mP(s s':List UInt8):bytesIn s++bytesIn s'=bytesIn (s++s'):=by simp[bytesIn]
theorem Jv{zero:List V}:AK.ev ρ (.alloc zero)=some (.cells zero false,fun b=>.ptr b 0):=(rfl)
def JF(v:V):Option (AObj × (Nat→V)):=if v.cells.all V.flat then some (.cells v.cells false,fun b=>.ptr b 0)else none
theorem QW:AK.ev ρ (.box x)=JF (ρ x):=(rfl)
theorem Aa(hv:v.flat=true):JF v=some (.cells [v] false,fun b=>.ptr b 0):=by
 have e:v.cells=[v]:=by cases v<;>first|rfl|cases hv
 simp[JF,e,hv]
theorem zZ{vs:List V}(hv:vs.all V.flat=true):JF (.agg vs)=some (.cells vs false,fun b=>.ptr b 0):=by
 simp only[JF,V.cells,hv,if_true]
theorem Oz{zero:List V}{es len:Nat}{ps:List (Nat × Nat × Opd)}:AK.ev ρ (.mkSl zero es len ps)=(di ρ (zeros zero len) ps).map fun cs=>(.cells cs false,fun b=>.sl b 0 es len):=(rfl)
theorem Oq{zero:List V}{n:Nat}:zeros zero n=(List.replicate n zero).flatten:=(rfl)
theorem Jw:AK.ev ρ .mkMap=some (.map [] 0,fun b=>.map b):=(rfl)
def mkE(zero:List V)(es bytes:Nat)(l c:V):Option (AObj × (Nat→V)):=match l,c with
    |.int .i64 n,.int .i64 m=>if 0≤n∧n≤m∧m*bytes≤1099511627776∧m≤1099511627776 then some (.cells (zeros zero m.toNat) false,fun b=>.sl b 0 es n.toNat)else none
    |_,_=>none
theorem Bv{zero:List V}{es bytes:Nat}(c:0≤p∧p≤q∧q*bytes≤1099511627776∧q≤1099511627776):mkE zero es bytes (.int .i64 p) (.int .i64 q)=some (.cells (zeros zero q.toNat) false,fun b=>.sl b 0 es p.toNat):=by
 simp only[mkE];rw[if_pos c]
end
def stC(ob:Option AObj)(b off n:Nat)(h:H)(v:V):Option (V × H):=match ob with
 |some (.cells cs false)=>if v.cells.length=n∧off+n≤cs.length∧v.cells.all V.flat=true then some (.undef,hadd h b (.cells (cs.take off++v.cells++cs.drop (off+n)) false))else none
 |_=>none
def NW(n:Nat)(h:H)(x v:V):Option (V × H):=match x with|.ptr b o=>stC (h b) b o n h v|_=>none
theorem uD(n:Nat)(x v:Opd):opsE call (⟨d,none,.h (.store n x v),i,w⟩::l) a h K=goH (NW n h (x.ev a.t) (v.ev a.t)) d call l a K:=by
 simp only[opsE,aF,az,bF,HK.E,NW,stC,true_and,if_true];cases x.ev a.t<;>try rfl
 rename_i b o;dsimp only;cases h b with
 |none=>rfl
 |some ob =>
   cases ob<;>try rfl
   rename_i cs ro;cases ro<;>dsimp only
   ·split
    ·rename_i c;simp only[goH,c,true_and,and_self]
    ·rename_i c;simp only[goH];apply propext;constructor
     ·intro q;exact c ⟨q.1,q.2.1,q.2.2.1⟩
     ·exact False.elim
   ·rfl
theorem TU{n b o:Nat}:NW n h (.ptr b o) v=stC (h b) b o n h v:=(rfl)
theorem BJ{b o:Nat}{cs:List V}(hv:v.flat=true)(c:o+1≤cs.length):stC (some (.cells cs false)) b o 1 h v=some (.undef,hadd h b (.cells (cs.take o++[v]++cs.drop (o+1)) false)):=by
 have e:v.cells=[v]:=by cases v<;>first|rfl|cases hv
 simp[stC,e,c,hv]
theorem BI{b o n:Nat}{cs vs:List V}(hl:vs.length=n)(c:o+n≤cs.length)(hv:vs.all V.flat=true):stC (some (.cells cs false)) b o n h (.agg vs)=some (.undef,hadd h b (.cells (cs.take o++vs++cs.drop (o+n)) false)):=by
 simp only[stC,V.cells,hl,c,hv,and_self,if_true]
def cpC(ob:Option AObj)(es b off len n:Nat)(new:List V)(h:H):Option (V × H):=match ob with
 | some (.cells cs false)=>if off+len*es≤cs.length then
    some (.int .i64 (min n len:Nat),hadd h b (.cells (cs.take off++new.take (min n len*es)++cs.drop (off+min n len*es)) false))else none
 |_=>none
def cpEv(es:Nat)(h:H)(x y:V):Option (V × H):=
 match dI es h y with
 |none=>none
 |some (n,new) =>
   match x with
   |.nilsl=>some (.int .i64 0,h)
   |.sl b o es' len=>if es=es' then cpC (h b) es b o len n new h else none
   |_=>none
def muF(r:Option (Option (V × Nat)))(kc:KC)(b:Nat)(es:Ents)(clock:Nat)(k v:V)(h:H):Option (V × H):=match r with
   |some (some _)=>some (.undef,hadd h b (.map (sD kc k v es) clock))
   |some none=>some (.undef,hadd h b (.map (es++[(k,v,clock)]) (clock+1)))
   |none=>none
def muC(ob:Option AObj)(kc:KC)(b:Nat)(k v:V)(h:H):Option (V × H):=match ob with
 |some (.map es clock)=>if bH kc k k=some true then muF (aK kc k es) kc b es clock k v h else none
 |_=>none
def SN(kc:KC)(h:H)(m k v:V):Option (V × H):=match m with|.map b=>muC (h b) kc b k v h|_=>none
theorem Bz(kc:KC)(m k v:Opd):opsE call (⟨d,none,.h (.mapUpd kc m k v),i,w⟩::l) a h K=goH (SN kc h (m.ev a.t) (k.ev a.t) (v.ev a.t)) d call l a K:=by
 simp only[opsE,aF,az,bF,HK.E,SN,muC,muF,true_and,if_true];cases m.ev a.t<;>try rfl
 rename_i b;dsimp only;cases h b with
 |none=>rfl
 |some ob =>
   cases ob<;>try rfl
   rename_i es clock;dsimp only
   by_cases c:bH kc (k.ev a.t) (k.ev a.t)=some true
   ·rw[if_pos c];simp only[c,true_and];cases aK kc (k.ev a.t) es with
    |none=>rfl
    |some r=>cases r<;>rfl
   ·rw[if_neg c];simp only[c,false_and];rfl
theorem SQ{kc:KC}{b:Nat}{k:V}:SN kc h (.map b) k v=muC (h b) kc b k v h:=(rfl)
theorem PN{kc:KC}{b:Nat}{k:V}{es:Ents}{clock:Nat}(hk:bH kc k k=some true):muC (some (.map es clock)) kc b k v h=muF (aK kc k es) kc b es clock k v h:=by simp[muC,hk]
theorem MM{kc:KC}{b:Nat}{k:V}{es:Ents}{clock:Nat}:muF (some none) kc b es clock k v h=some (.undef,hadd h b (.map (es++[(k,v,clock)]) (clock+1))):=(rfl)
def JL(call:CP)(f:V)(args:List V)(d:Option Nat)(l:List IOp)(a:A)(h:H)(K:A→H→Prop):Prop:=
 vO call f args h fun v h'=>opsE call l ⟨put a.t d v,a.d⟩ h' K
theorem FO(f:Opd)(args:List Opd):opsE call (⟨d,none,.h (.call f args),i,w⟩::l) a h K=JL call (f.ev a.t) (args.map (Opd.ev a.t)) d l a h K:=by
 rw[IP];rfl
theorem JM{f:Nat}{first cap args:List V}:JL call (.fn f first cap) args d l a h K=call (.fn f) (first++args++cap) h fun v h'=>later call l ⟨put a.t d v,a.d⟩ h' K:=rfl
theorem CG{y:Nat}{args:List V}:JL call (.yield y) args d l a h K=call (.round y) args h fun v h'=>later call l ⟨put a.t d v,a.d⟩ h' K:=rfl
def goD(f:V)(args:List V)(d:Option Nat)(call:CP)(l:List IOp)(a:A)(h:H)(K:A→H→Prop):Prop:=
 match f with
 |.fn q first cap=>opsE call l ⟨put a.t d .undef,(.fn q first cap,args)::a.d⟩ h K
 |_=>False
theorem RN{q:Nat}{first cap args:List V}:goD (.fn q first cap) args d call l a h K=opsE call l ⟨put a.t d .undef,(.fn q first cap,args)::a.d⟩ h K:=rfl
theorem IQ(f:Opd)(args:List Opd):opsE call (⟨d,none,.h (.dfr f args),i,w⟩::l) a h K=goD (f.ev a.t) (args.map (Opd.ev a.t)) d call l a h K:=by
 rw[MV];rfl
theorem J6(hm:mF call){l:List IOp}{W:Reads}{a:A}{h:H}(hl:l.all (fun o=>o.watch.isEmpty)=true):aT call l W a h K↔opsE call l a h K:=by
 induction l generalizing W a h with
 |nil=>exact Iff.rfl
 |cons o l ih =>
   simp only[List.all_cons,Bool.and_eq_true]at hl;have hw:o.watch=[]:=List.isEmpty_iff.1 hl.1;have hold:∀(W:Reads) h',W.hold o.watch h':=fun W h' x _ hx=>by rw[hw]at hx;cases hx
   simp only[opsE,aT];refine and_congr_right fun _=>?_;split
   ·constructor
    ·intro hE;split at hE
     ·exact bu hm (fun v a h q=>(ih hl.2).1 q) hE
     ·exact bu hm (fun v a h q=>(ih hl.2).1 q.2) hE
     ·exact bu hm (fun v a h q=>(ih hl.2).1 q) hE
    ·intro hE;split
     ·exact bu hm (fun v a h q=>(ih hl.2).2 q) hE
     ·exact bu hm (fun v a h q=>⟨hold _ _,(ih hl.2).2 q⟩) hE
     ·exact bu hm (fun v a h q=>(ih hl.2).2 q) hE
   ·exact ih hl.2
variable{Q:Ex→A→H→Prop}{c e:IC}{pg:Pg}
theorem Ov{l:List IOp}(hl:l.all (fun o=>o.watch.isEmpty)=true):E (AC pg) (.draw l) a h Q=opsE (AC pg) l a h (Q .nm):=propext (J6 AC.mono hl)
def goC(v:V)(call:CP)(c e:IC)(a:A)(h:H)(Q:Ex→A→H→Prop):Prop:=
 match v with|.bool b=>(b=true→E call c a h Q)∧(b=false→E call e a h Q)|_=>False
theorem Ou{x:Opd}:E call (.cond x c e) a h Q=goC (x.ev a.t) call c e a h Q:=rfl
theorem Ur:goC (.bool true) call c e a h Q=E call c a h Q:=by simp[goC]
theorem Uo:goC (.bool false) call c e a h Q=E call e a h Q:=by simp[goC]
theorem ED:jh i Q .nm a h=Q .nm a h:=rfl
theorem BX:jh i Q .ret a h=Q .ret a h:=rfl
theorem zU:jh i Q (.exit j) a h=if j=i then Q .nm a h else Q (.exit j) a h:=rfl
theorem Ez:andThen K Q .nm a h=K a h:=rfl
theorem BV:andThen K Q .ret a h=Q .ret a h:=rfl
theorem zQ:andThen K Q (.exit j) a h=Q (.exit j) a h:=rfl
def Qi(o:Option (List V))(h:H)(Q:V→H→Prop):Prop:=match o with|some vs=>∃h3,Sub h3 h∧Q (packed vs) h3|none=>False
def goE(call:CP)(res:List Res)(Q:V→H→Prop)(t:Tm)(ds:List (V × List V))(h:H):Prop:=
 yz call ds h fun h''=>Qi (bY (res.map (kU t h''))) h'' Q
def bW(call:CP)(res:List Res)(Q:V→H→Prop)(t:Tm)(ds:List (V × List V))(h:H):Prop:=goE call res Q t ds h
section
variable{res:List Res}{Q:V→H→Prop}{vs:List V}{ds:List (V × List V)}
theorem Jc:Qi (some vs) h Q=∃h3,Sub h3 h∧Q (packed vs) h3:=rfl
theorem Ph:goE call res Q t [] h=Qi (bY (res.map (kU t h))) h Q:=rfl
theorem LG{f:Nat}{first cap args:List V}:goE call res Q t ((.fn f first cap,args)::ds) h=call (.fn f) (first++args++cap) h fun _ h'=>bW call res Q t ds h':=rfl
theorem Gu{e:Ex}(he:e=.nm∨e=.ret)(hm:mF call):EX call res Q e a h↔goE call res Q a.t a.d h:=by
 unfold EX goE;rw[show(e=.nm∨e=.ret)=True from eq_true he,true_and];constructor<;>refine sS hm fun h'' q=>?_
 ·obtain⟨vs,h3,q1,q2⟩:=q;rw[q1];exact⟨h3,q2⟩
 ·unfold Qi at q;split at q
  ·rename_i vs hv;obtain⟨h3,q2⟩:=q;exact⟨vs,h3,hv,q2⟩
  ·exact q.elim
theorem Ky:EX (AC pg) res Q .nm a h=goE (AC pg) res Q a.t a.d h:=propext (Gu (.inl rfl) AC.mono)
theorem tq:EX (AC pg) res Q .ret a h=goE (AC pg) res Q a.t a.d h:=propext (Gu (.inr rfl) AC.mono)
end
theorem E.loopX{X:Type}(hm:mF call)(I:X→A→H→Prop)(m:X→Nat)(x:X)(h0:I x a h)
  (hs:∀x a h,I x a h→E call c a h (andThen (fun a' h'=>∃x',m x'<m x∧I x' a' h') Q)):E call (.loop c) a h Q:=by
 simp only[E];intro Z hZ;have key:∀k x a h,I x a h→m x<k→Z a h:=by
  intro k;induction k with
  |zero=>intro x a h _ hk;omega
  |succ k ih =>
    intro x a h hi hk;exact hZ a h (kZ hm (lg (fun a' h' ⟨x',q1,q2⟩=>ih x' a' h' q2 (by omega)) fun _ _ _=>id) (hs x a h hi))
 exact key _ x a h h0 (Nat.lt_succ_self _)
theorem E.cut(hm:mF call)(R:Ex→A→H→Prop)(hE:E call c a h R)(hR:∀e a h,R e a h→Q e a h):E call c a h Q:=kZ hm hR hE
theorem ae{b i:Nat}{o:AObj}(e:i≠b):hadd h b o i=h i:=bZ e
def rsC(o:Option AObj)(off n:Nat)(agg:Bool):Option V:=match o with|some (.cells cs _)=>partOf off n agg cs|_=>none
def rsE(v:V)(h:H)(n:Nat)(agg:Bool):Option V:=match v with|.ptr b o=>rsC (h b) o n agg|_=>none
def rtE(v:V):Option V:=match v with|.undef=>none|v=>some v
theorem Qh{i:Nat}:kU t h (.tmp i)=rtE (t i):=(rfl)
theorem NI{i n:Nat}{agg:Bool}:kU t h (.cell i n agg)=rsE (t i) h n agg:=by
 simp only[kU,rsE];cases t i<;>rfl
theorem TJ{b o n:Nat}{agg:Bool}:rsE (.ptr b o) h n agg=rsC (h b) o n agg:=(rfl)
theorem Jh{cs:List V}{ro:Bool}{o n:Nat}{agg:Bool}:rsC (some (.cells cs ro)) o n agg=partOf o n agg cs:=(rfl)
theorem TK{k:IntKind}{p:Int}:rtE (.int k p)=some (.int k p):=(rfl)
theorem TM{s:List UInt8}:rtE (.str s)=some (.str s):=(rfl)
theorem Ql{b:Bool}:rtE (.bool b)=some (.bool b):=(rfl)
theorem TL{b o:Nat}:rtE (.ptr b o)=some (.ptr b o):=(rfl)
theorem Ji:rtE .nilptr=some .nilptr:=(rfl)
theorem UK{b o es n:Nat}:rtE (.sl b o es n)=some (.sl b o es n):=(rfl)
theorem NS:rtE .nilsl=some .nilsl:=(rfl)
theorem UJ{f:Nat}{l m:List V}:rtE (.fn f l m)=some (.fn f l m):=(rfl)
theorem NR:rtE .nilif=some .nilif:=(rfl)
theorem JA:bY []=some []:=(rfl)
def QX(o:Option V)(l:List (Option V)):Option (List V):=match o with|some v=>(bY l).map (v::·)|none=>none
theorem Ho{o:Option V}{l:List (Option V)}:bY (o::l)=QX o l:=by
 cases o<;>simp only[bY,QX];cases bY l<;>rfl
theorem Hm{l:List (Option V)}:QX (some v) l=(bY l).map (v::·):=(rfl)
theorem Nh:packed [v]=v:=(rfl)
theorem Nc:packed []=.tup []:=(rfl)
theorem Nj{u:V}{vs:List V}:packed (v::u::vs)=.tup (v::u::vs):=(rfl)
def Ir(k:IntKind)(a b:Int):Int:=k.wrap ((BitVec.ofInt k.bits a &&& BitVec.ofInt k.bits b).toNat)
def ior(k:IntKind)(a b:Int):Int:=k.wrap ((BitVec.ofInt k.bits a ||| BitVec.ofInt k.bits b).toNat)
def Uy(k:IntKind)(a b:Int):Int:=k.wrap (a*2 ^ (min b.toNat k.bits))
def wO(k:IntKind)(a b:Int):Int:=a.fdiv (2 ^ (min b.toNat k.bits))
section
variable{k k':IntKind}{a b:Int}{x y:List UInt8}
theorem OM:bK .add (.int k a) (.int k b)=some (.int k (k.wrap (a+b))):=by simp[bK]
theorem OZ:bK .sub (.int k a) (.int k b)=some (.int k (k.wrap (a-b))):=by simp[bK]
theorem OX:bK .mul (.int k a) (.int k b)=some (.int k (k.wrap (a*b))):=by simp[bK]
theorem Au(hb:b≠0):bK .quo (.int k a) (.int k b)=some (.int k (k.wrap (a.tdiv b))):=by simp[bK,hb]
theorem Aw(hb:b≠0):bK .rem (.int k a) (.int k b)=some (.int k (a.tmod b)):=by simp[bK,hb]
theorem OO:bK .and (.int k a) (.int k b)=some (.int k (Ir k a b)):=by simp[bK,Ir]
theorem Rw:bK .or (.int k a) (.int k b)=some (.int k (ior k a b)):=by simp[bK,ior]
theorem Az(hb:¬b<0):bK .shl (.int k a) (.int k' b)=some (.int k (Uy k a b)):=by simp[bK,hb,Uy]
theorem AA(hb:¬b<0):bK .shr (.int k a) (.int k' b)=some (.int k (wO k a b)):=by simp[bK,hb,wO]
theorem OQ:bK .eql (.int k a) (.int k b)=some (.bool (decide (a=b))):=by simp[bK];rfl
theorem OY:bK .neq (.int k a) (.int k b)=some (.bool (decide (a≠b))):=by
 simp only[bK,if_true];congr 2;by_cases e:a=b<;>simp[e]
theorem OW:bK .lss (.int k a) (.int k b)=some (.bool (decide (a<b))):=by simp[bK]
theorem OV:bK .leq (.int k a) (.int k b)=some (.bool (decide (a≤b))):=by simp[bK]
theorem OU:bK .gtr (.int k a) (.int k b)=some (.bool (decide (b<a))):=by simp[bK]
theorem OT:bK .geq (.int k a) (.int k b)=some (.bool (decide (b≤a))):=by simp[bK]
theorem Dh(hl:x.length+y.length<4611686018427387904):bK .add (.str x) (.str y)=some (.str (x++y)):=by simp[bK,hl]
theorem Kt:bK .eql (.str x) (.str y)=some (.bool (decide (x=y))):=by
 simp only[bK];congr 2;by_cases e:x=y<;>simp[e]
theorem Ku:bK .neq (.str x) (.str y)=some (.bool (decide (x≠y))):=by
 simp only[bK];congr 2;by_cases e:x=y<;>simp[e]
theorem CZ{p:Prop}[Decidable p](h:p):decide p=true:=decide_eq_true h
theorem CY{p:Prop}[Decidable p](h:¬p):decide p=false:=decide_eq_false h
end
theorem wI{p:Prop}[Decidable p](x:p→goC (.bool true) call c e a h Q)(y:¬p→goC (.bool false) call c e a h Q):goC (.bool (decide p)) call c e a h Q:=by
 by_cases hp:p
 ·rw[decide_eq_true hp];exact x hp
 ·rw[decide_eq_false hp];exact y hp
attribute [go_sem] TY
attribute [go_sem] QU Ua Ov Js Qn Jj NT Ky tq Ph LG Jc Ou Ur Uo Ot QT Ub ED BX zU Ez BV zQ MW PV PW PT SX uD Bz FO IQ RN JM CG LK LD JG Q9 OD JH LH RX RP RV RQ RU TZ Tv Tu N7 Ru Vf OL UE pk_pick Tn Tj Tq UD UF TW FY Ri Ja TT NF QQ I7 Nw RD Ti FX FZ Ry Ny I5 Tt Rx P6 Nv Kw H8 sZ sW I9 SS I8 SA Nz GR Sz P7 SL O0 Gt Kv O1 O3 O4 PR Qk Su IB Je MI GU MH SE MG SC Iz NM UN jA Jv QW Aa zZ Oz Oq Jw TU BJ BI SQ PN MM Qh NI TJ Jh TK TM Ql TL Ji UK NS UJ NR JA Ho Hm Nh Nc Nj List.all_cons List.all_nil List.isEmpty_nil List.length_cons List.length_nil List.getElem?_cons_zero List.getElem?_cons_succ List.getElem?_nil Option.getD_some Option.getD_none Option.map_some Option.map_none if_true if_false true_and and_true List.map_cons List.map_nil ah List.take_succ_cons List.take_zero List.drop_succ_cons List.drop_zero List.nil_append List.append_nil List.cons_append List.replicate_succ List.replicate_zero List.flatten_cons List.flatten_nil Bool.true_eq_false Bool.false_eq_true false_or or_false true_or or_true not_true_eq_false not_false_eq_true true_implies false_implies Bool.not_true Bool.not_false Int.cast_ofNat_Int Bool.and_self Bool.and_true Bool.true_and Option.bind_some wK ne_eq decide_true decide_false Nat.zero_add Nat.add_zero Nat.mul_one Nat.one_mul Nat.zero_mul OM OZ OX Au Aw OO Rw Az AA OQ OY OW OV OU OT Kt Ku Kz KE H9 KD O8 EZ KA O7 Nat.le_refl uj LY Fj Fp zW EH EG Bv Ff List.take_length
end
section
open Go
variable{call:CP}{a:A}{h h':H}{K:A→H→Prop}{d:Option Nat}{i j:Nat}{w:List Nat}{l:List IOp}{t:Tm}{v:V}
def Dv(o:Option AObj)(b:Nat)(d:Option Nat)(call:CP)(l:List IOp)(a:A)(h:H)(K:A→H→Prop):Prop:=
 match o with
 |some (.sit s pos) =>
   if pos<s.length then opsE call l ⟨put a.t d (.tup [.bool true,.int .i64 pos,.int .i32 (Utf8.decode ⟨s.toArray⟩ pos).1]),a.d⟩ (hadd h b (.sit s (pos+(Utf8.decode ⟨s.toArray⟩ pos).2))) K
   else opsE call l ⟨put a.t d (.tup [.bool false]),a.d⟩ h K
 |_=>False
def goNS(x:V)(d:Option Nat)(call:CP)(l:List IOp)(a:A)(h:H)(K:A→H→Prop):Prop:=
 match x with|.ptr b 0=>Dv (h b) b d call l a h K|_=>False
theorem Dw{s:List UInt8}{pos b:Nat}(c:pos<s.length):Dv (some (.sit s pos)) b d call l a h K=opsE call l ⟨put a.t d (.tup [.bool true,.int .i64 pos,.int .i32 (Utf8.decode ⟨s.toArray⟩ pos).1]),a.d⟩ (hadd h b (.sit s (pos+(Utf8.decode ⟨s.toArray⟩ pos).2))) K:=by
 simp only[Dv,c,if_true]
theorem yT{s:List UInt8}{pos b:Nat}(c:¬pos<s.length):Dv (some (.sit s pos)) b d call l a h K=opsE call l ⟨put a.t d (.tup [.bool false]),a.d⟩ h K:=by
 simp only[Dv,c,if_false]
def LM(o:Option AObj)(m:Nat)(d:Option Nat)(call:CP)(l:List IOp)(a:A)(h:H)(K:A→H→Prop):Prop:=
 match o with|some (.map _ clock)=>∀b,h b=none→later call l ⟨put a.t d (.ptr b 0),a.d⟩ (hadd h b (.iter (some m) clock [] clock)) K|_=>False
def RZ(x:V)(d:Option Nat)(call:CP)(l:List IOp)(a:A)(h:H)(K:A→H→Prop):Prop:=
 match x with
 |.nilmap=>∀b,h b=none→later call l ⟨put a.t d (.ptr b 0),a.d⟩ (hadd h b (.iter none 0 [] 0)) K
 |.map m=>LM (h m) m d call l a h K
 |_=>False
theorem DX(x:Opd):opsE call (⟨d,none,.h (.range x),i,w⟩::l) a h K=RZ (x.ev a.t) d call l a h K:=by
 rw[FQ];simp only[HK.E,RZ];cases x.ev a.t<;>rfl
theorem LP{m:Nat}:RZ (.map m) d call l a h K=LM (h m) m d call l a h K:=rfl
theorem Ik{m:Nat}{es:Ents}{clock:Nat}:LM (some (.map es clock)) m d call l a h K=∀b,h b=none→later call l ⟨put a.t d (.ptr b 0),a.d⟩ (hadd h b (.iter (some m) clock [] clock)) K:=rfl
def Gy(o:Option AObj)(m since:Nat)(seen:List Nat)(stepped b:Nat)(d:Option Nat)(call:CP)(l:List IOp)(a:A)(h:H)(K:A→H→Prop):Prop:=
 match o with
 | some (.map es clock)=>(!seen.isEmpty&&!es.isEmpty&&es.all fun e=>decide (stepped≤e.2.2))=false ∧
         ∀x∈candidates es since seen,match x with
           |some e=>opsE call l ⟨put a.t d (.tup [.bool true,e.1,e.2.1]),a.d⟩ (hadd h b (.iter (some m) since (seen++[e.2.2]) clock)) K
           |none=>opsE call l ⟨put a.t d (.tup [.bool false]),a.d⟩ h K
 |_=>False
def Dx(o:Option AObj)(b:Nat)(d:Option Nat)(call:CP)(l:List IOp)(a:A)(h:H)(K:A→H→Prop):Prop:=
 match o with
 |some (.iter none _ _ _)=>opsE call l ⟨put a.t d (.tup [.bool false]),a.d⟩ h K
 |some (.iter (some m) since seen stepped)=>Gy (h m) m since seen stepped b d call l a h K
 |_=>False
def RY(x:V)(d:Option Nat)(call:CP)(l:List IOp)(a:A)(h:H)(K:A→H→Prop):Prop:=
 match x with|.ptr b 0=>Dx (h b) b d call l a h K|_=>False
theorem FP(x:Opd):opsE call (⟨d,none,.h (.next x),i,w⟩::l) a h K=RY (x.ev a.t) d call l a h K:=by
 rw[IR];simp only[HK.E,later];generalize x.ev a.t=v;split
 ·rename_i b
  show _=Dx (h b) b d call l a h K
  unfold Dx Gy;generalize h b=o;rcases o with _|ob
  ·rfl
  ·cases ob<;>rfl
 ·rename_i hne;unfold RY;split
  ·rename_i b;exact(hne b rfl).elim
  ·rfl
theorem LJ{b:Nat}:RY (.ptr b 0) d call l a h K=Dx (h b) b d call l a h K:=rfl
theorem Fe{m b s t:Nat}{se:List Nat}:Dx (some (.iter (some m) s se t)) b d call l a h K=Gy (h m) m s se t b d call l a h K:=rfl
structure Half(es:Ents)(clock:Nat)(seen:List Nat)(done rest:Ents):Prop where
 perm:(done++rest).Perm es
 seen:seen=done.map fun e=>e.2.2
 nodup:(es.map fun e=>e.2.2).Nodup
 old:∀e∈es,e.2.2<clock
theorem Half.start{es:Ents}{clock:Nat}(hn:(es.map fun e=>e.2.2).Nodup)(ho:∀e∈es,e.2.2<clock):Half es clock [] [] es:=⟨by simp,rfl,hn,ho⟩
theorem wJ{es done rest:Ents}{clock m b:Nat}{seen:List Nat}(H:Half es clock seen done rest)
  (hend:rest=[]→opsE call l ⟨put a.t d (.tup [.bool false]),a.d⟩ h K)
  (hstep:∀e r1 r2,rest=r1++e::r2→e∈es→Half es clock (seen++[e.2.2]) (done++[e]) (r1++r2)→opsE call l ⟨put a.t d (.tup [.bool true,e.1,e.2.1]),a.d⟩ (hadd h b (.iter (some m) clock (seen++[e.2.2]) clock)) K):
  Gy (some (.map es clock)) m clock seen clock b d call l a h K:=by
 obtain⟨hp,hs,hn,ho⟩:=H;refine⟨?_,fun x hx=>?_⟩
 ·cases es with
  |nil=>simp
  |cons e es =>
    have:¬clock≤e.2.2:=by have:=ho e (by simp);omega
    simp[this]
 ·have hnd:((done++rest).map fun e=>e.2.2).Nodup:=(hp.map _).nodup_iff.2 hn;rw[List.map_append,List.nodup_append]at hnd;have hin:∀e,e∈es↔e∈done∨e∈rest:=fun e=>by rw[← hp.mem_iff,List.mem_append]
  have hleft:∀e,e∈es.filter (fun e=>!seen.contains e.2.2)↔e∈rest:=by
   intro e;rw[List.mem_filter,hin,hs];simp only[Bool.not_eq_true',List.contains_eq_mem,decide_eq_false_iff_not];constructor
   ·rintro⟨hd|hr,hc⟩
    ·exact(hc (List.mem_map.2 ⟨e,hd,rfl⟩)).elim
    ·exact hr
   ·intro hr;exact⟨.inr hr,fun hm=>hnd.2.2 _ hm _ (List.mem_map.2 ⟨e,hr,rfl⟩) rfl⟩
  have hsp:∀e∈rest,∃r1 r2,rest=r1++e::r2:=fun e he=>List.append_of_mem he;simp only[candidates]at hx;rw[List.mem_append]at hx;rcases hx with hx|hx
  ·split at hx
   ·rename_i hem;simp only[List.mem_singleton]at hx;subst hx;refine hend ?_;cases rest with
    |nil=>rfl
    |cons e rest =>
      have h1:=(hleft e).2 (by simp);have h2:e∈(es.filter (fun e=>!seen.contains e.2.2)).filter (fun e=>decide (e.2.2<clock)):=List.mem_filter.2 ⟨h1,by simpa using ho e ((List.mem_filter.1 h1).1)⟩;rw[List.isEmpty_iff]at hem;rw[hem]at h2;cases h2
   ·cases hx
  ·rw[List.mem_map]at hx;obtain⟨e,he,rfl⟩:=hx;have he':e∈es.filter (fun e=>!seen.contains e.2.2):=by
    rcases List.mem_append.1 he with he|he<;>exact List.mem_filter.2 ⟨(List.mem_filter.1 (List.mem_filter.1 he).1).1,(List.mem_filter.1 (List.mem_filter.1 he).1).2⟩
   have hr:=(hleft e).1 he';obtain⟨r1,r2,rfl⟩:=hsp e hr;exact hstep e r1 r2 rfl (List.mem_filter.1 he').1 ⟨by rw[List.append_assoc];refine List.Perm.trans ?_ hp;exact List.Perm.append_left done (List.perm_middle (a:=e) (l₁:=r1) (l₂:=r2)).symm,by rw[hs];simp,hn,ho⟩
theorem rD{es:Ents}{e:V × V × Nat}(hn:(es.map fun e=>e.2.2).Nodup)(he:e∈es):bV e.2.2 es=some (e.1,e.2.1):=by
 induction es with
 |nil=>cases he
 |cons x es ih =>
   obtain⟨k,u,n⟩:=x;rw[List.map_cons,List.nodup_cons]at hn;simp only[bV];rcases List.mem_cons.1 he with rfl|he
   ·simp
   ·have:n≠e.2.2:=fun eq=>hn.1 (by rw[eq];exact List.mem_map.2 ⟨e,he,rfl⟩);rw[if_neg (by simpa using this)];exact ih hn.2 he
def enM(o:Option AObj)(stepped:Nat)(last:Option Nat):Option V:=match o with
 | some (.map es clock)=>match last with
   |some n=>if clock=stepped then(bV n es).map fun(k,v)=>.tup [k,v]else none
   |none=>none
 |_=>none
def enC(o:Option AObj)(h:H):Option V:=match o with
 |some (.iter (some m) _ seen stepped)=>enM (h m) stepped seen.getLast?
 |_=>none
def enE(v:V)(h:H):Option V:=match v with|.ptr i 0=>enC (h i) h|_=>none
theorem NL{ρ:Opd→V}{x:Opd}:RK.ev ρ h (.entry x)=enE (ρ x) h:=by
 simp only[RK.ev];generalize ρ x=v;split
 ·rename_i b
  show _=enC (h b) h
  unfold enC enM;generalize h b=o;rcases o with _|ob
  ·rfl
  ·cases ob<;>rfl
 ·rename_i hne;unfold enE;split
  ·rename_i b;exact(hne b rfl).elim
  ·rfl
theorem Rl{b:Nat}:enE (.ptr b 0) h=enC (h b) h:=rfl
theorem J9{m s t:Nat}{seen:List Nat}:enC (some (.iter (some m) s seen t)) h=enM (h m) t seen.getLast?:=rfl
theorem Rk{es:Ents}{clock n:Nat}:enM (some (.map es clock)) clock (some n)=(bV n es).map fun(k,v)=>.tup [k,v]:=by simp[enM]
theorem AU{α:Type}{l:List α}{x:α}:(l++[x]).getLast?=some x:=by simp
def Qq(o:Option AObj)(es off n:Nat):Option (Nat × List V):=match o with
 |some (.cells cs _)=>if off+n*es≤cs.length then some (n,(cs.drop off).take (n*es))else none
 |_=>none
theorem Qr{es:Nat}:dI es h .nilsl=some (0,[]):=rfl
theorem Qs{s:List UInt8}:dI 1 h (.str s)=some (s.length,bytesIn s):=rfl
theorem TS{b o es n:Nat}:dI es h (.sl b o es n)=Qq (h b) es o n:=by
 simp only[dI,Qq,true_and];generalize h b=o;rcases o with _|ob
 ·rfl
 ·cases ob<;>rfl
theorem xX{cs:List V}{ro:Bool}{es o n:Nat}(c:o+n*es≤cs.length):Qq (some (.cells cs ro)) es o n=some (n,(cs.drop o).take (n*es)):=by simp[Qq,c]
def Du(ob:Option AObj)(b o es len bytes n:Nat)(new:List V)(d:Option Nat)(call:CP)(l:List IOp)(a:A)(h:H)(K:A→H→Prop):Prop:=
 match ob with
 | some (.cells cs false)=>o+len*es≤cs.length∧(len+n)*bytes≤1099511627776∧len+n≤1099511627776 ∧
   ∀b',b'≠b→h b'=none→(bytes=1→isB b→isB b')→later call l ⟨put a.t d (.sl b' 0 es (len+n)),a.d⟩ (hadd (hset h b none) b' (.cells ((cs.drop o).take (len*es)++new) false)) K
 |_=>False
def wH(src:Option (Nat × List V))(es bytes:Nat)(x:V)(d:Option Nat)(call:CP)(l:List IOp)(a:A)(h:H)(K:A→H→Prop):Prop:=
 match src with
 |none=>False
 |some (n,new) =>
   match x with
   |.nilsl=>if n=0 then opsE call l ⟨put a.t d .nilsl,a.d⟩ h K else n*bytes≤1099511627776∧n≤1099511627776∧∀b',h b'=none→(bytes=1→isB b')→later call l ⟨put a.t d (.sl b' 0 es n),a.d⟩ (hadd h b' (.cells new false)) K
   |.sl b o es' len=>if n=0 then es=es'∧opsE call l ⟨put a.t d (.sl b o es len),a.d⟩ h K else es=es'∧Du (h b) b o es len bytes n new d call l a h K
   |_=>False
theorem zo(es bytes:Nat)(x y:Opd):opsE call (⟨d,none,.h (.app es bytes x y),i,w⟩::l) a h K=wH (dI es h (y.ev a.t)) es bytes (x.ev a.t) d call l a h K:=by
 rw[MS];simp only[HK.E,wH,Du,later];cases dI es h (y.ev a.t)with
 |none=>rfl
 |some p =>
   obtain⟨n,new⟩:=p;dsimp only;cases x.ev a.t<;>try rfl
   rename_i b o es' len;dsimp only;split
   ·rfl
   ·cases h b with
    |none=>simp
    |some ob =>
      cases ob<;>try simp
      rename_i cs ro;cases ro<;>simp
theorem OA{es bytes:Nat}{new:List V}:wH (some (0,new)) es bytes .nilsl d call l a h K=opsE call l ⟨put a.t d .nilsl,a.d⟩ h K:=by simp[wH]
theorem JB{es bytes n:Nat}{new:List V}(hn:n≠0)(c:n*bytes≤1099511627776∧n≤1099511627776):wH (some (n,new)) es bytes .nilsl d call l a h K=∀b',h b'=none→(bytes=1→isB b')→later call l ⟨put a.t d (.sl b' 0 es n),a.d⟩ (hadd h b' (.cells new false)) K:=by
 simp[wH,hn,c]
theorem Q4{es bytes b o len:Nat}{new:List V}:wH (some (0,new)) es bytes (.sl b o es len) d call l a h K=opsE call l ⟨put a.t d (.sl b o es len),a.d⟩ h K:=by simp[wH]
theorem QA{es bytes b o len n:Nat}{new:List V}(hn:n≠0):wH (some (n,new)) es bytes (.sl b o es len) d call l a h K=Du (h b) b o es len bytes n new d call l a h K:=by
 simp[wH,hn]
theorem yK{cs new:List V}{b o es len bytes n:Nat}(c:o+len*es≤cs.length∧(len+n)*bytes≤1099511627776∧len+n≤1099511627776):Du (some (.cells cs false)) b o es len bytes n new d call l a h K =
   ∀b',b'≠b→h b'=none→(bytes=1→isB b→isB b')→later call l ⟨put a.t d (.sl b' 0 es (len+n)),a.d⟩ (hadd (hset h b none) b' (.cells ((cs.drop o).take (len*es)++new) false)) K:=by
 simp[Du,c]
theorem Dy{b i:Nat}{o:Option AObj}(e:i≠b):hset h b o i=h i:=by simp[hset,e]
theorem Iq{b:Nat}{o:Option AObj}:hset h b o b=o:=by simp[hset]
attribute [go_sem] DX LP Ik FP LJ Fe NL Rl J9 Rk AU Qr Qs TS zo OA Q4 Iq
end
section
open Go
abbrev Txt:=List UInt8
structure Rep(es:Ents)(clock:Nat)(l:List (Txt × V)):Prop where
 eq:es.map (fun e=>(e.1,e.2.1))=l.map fun p=>(V.str p.1,p.2)
 keys:(l.map (·.1)).Nodup
 born:(es.map fun e=>e.2.2).Nodup
 old:∀e∈es,e.2.2<clock
def gJ{α:Type}(l:List (Txt × α))(k:Txt):Option α:=(l.find? fun p=>p.1==k).map (·.2)
def xG{α:Type}(l:List (Txt × α))(k:Txt)(v:α):List (Txt × α):=if(gJ l k).isSome then l.map (fun p=>if p.1==k then(k,v)else p)else l++[(k,v)]
section
variable{α β:Type}{l:List (Txt × α)}{k k':Txt}{v:α}
theorem wG:gJ ([]:List (Txt × α)) k=none:=rfl
theorem gz{p:Txt × α}:gJ (p::l) k=if p.1=k then some p.2 else gJ l k:=by
 by_cases e:p.1=k
 ·simp[gJ,List.find?,e]
 ·have:(p.1==k)=false:=beq_eq_false_iff_ne.2 e;simp[gJ,List.find?,e,this]
theorem Ic:gJ l k=none↔k∉l.map (·.1):=by
 induction l with
 |nil=>simp[gJ]
 |cons p l ih =>
   rw[gz,List.map_cons,List.mem_cons,not_or];split
   ·rename_i hp;simp[hp]
   ·rename_i hp;rw[ih];exact⟨fun x=>⟨fun e=>hp e.symm,x⟩,fun x=>x.2⟩
theorem xH(e:gJ l k=none):xG l k v=l++[(k,v)]:=by simp[xG,e]
theorem xI{u:α}(e:gJ l k=some u):xG l k v=l.map (fun p=>if p.1==k then(k,v)else p):=by simp[xG,e]
theorem Dt{m:List (Txt × α)}:gJ (l++m) k=(gJ l k).or (gJ m k):=by
 induction l with
 |nil=>simp[wG]
 |cons p l ih=>rw[List.cons_append,gz,gz];split<;>simp[ih]
theorem Ie:gJ (l.map (fun p=>if p.1==k then(k,v)else p)) k'=if k'=k then(gJ l k).map (fun _=>v)else gJ l k':=by
 induction l with
 |nil=>simp[wG]
 |cons p l ih =>
   rw[List.map_cons,gz,gz,gz,ih]
   by_cases hp:p.1=k
   ·simp only[hp,beq_self_eq_true,if_true]
    by_cases h':k'=k
    ·simp[h']
    ·simp[h',Ne.symm h']
   ·simp only[beq_eq_false_iff_ne.2 hp,Bool.false_eq_true,if_false,if_neg hp]
    by_cases h':k'=k
    ·subst h';simp[hp]
    ·simp[h']
theorem LC:gJ (xG l k v) k'=if k'=k then some v else gJ l k':=by
 cases e:gJ l k with
 |none =>
   rw[xH e,Dt,gz,wG]
   by_cases h:k'=k
   ·subst h;simp[e]
   ·simp[h,Ne.symm h]
 |some u=>rw[xI e,Ie,e];rfl
theorem Bg{u:α}(e:gJ l k=some u):(xG l k v).map (·.1)=l.map (·.1):=by
 rw[xI e,List.map_map];refine List.map_congr_left fun p hp=>?_;simp only[Function.comp];split
 ·rename_i h;exact(by simpa using h:p.1=k).symm
 ·rfl
theorem DT(hn:(l.map (·.1)).Nodup):((xG l k v).map (·.1)).Nodup:=by
 cases e:gJ l k with
 |some u=>rw[Bg e];exact hn
 |none =>
   rw[xH e,List.map_append,List.nodup_append];refine⟨hn,by simp,fun a ha b hb=>?_⟩;simp only[List.map_cons,List.map_nil,List.mem_singleton]at hb;subst hb;exact fun x=>Ic.1 e (x ▸ ha)
end
theorem keq{a b:Txt}:bH (.one .str) (.str a) (.str b)=some (decide (a=b)):=by simp only[bH,Gt]
theorem Rep.find{es:Ents}{clock:Nat}{l:List (Txt × V)}(R:Rep es clock l)(k:Txt):(∃n,aK (.one .str) (.str k) es=some ((gJ l k).map fun v=>(v,n))):=by
 obtain⟨eq,hk,hb,ho⟩:=R;clear hk hb ho;induction es generalizing l with
 | nil=>cases l with
   |nil=>exact⟨0,rfl⟩
   |cons p l=>cases eq
 |cons e es ih =>
   cases l with
   |nil=>cases eq
   |cons p l =>
     rw[List.map_cons,List.map_cons,List.cons.injEq]at eq;obtain⟨e1,e2⟩:=eq;have h1:e.1=.str p.1:=congrArg Prod.fst e1;have h2:e.2.1=p.2:=congrArg Prod.snd e1;simp only[aK,h1,keq,gz]
     by_cases hp:k=p.1
     ·rw[decide_eq_true hp,if_pos hp.symm];exact⟨e.2.2,by rw[h2];rfl⟩
     ·rw[decide_eq_false hp,if_neg (Ne.symm hp)];exact ih e2
theorem NU{es:Ents}{l:List (Txt × V)}{k:Txt}{v:V}(eq:es.map (fun e=>(e.1,e.2.1))=l.map fun p=>(V.str p.1,p.2))(hn:(l.map (·.1)).Nodup):
  (sD (.one .str) (.str k) v es).map (fun e=>(e.1,e.2.1))=(l.map (fun p=>if p.1==k then(k,v)else p)).map (fun p=>(V.str p.1,p.2))∧(sD (.one .str) (.str k) v es).map (fun e=>e.2.2)=es.map fun e=>e.2.2:=by
 induction es generalizing l with
 | nil=>cases l with
   |nil=>exact⟨rfl,rfl⟩
   |cons p l=>cases eq
 |cons e es ih =>
   cases l with
   |nil=>cases eq
   |cons p l =>
     rw[List.map_cons,List.map_cons,List.cons.injEq]at eq;rw[List.map_cons,List.nodup_cons]at hn;obtain⟨e1,e2⟩:=eq;have h1:e.1=.str p.1:=congrArg Prod.fst e1;have h2:e.2.1=p.2:=congrArg Prod.snd e1;simp only[sD,h1,keq]
     by_cases hp:k=p.1
     ·subst hp;simp only[decide_true,if_true,List.map_cons,beq_self_eq_true];refine⟨?_,trivial⟩;rw[e2];congr 1;rw[List.map_map];refine List.map_congr_left fun q hq=>?_;have:q.1≠p.1:=fun x=>hn.1 (x ▸ List.mem_map.2 ⟨q,hq,rfl⟩);simp[this]
     ·simp only[decide_eq_false hp,Option.some.injEq,Bool.false_eq_true,if_false,List.map_cons];obtain⟨i1,i2⟩:=ih e2 hn.2;rw[i1,i2];refine⟨?_,rfl⟩;have:(p.1==k)=false:=beq_eq_false_iff_ne.2 (Ne.symm hp);simp only[this,Bool.false_eq_true,if_false,h1,h2]
theorem Rep.set{es:Ents}{clock:Nat}{l:List (Txt × V)}(R:Rep es clock l){k:Txt}{u v:V}(e:gJ l k=some u):Rep (sD (.one .str) (.str k) v es) clock (xG l k v):=by
 obtain⟨i1,i2⟩:=NU (k:=k) (v:=v) R.eq R.keys;refine⟨by rw[xI e];exact i1,DT R.keys,by rw[i2];exact R.born,fun x hx=>?_⟩;have:x.2.2∈(sD (.one .str) (.str k) v es).map (fun e=>e.2.2):=List.mem_map.2 ⟨x,hx,rfl⟩;rw[i2]at this;obtain⟨y,hy,hxy⟩:=List.mem_map.1 this;rw[← hxy];exact R.old y hy
theorem Rep.add{es:Ents}{clock:Nat}{l:List (Txt × V)}(R:Rep es clock l){k:Txt}{v:V}(e:gJ l k=none):Rep (es++[(.str k,v,clock)]) (clock+1) (xG l k v):=by
 refine⟨by rw[xH e,List.map_append,List.map_append,R.eq];rfl,DT R.keys,?_,fun x hx=>?_⟩
 ·rw[List.map_append,List.nodup_append];refine⟨R.born,by simp,fun a ha b hb=>?_⟩;simp only[List.map_cons,List.map_nil,List.mem_singleton]at hb;obtain⟨y,hy,hxy⟩:=List.mem_map.1 ha;have:=R.old y hy;omega
 ·rcases List.mem_append.1 hx with hx|hx
  ·have:=R.old x hx;omega
  ·simp only[List.mem_singleton]at hx;subst hx;simp
theorem Rep.nil{clock:Nat}:Rep [] clock []:=⟨rfl,by simp,by simp,fun _ h=>by cases h⟩
theorem Rep.put{es:Ents}{clock:Nat}{l:List (Txt × V)}(R:Rep es clock l){k:Txt}{v:V}{b:Nat}{h:H}:
  ∃es' clock',muF (aK (.one .str) (.str k) es) (.one .str) b es clock (.str k) v h=some (.undef,hadd h b (.map es' clock'))∧Rep es' clock' (xG l k v):=by
 obtain⟨n,hn⟩:=R.find k;cases e:gJ l k with
 |none=>rw[e]at hn;rw[hn];exact⟨_,_,rfl,R.add e⟩
 |some u=>rw[e]at hn;rw[hn];exact⟨_,_,rfl,R.set e⟩
structure Step(F F':Nat→Prop)(h h':H):Prop where
 keep:∀b o,¬F b→h b=some o→h' b=some o
 new:∀b,F' b→F b∨h b=none
theorem Io{h:H}{b:Nat}{o:AObj}(e:h b=some o):hadd h b o=h:=by
 funext i;simp only[hadd,hset];split
 ·rename_i x;subst x;exact e.symm
 ·rfl
def meF(r:Option (Option (V × Nat)))(kc:KC)(zero:V)(b:Nat)(es:Ents)(clock:Nat)(k:V)(h:H):Option (V × H):=match r with
   |some (some (v,n))=>some (.tup [v,.int .i64 n],hadd h b (.map (sD kc k v es) clock))
   |some none=>some (.tup [zero,.int .i64 clock],hadd h b (.map (es++[(k,zero,clock)]) (clock+1)))
   |none=>none
def meC(ob:Option AObj)(kc:KC)(zero:V)(b:Nat)(k:V)(h:H):Option (V × H):=match ob with
 |some (.map es clock)=>if bH kc k k=some true then meF (aK kc k es) kc zero b es clock k h else none
 |_=>none
def SG(kc:KC)(zero:V)(h:H)(m k:V):Option (V × H):=match m with|.map b=>meC (h b) kc zero b k h|_=>none
section
variable{call:CP}{a:A}{h:H}{K:A→H→Prop}{d:Option Nat}{i:Nat}{w:List Nat}{l:List IOp}
theorem xn(kc:KC)(z:V)(m k:Opd):opsE call (⟨d,none,.h (.mapEntry kc z m k),i,w⟩::l) a h K=goH (SG kc z h (m.ev a.t) (k.ev a.t)) d call l a K:=by
 simp only[opsE,aF,az,bF,HK.E,SG,meC,meF,true_and,if_true];cases m.ev a.t<;>try rfl
 rename_i b;dsimp only;cases h b with
 |none=>rfl
 |some ob =>
   cases ob<;>try rfl
   rename_i es clock;dsimp only
   by_cases c:bH kc (k.ev a.t) (k.ev a.t)=some true
   ·rw[if_pos c];simp only[c,true_and];cases aK kc (k.ev a.t) es with
    |none=>rfl
    |some r=>cases r<;>rfl
   ·rw[if_neg c];simp only[c,false_and];rfl
theorem SI{kc:KC}{b:Nat}{k z:V}:SG kc z h (.map b) k=meC (h b) kc z b k h:=(rfl)
theorem GX{kc:KC}{b:Nat}{k z:V}{es:Ents}{clock:Nat}(hk:bH kc k k=some true):meC (some (.map es clock)) kc z b k h=meF (aK kc k es) kc z b es clock k h:=by simp[meC,hk]
def esC(ob:Option AObj)(b:Nat)(n:Int)(v:V)(h:H):Option (V × H):=match ob with
 |some (.map es clock)=>if 0≤n∧(bV n.toNat es).isSome=true then some (.undef,hadd h b (.map (iQ n.toNat v es) clock))else none
 |_=>none
def Ro(h:H)(m s v:V):Option (V × H):=match m,s with|.map b,.int .i64 n=>esC (h b) b n v h|_,_=>none
theorem tV(m s v:Opd):opsE call (⟨d,none,.h (.entryStore m s v),i,w⟩::l) a h K=goH (Ro h (m.ev a.t) (s.ev a.t) (v.ev a.t)) d call l a K:=by
 simp only[opsE,aF,az,bF,HK.E,Ro,esC,true_and,if_true];generalize m.ev a.t=mv;generalize s.ev a.t=sv;cases mv<;>try rfl
 rename_i b;cases sv<;>try rfl
 rename_i k n;cases k<;>try rfl
 dsimp only;generalize h b=o;rcases o with _|ob
 ·rfl
 ·cases ob<;>try rfl
  rename_i es clock;dsimp only
  by_cases c:0≤n∧(bV n.toNat es).isSome=true
  ·rw[if_pos c];simp only[c,true_and];rfl
  ·rw[if_neg c];simp only[goH];apply propext;constructor
   ·intro q;exact c ⟨q.1,q.2.1⟩
   ·exact False.elim
theorem Rq{b:Nat}{n:Int}{v:V}:Ro h (.map b) (.int .i64 n) v=esC (h b) b n v h:=(rfl)
theorem OI{es:Ents}{clock b n:Nat}{v:V}(hf:(bV n es).isSome=true):esC (some (.map es clock)) b (n:Int) v h=some (.undef,hadd h b (.map (iQ n v es) clock)):=by
 simp[esC,hf]
end
attribute [go_sem] xn SI GX tV Rq
end
section
open Go
variable{call:CP}{a:A}{h h':H}{K:A→H→Prop}{d:Option Nat}{g:Option (Nat × Bool)}{i j:Nat}{w:List Nat}{l:List IOp}{t:Tm}{v:V}{W:Reads}
def bG(call:CP)(l:List IOp)(W:Reads)(a:A)(h:H)(K:A→H→Prop):Prop:=aT call l W a h K
theorem LU:Reads.hold [] w h=True:=by simp[Reads.hold]
theorem Pn:Reads.hold W [] h=True:=by simp[Reads.hold]
theorem Ip{rd:Rd}:Reads.hold ((i,rd,v)::W) w h=((i∈w→rd.1 h=some v)∧Reads.hold W w h):=by
 simp[Reads.hold]
theorem H6:aT call [] W a h K=K a h:=rfl
def RI(o:Option V)(d:Option Nat)(call:CP)(l:List IOp)(W:Reads)(a:A)(h:H)(K:A→H→Prop):Prop:=
 match o with|some v=>aT call l W ⟨put a.t d v,a.d⟩ h K|none=>False
theorem Ii:RI (some v) d call l W a h K=aT call l W ⟨put a.t d v,a.d⟩ h K:=rfl
theorem J7(k:PK):aT call (⟨d,none,.p k,i,w⟩::l) W a h K=RI (k.ev (Opd.ev a.t)) d call l W a h K:=by
 simp only[aT,aF,az,bF,RI,true_and,if_true]<;>rfl
def RJ(o:Option V)(rd:Rd)(i:Nat)(d:Option Nat)(call:CP)(l:List IOp)(W:Reads)(a:A)(h:H)(K:A→H→Prop):Prop:=
 match o with|some v=>aT call l ((i,rd,v)::W) ⟨put a.t d v,a.d⟩ h K|none=>False
theorem UG{k:RK}{ρ:Opd→V}{h:H}:(k.rd ρ).1 h=k.ev ρ h:=rfl
theorem Ij{rd:Rd}:RJ (some v) rd i d call l W a h K=aT call l ((i,rd,v)::W) ⟨put a.t d v,a.d⟩ h K:=rfl
theorem J8(k:RK):aT call (⟨d,none,.r k,i,w⟩::l) W a h K=RJ (k.ev (Opd.ev a.t) h) (k.rd (Opd.ev a.t)) i d call l W a h K:=by
 simp only[aT,aF,az,bF,RJ,true_and,if_true]<;>rfl
def RH(o:Option (AObj × (Nat→V)))(bp:Nat→Prop)(d:Option Nat)(call:CP)(l:List IOp)(W:Reads)(a:A)(h:H)(K:A→H→Prop):Prop:=
 match o with|some (x,f)=>∀b,h b=none→bp b→bG call l W ⟨put a.t d (f b),a.d⟩ (hadd h b x) K|none=>False
theorem Ig{bp:Nat→Prop}{x:AObj}{f:Nat→V}:RH (some (x,f)) bp d call l W a h K=∀b,h b=none→bp b→bG call l W ⟨put a.t d (f b),a.d⟩ (hadd h b x) K:=rfl
theorem J5(k:AK):aT call (⟨d,none,.a k,i,w⟩::l) W a h K=RH (k.ev (Opd.ev a.t)) (fun b=>k.fits b) d call l W a h K:=by
 simp only[aT,aF,az,bF,RH,bG,true_and,if_true]<;>rfl
theorem Gq{k:HK}(nd:∀f as,k≠.dfr f as):aT call (⟨d,none,.h k,i,w⟩::l) W a h K=k.E call (Opd.ev a.t) h fun v h'=>Reads.hold W w h'∧aT call l W ⟨put a.t d v,a.d⟩ h' K:=by
 simp only[aT,aF,az,true_and,if_true];cases k<;>first|rfl|exact(nd _ _ rfl).elim
def JK(call:CP)(f:V)(args:List V)(d:Option Nat)(w:List Nat)(l:List IOp)(W:Reads)(a:A)(h:H)(K:A→H→Prop):Prop:=
 vO call f args h fun v h'=>Reads.hold W w h'∧bG call l W ⟨put a.t d v,a.d⟩ h' K
theorem Dc(f:Opd)(args:List Opd):aT call (⟨d,none,.h (.call f args),i,w⟩::l) W a h K=JK call (f.ev a.t) (args.map (Opd.ev a.t)) d w l W a h K:=by
 rw[Gq (fun _ _=>by intro x;cases x)];rfl
theorem Hw{f:Nat}{first cap args:List V}:JK call (.fn f first cap) args d w l W a h K=call (.fn f) (first++args++cap) h fun v h'=>Reads.hold W w h'∧bG call l W ⟨put a.t d v,a.d⟩ h' K:=rfl
def Us(o:Option (V × H))(d:Option Nat)(w:List Nat)(call:CP)(l:List IOp)(W:Reads)(a:A)(K:A→H→Prop):Prop:=
 match o with|some (v,h)=>Reads.hold W w h∧aT call l W ⟨put a.t d v,a.d⟩ h K|none=>False
theorem Ih:Us (some (v,h)) d w call l W a K=(Reads.hold W w h∧aT call l W ⟨put a.t d v,a.d⟩ h K):=rfl
theorem C9{k:HK}(nd:∀f as,k≠.dfr f as):aT call (⟨d,none,.h k,i,w⟩::l) W a h K=opsE call [⟨d,none,.h k,i,[]⟩] a h fun a' h'=>Reads.hold W w h'∧aT call l W a' h' K:=by
 rw[Gq nd];cases k<;>first|(simp only[opsE,aF,az,bF,true_and,if_true];done)|rfl|exact(nd _ _ rfl).elim
theorem Aq(n:Nat)(x y:Opd):aT call (⟨d,none,.h (.store n x y),i,w⟩::l) W a h K=Us (NW n h (x.ev a.t) (y.ev a.t)) d w call l W a K:=by
 rw[C9 (fun _ _=>by intro x;cases x),uD];cases NW n h (x.ev a.t) (y.ev a.t)<;>rfl
theorem ES(es bytes:Nat)(x y:Opd):aT call (⟨d,none,.h (.app es bytes x y),i,w⟩::l) W a h K=wH (dI es h (y.ev a.t)) es bytes (x.ev a.t) d call [] a h (fun a' h'=>Reads.hold W w h'∧bG call l W a' h' K):=by
 rw[C9 (fun _ _=>by intro x;cases x),zo];rfl
def goDG(c:V)(b:Bool)(d:Option Nat)(k:Kind)(i:Nat)(w:List Nat)(l:List IOp)(call:CP)(W:Reads)(a:A)(h:H)(K:A→H→Prop):Prop:=
 match c with
 |.bool c=>if c=b then aT call (⟨d,none,k,i,w⟩::l) W a h K else aT call l W ⟨put a.t d (.tup []),a.d⟩ h K
 |.tup []=>aT call l W ⟨put a.t d (.tup []),a.d⟩ h K
 |_=>False
variable{Q:Ex→A→H→Prop}{pg:Pg}
theorem Ox{l:List IOp}(hl:l.all (fun o=>o.watch.isEmpty)=false):E call (.draw l) a h Q=aT call l [] a h (Q .nm):=rfl
attribute [go_sem] LU Pn Ip H6 Ii J7 Ij J8 Ig J5 Dc Hw Ih Aq ES Ox List.isEmpty_cons Bool.and_false Bool.false_and List.mem_cons List.not_mem_nil
end
section
open Go
variable{call:CP}{pg:Pg}{a:A}{h h':H}{Q:Ex→A→H→Prop}{R:V→H→Prop}{l:Nat}{t:Tm}{ps:List Nat}{as bd:IC}{st:LSt}{pd:Option Ex}
def rfC(o:Option AObj)(l:Nat)(a:A)(h:H)(Q:Ex→A→H→Prop):Prop:=match o with
 |some (.loop _ _ _ _ st pd)=>st≠.busy∧Q (pd.getD .nm) a (hset h l none)
 |_=>False
def bM(l:Nat)(a:A)(h:H)(Q:Ex→A→H→Prop):Prop:=rfC (h l) l a h Q
def Pi(f:V)(ps:List Nat)(as bd:IC)(call:CP)(a:A)(h:H)(Q:Ex→A→H→Prop):Prop:=match f with
 |.fn g first cap=>∀l,h l=none→call (.fn g) (first++[.yield l]++cap) (hadd h l (.loop a.t ps as bd .ready none)) fun _ h'=>bM l a h' Q
 |_=>∀l,h l=none→False
theorem Hg(hm:mF call){f:Opd}:E call (.rangeFn f ps as bd) a h Q↔Pi (f.ev a.t) ps as bd call a h Q:=by
 simp only[E,Pi];have key:∀h' l,(∃t ps as bd st pd,h' l=some (.loop t ps as bd st pd)∧st≠.busy∧Q (pd.getD .nm) a (hset h' l none))↔bM l a h' Q:=by
  intro h' l;unfold bM rfC;constructor
  ·rintro⟨t,ps,as,bd,st,pd,e,q⟩;rw[e];exact q
  ·intro q;split at q
   ·rename_i t ps as bd st pd e;exact⟨t,ps,as,bd,st,pd,e,q⟩
   ·exact q.elim
 cases f.ev a.t<;>try exact Iff.rfl
 simp only[key]
theorem Ew{f:Opd}:E (AC pg) (.rangeFn f ps as bd) a h Q=Pi (f.ev a.t) ps as bd (AC pg) a h Q:=propext (Hg AC.mono)
theorem Pj{g:Nat}{first cap:List V}:Pi (.fn g first cap) ps as bd call a h Q=∀l,h l=none→call (.fn g) (first++[.yield l]++cap) (hadd h l (.loop a.t ps as bd .ready none)) fun _ h'=>bM l a h' Q:=rfl
theorem TF:rfC (some (.loop t ps as bd st pd)) l a h Q=(st≠.busy∧Q (pd.getD .nm) a (hset h l none)):=rfl
def rbC(o:Option AObj)(l:Nat)(R:V→H→Prop)(e:Ex)(h:H):Prop:=match o with
 |some (.loop t ps as bd _ _)=>∃h3,Sub h3 (hadd h l (.loop t ps as bd (yQ e) (yP e)))∧R (.bool (e==.nm)) h3
 |_=>False
def Gf(l:Nat)(R:V→H→Prop):Ex→A→H→Prop:=fun e a h=>a.d=[]∧rbC (h l) l R e h
def raC(o:Option AObj)(call:CP)(bd:IC)(l:Nat)(R:V→H→Prop)(a:A)(h:H):Prop:=match o with
 |some (.loop t ps as bd' .ready pd)=>E call bd a (hadd h l (.loop t ps as bd' .busy pd)) (Gf l R)
 |_=>False
def F9(call:CP)(bd:IC)(l:Nat)(R:V→H→Prop):Ex→A→H→Prop:=fun e a h=>e=.nm∧a.d=[]∧raC (h l) call bd l R a h
theorem AC.round{args:List V}(e:h l=some (.loop t ps as bd .ready pd))(n:ps.length=args.length)(hE:E (AC pg) as ⟨params t ps args,[]⟩ h (F9 (AC pg) bd l R)):AC pg (.round l) args h R:=by
 refine AC.fold ⟨t,ps,as,bd,pd,e,n,kZ AC.mono (fun e a h1 q=>?_) hE⟩;obtain⟨q1,q2,q3⟩:=q;refine⟨q1,q2,?_⟩;unfold raC at q3;split at q3
 ·rename_i t1 ps1 as1 bd1 pd1 e1;refine⟨t1,ps1,as1,bd1,pd1,e1,kZ AC.mono (fun e a2 h2 r=>?_) q3⟩;obtain⟨r1,r2⟩:=r;refine⟨r1,?_⟩;unfold rbC at r2;split at r2
  ·rename_i t2 ps2 as2 bd2 st2 pd2 e2;obtain⟨h3,s1,s2⟩:=r2;exact⟨t2,ps2,as2,bd2,st2,pd2,h3,e2,s1,s2⟩
  ·exact r2.elim
 ·exact q3.elim
theorem Jf:F9 call bd l R .nm a h=(a.d=[]∧raC (h l) call bd l R a h):=by simp[F9]
theorem TA{bd':IC}:raC (some (.loop t ps as bd' .ready pd)) call bd l R a h=E call bd a (hadd h l (.loop t ps as bd' .busy pd)) (Gf l R):=rfl
theorem Jg{e:Ex}:Gf l R e a h=(a.d=[]∧rbC (h l) l R e h):=rfl
theorem TB{e:Ex}:rbC (some (.loop t ps as bd st pd)) l R e h=∃h3,Sub h3 (hadd h l (.loop t ps as bd (yQ e) (yP e)))∧R (.bool (e==.nm)) h3:=rfl
theorem Qg{vs:List V}:params t [] vs=t:=rfl
theorem NG{p:Nat}{v:V}{vs:List V}:params t (p::ps) (v::vs)=params (upd t p v) ps vs:=rfl
theorem Kq:yQ .nm=.ready:=rfl
theorem Ko:yP .nm=none:=rfl
theorem Q5:(Ex.nm==Ex.nm)=true:=rfl
attribute [go_sem] Ew Pj TF Jf TA Jg TB Qg NG Kq Ko Q5
end
section
open Go
variable{α:Type}{f:α→V}{h h':H}{v:V}{l:List α}
def SlAt(f:α→V)(h:H)(v:V)(l:List α):Prop:=(l=[]∧(v=.nilsl∨∃b o,v=.sl b o 1 0))∨∃b o n cs ro,v=.sl b o 1 n∧h b=some (.cells cs ro)∧o+n≤cs.length∧(cs.drop o).take n=l.map f
def rowOf:V→Option Nat
 |.sl b _ _ _=>some b
 |_=>none
theorem SlAt.keep(I:SlAt f h v l)(k:∀b o,rowOf v=some b→h b=some o→h' b=some o):SlAt f h' v l:=by
 rcases I with⟨rfl,rfl|⟨b,o,rfl⟩⟩|⟨b,o,n,cs,ro,rfl,h1,h2,h3⟩
 ·exact .inl ⟨rfl,.inl rfl⟩
 ·exact .inl ⟨rfl,.inr ⟨b,o,rfl⟩⟩
 ·exact .inr ⟨b,o,n,cs,ro,rfl,k _ _ rfl h1,h2,h3⟩
section
variable{ρ:Opd→V}{x y:Opd}{ok:List Nat}{t t':Nat}{k:IntKind}{a b:Int}{u:V}
end
def bsE:V→Bool→Option V
 |.int .u8 n,c=>some (if c then .str [UInt8.ofNat n.toNat]else .undef)
 |_,_=>none
theorem Q8{c:UInt8}:UInt8.ofNat (Int.toNat (c.toNat:Int))=c:=by simp
def Si:V→V→Option V
 |.str s,.int .u8 n=>some (.int .i64 (mG (UInt8.ofNat n.toNat) s))
 |_,_=>none
theorem F5{ρ:Opd→V}{x c:Opd}:PK.ev ρ (.idxByte x c)=Si (ρ x) (ρ c):=by
 simp only[PK.ev];split<;>simp_all [Si]
theorem Px{s:List UInt8}{n:Int}:Si (.str s) (.int .u8 n)=some (.int .i64 (mG (UInt8.ofNat n.toNat) s)):=rfl
def dsE:V→Option V
 |.sl b o _ n=>if 0<n then some (.ptr b o)else none
 |.nilsl=>some .nilptr
 |_=>none
theorem I4{ρ:Opd→V}{x:Opd}:PK.ev ρ (.dataSl x)=dsE (ρ x):=(rfl)
theorem Rj:dsE .nilsl=some .nilptr:=rfl
theorem QE{b o es n:Nat}(h:0<n):dsE (.sl b o es n)=some (.ptr b o):=by simp[dsE,h]
theorem QV{call:CP}{ρ:Opd→V}{h:H}{Q:V→H→Prop}{x y:Opd}{b o k:Nat}{cs:List V}{s:List UInt8}(ex:ρ x=.ptr b o)(ey:ρ y=.int .i64 (k:Nat))(hk:0<k)(hkm:k<9223372036854775808)(hb:h b=some (.cells cs false))(hB:isB b)(hle:o+k≤cs.length)
  (hs:bytesOf ((cs.drop o).take k)=some s) (hq:Q (.str s) (hadd h b (.cells cs true))):HK.E call ρ h Q (.ustr x y):=by
 simp only[HK.E,ex,ey,hb];refine⟨by omega,by omega,?_⟩;rw[if_neg (by omega)];refine⟨hB,by simpa using hle,?_⟩;simp only[Int.toNat_natCast,hs];exact hq
def saC(o:Option AObj)(b off len es:Nat)(l hh:Option V):Option V:=match o with
 |some (.cells cs _)=>if off+len*es≤cs.length then(qQ len l hh).map fun(i,j)=>.sl b (off+i*es) es (j-i)else none
 |_=>none
def saE(len es:Nat)(v:V)(l hh:Option V)(h:H):Option V:=match v with|.ptr b off=>saC (h b) b off len es l hh|_=>none
theorem uf{cs:List V}{ro:Bool}{b off len es:Nat}{l hh:Option V}(c:off+len*es≤cs.length):saC (some (.cells cs ro)) b off len es l hh=(qQ len l hh).map fun(i,j)=>.sl b (off+i*es) es (j-i):=by simp[saC,c]
attribute [go_sem] uf
attribute [go_sem] F5 Px I4 Rj IV
attribute [go_sem] Q8
theorem lens{α:Type}:(∀a b:List α,(a++b).length=a.length+b.length)∧(∀(x:α) (l:List α),(x::l).length=l.length+1)∧([]:List α).length=0∧(∀(l:List α) (n:Nat),(l.take n).length=min n l.length)∧∀(l:List α) (n:Nat),(l.drop n).length=l.length-n:=
 ⟨fun _ _=>List.length_append,fun _ _=>rfl,rfl,fun _ _=>List.length_take,fun _ _=>List.length_drop⟩
theorem cds:type_of% (An2 (An2 (An2 (An2 (An2 (An2 (@yl) (@uS)) (@uT)) (An2 (An2 (@oI) (@uQ)) (@He))) (An2 (An2 (An2 (@Ha) (@Int.toNat_natCast)) (@zW)) (An2 (@EH) (@EG)))) (An2 (An2 (An2 (An2 (@Fp) (@LY)) (@Fj)) (An2 (@Ff) (@uj))) (An2 (An2 (An2 (@Bv) (@Dh)) (@CZ)) (An2 (@CY) (@ae))))) (An2 (An2 (An2 (An2 (An2 (@Dy) (@xX)) (@JB)) (An2 (@QA) (@yK))) (An2 (An2 (An2 (@Dw) (@yT)) (@BJ)) (An2 (@BI) (@sZ)))) (An2 (An2 (An2 (An2 (@sW) (@FX)) (@Aa)) (An2 (@zZ) (@Au))) (An2 (An2 (An2 (@Aw) (@Az)) (@AA)) (An2 (@uf) (@QE)))))):=An2 (An2 (An2 (An2 (An2 (An2 (@yl) (@uS)) (@uT)) (An2 (An2 (@oI) (@uQ)) (@He))) (An2 (An2 (An2 (@Ha) (@Int.toNat_natCast)) (@zW)) (An2 (@EH) (@EG)))) (An2 (An2 (An2 (An2 (@Fp) (@LY)) (@Fj)) (An2 (@Ff) (@uj))) (An2 (An2 (An2 (@Bv) (@Dh)) (@CZ)) (An2 (@CY) (@ae))))) (An2 (An2 (An2 (An2 (An2 (@Dy) (@xX)) (@JB)) (An2 (@QA) (@yK))) (An2 (An2 (An2 (@Dw) (@yT)) (@BJ)) (An2 (@BI) (@sZ)))) (An2 (An2 (An2 (An2 (@sW) (@FX)) (@Aa)) (An2 (@zZ) (@Au))) (An2 (An2 (An2 (@Aw) (@Az)) (@AA)) (An2 (@uf) (@QE)))))
theorem Hl{zero:List V}{ρ:Opd→V}:AK.ev ρ (.allocW zero)=some (.cells zero false,fun b=>.ptr b 0):=(rfl)
def wC(o:Option AObj)(b:Nat):Option V:=match o with
 |some (.cells _ _)=>if isW b then some (.ptr b 0)else none
 |_=>none
def wE(v:V)(h:H):Option V:=match v with|.ptr b 0=>wC (h b) b|_=>none
theorem TI{ρ:Opd→V}{h:H}{x:Opd}:RK.ev ρ h (.uns x)=wE (ρ x) h:=by
 simp only[RK.ev];generalize ρ x=v;cases v<;>try rfl
theorem UO{b:Nat}{h:H}:wE (.ptr b 0) h=wC (h b) b:=rfl
theorem Eu{b:Nat}{cs:List V}{ro:Bool}(hW:isW b):wC (some (.cells cs ro)) b=some (.ptr b 0):=by simp[wC,hW]
def qsC(o:Option AObj)(s t:List UInt8):Option V:=match o with
 |some (.cells [.int .i64 m] _)=>if 2≤t.length∧(t.length:Int)≤m∧s.length<4294967281 then some (.int .i64 (cu t s))else none
 |_=>none
def qsE(x y:V)(o:Option AObj):Option V:=match x,y with|.str s,.str t=>qsC o s t|_,_=>none
theorem Jd{ρ:Opd→V}{h:H}{g:Nat}{x y:Opd}:RK.ev ρ h (.idxSub g x y)=qsE (ρ x) (ρ y) (h g):=by
 simp only[RK.ev,qsE,qsC];generalize ρ x=v;generalize ρ y=w;generalize h g=o;cases v<;>cases w<;>first|rfl|(split<;>first|rfl|(split<;>simp_all))
theorem Tz{s t:List UInt8}{o:Option AObj}:qsE (.str s) (.str t) o=qsC o s t:=rfl
theorem Jb{s t:List UInt8}{m:Int}{ro:Bool}(c:2≤t.length∧(t.length:Int)≤m∧s.length<4294967281):qsC (some (.cells [.int .i64 m] ro)) s t=some (.int .i64 (cu t s)):=by simp[qsC,c]
attribute [go_sem] UG Hl Ht TI UO Jd Tz
end
section
open Go
def occ(t s:List UInt8)(i:Nat):Prop:=(s.take (i+t.length)).drop i=t
instance (t s:List UInt8)(i:Nat):Decidable (occ t s i):=inferInstanceAs (Decidable (_=_))
theorem kD{t s:List UInt8}(h:∀i,i+t.length≤s.length→¬occ t s i):cu t s = -1:=by
 unfold cu;rw[List.find?_eq_none.2];intro i hi;rw[List.mem_range]at hi;simp only[beq_iff_eq];exact h i (by omega)
theorem oQ{t s:List UInt8}{i:Nat}(hi:i+t.length≤s.length)(h:occ t s i)(hn:∀j,j<i→¬occ t s j):cu t s=i:=by
 unfold cu;have:(List.range (s.length+1-t.length)).find? (fun i=>(s.take (i+t.length)).drop i==t)=some i:=by
  rw[List.find?_eq_some_iff_append];refine⟨by simpa[occ]using h,List.range i,(List.range (s.length+1-t.length-i-1)).map (·+(i+1)),?_,fun j hj=>?_⟩
  ·apply List.ext_getElem
   ·simp;omega
   ·intro k h1 h2;simp only[List.getElem_range];rcases Nat.lt_or_ge k i with c|c
    ·rw[List.getElem_append_left (by simpa using c)];simp
    ·rw[List.getElem_append_right (by simpa using c)];simp only[List.length_range];rcases Nat.eq_zero_or_pos (k-i)with c2|c2
     ·simp[c2];omega
     ·obtain⟨m,hm⟩:=Nat.exists_eq_succ_of_ne_zero (Nat.pos_iff_ne_zero.1 c2);simp only[hm,Nat.succ_eq_add_one,List.getElem_cons_succ,List.getElem_map,List.getElem_range];omega
  ·rw[List.mem_range]at hj;simpa[occ]using hn j hj
 rw[this]
theorem wM(t s:List UInt8):(cu t s = -1∧∀i,i+t.length≤s.length→¬occ t s i)∨∃i:Nat,cu t s=i∧i+t.length≤s.length∧occ t s i∧∀j,j<i→¬occ t s j:=by
 cases e:(List.range (s.length+1-t.length)).find? (fun i=>(s.take (i+t.length)).drop i==t)with
 |none =>
   refine .inl ⟨by simp[cu,e],fun i hi=>?_⟩;have:=List.find?_eq_none.1 e i (List.mem_range.2 (by omega));simpa[occ]using this
 |some i =>
   obtain⟨h1,as,bs,h2,h3⟩:=List.find?_eq_some_iff_append.1 e;have hi:i=as.length:=by
    have:(List.range (s.length+1-t.length))[as.length]?=some i:=by rw[h2];simp
    obtain⟨h4,h5⟩:=List.getElem?_eq_some_iff.1 this;simpa using h5.symm
   have hl:i<s.length+1-t.length:=by
    have:i∈List.range (s.length+1-t.length):=by rw[h2];simp
    exact List.mem_range.1 this
   refine .inr ⟨i,by simp[cu,e],by omega,by simpa[occ]using h1,fun j hj=>?_⟩;have:as[j]?=some j:=by
    have:(List.range (s.length+1-t.length))[j]?=some j:=by rw[List.getElem?_range (by omega)]
    rw[h2,List.getElem?_append_left (by omega)]at this;exact this
   have:=h3 j (List.mem_of_getElem? this);simpa[occ]using this
theorem xm{t s:List UInt8}(k i:Nat):occ t (s.drop k) i↔occ t s (k+i):=by
 unfold occ;rw[List.take_drop,List.drop_drop,show k+(i+t.length)=k+i+t.length from by omega]
theorem vw{t s:List UInt8}{i:Nat}(h:occ t s i)(k:Nat)(hk:k<t.length):s[i+k]?=t[k]?:=by
 conv=>rhs;rw[← h]
 rw[List.getElem?_drop,List.getElem?_take_of_lt (by omega)]
def rkP:Int:=16777619
def rkM:Int:=4294967296
def rkS(l:List UInt8):Int:=l.foldl (fun h c=>h*rkP+(c.toNat:Nat)) 0
theorem xP(l:List UInt8)(c:UInt8):rkS (l++[c])=rkS l*rkP+(c.toNat:Nat):=by simp[rkS]
theorem Qj(l:List UInt8):∀(a:Int),l.foldl (fun h c=>h*rkP+((c.toNat:Nat):Int)) a=a*rkP ^ l.length+rkS l:=by
 induction l with
 |nil=>intro a;simp[rkS]
 |cons c l ih =>
   intro a;have e1:=ih (a*rkP+((c.toNat:Nat):Int));have e3:rkS (c::l)=(0*rkP+((c.toNat:Nat):Int))*rkP ^ l.length+rkS l:=ih (0*rkP+((c.toNat:Nat):Int));rw[List.foldl_cons,e1,e3,List.length_cons,Int.pow_succ,Int.add_mul,Int.zero_mul,Int.zero_add,Int.mul_assoc,Int.mul_comm rkP,Int.add_assoc]
theorem NK(c:UInt8)(l:List UInt8):rkS (c::l)=(c.toNat:Nat)*rkP ^ l.length+rkS l:=by
 rw[rkS,List.foldl_cons,Qj];simp
theorem jw(n:Int):IntKind.u32.wrap n=n % rkM:=by
 simp only[IntKind.wrap,IntKind.bits,IntKind.signed,Bool.false_and,if_false,Bool.false_eq_true];rfl
theorem ML{h pow:Int}{c x:Int}{n:Nat}{w l:Int}(hh:h=w % rkM)(hp:pow=rkP ^ n % rkM)(hw:w=c*rkP ^ (n-1)+l)(hn:0<n):
  ((h*rkP % rkM+x) % rkM-pow*c % rkM) % rkM=(l*rkP+x) % rkM:=by
 have e:w*rkP=l*rkP+rkP ^ n*c:=by
  obtain⟨k,rfl⟩:=Nat.exists_eq_succ_of_ne_zero (Nat.pos_iff_ne_zero.1 hn);rw[hw,Nat.succ_eq_add_one,Nat.add_sub_cancel,Int.pow_succ,Int.add_mul,Int.mul_assoc c,Int.mul_comm c,Int.add_comm]
 have e2:pow*c=rkP ^ n*c-4294967296*(rkP ^ n / rkM*c):=by
  rw[hp,Int.emod_def,Int.sub_mul,Int.mul_assoc];rfl
 generalize rkP ^ n*c=A at *;generalize rkP ^ n / rkM*c=B at *;rw[e2,hh];simp only[rkP,rkM]at *;omega
def win(s:List UInt8)(n i:Nat):List UInt8:=(s.take i).drop (i-n)
theorem Oj{s:List UInt8}{n i:Nat}{x c:UInt8}(hn:0<n)(hi:n≤i)(hx:s[i]?=some x)(hc:s[i-n]?=some c):∃l,win s n i=c::l∧l.length=n-1∧win s n (i+1)=l++[x]:=by
 have hl:i<s.length:=(List.getElem?_eq_some_iff.1 hx).1;refine⟨(s.take i).drop (i-n+1),?_,?_,?_⟩
 ·unfold win;have h1:i-n<(s.take i).length:=by rw[List.length_take];omega
  rw[List.drop_eq_getElem_cons h1];congr 1;have:(s.take i)[i-n]?=some c:=by rw[List.getElem?_take_of_lt (by omega)];exact hc
  rw[List.getElem?_eq_getElem h1]at this;exact Option.some.inj this
 ·rw[List.length_drop,List.length_take];omega
 ·unfold win;rw[List.take_add_one,hx,show i+1-n=i-n+1 from by omega,List.drop_append_of_le_length (by rw[List.length_take];omega)];rfl
theorem GZ{t s:List UInt8}{i:Nat}(h:t.length≤i):occ t s (i-t.length)↔win s t.length i=t:=by
 unfold occ win;rw[show i-t.length+t.length=i from by omega]
theorem wL{t s:List UInt8}{p:Nat}(h:∀j,j<p+1→¬occ t s j):cu t (s.drop (p+1))=if cu t s = -1 then -1 else cu t s-((p:Nat)+1):=by
 rcases wM t s with⟨e,hn⟩|⟨i,e,hi,ho,hn⟩
 ·rw[e,if_pos rfl];refine kD fun j hj=>?_;rw[List.length_drop]at hj;rw[xm];rcases Nat.lt_or_ge s.length (p+1+j+t.length)with c|c
  ·intro ho;have:=congrArg List.length ho;rw[List.length_drop,List.length_take]at this;have h0:t.length=0:=by omega
   have:t=[]:=List.length_eq_zero_iff.1 h0;subst this;exact hn 0 (by simp) (by unfold occ;simp)
  ·exact hn _ (by omega)
 ·rw[e,if_neg (by omega)];have hip:p+1≤i:=by
   rcases Nat.lt_or_ge i (p+1)with c|c
   ·exact absurd ho (h i c)
   ·exact c
  rw[oQ (i:=i-(p+1)) (by rw[List.length_drop];omega) (by rw[xm,show p+1+(i-(p+1))=i from by omega];exact ho) (fun j hj=>by rw[xm];exact hn _ (by omega))];omega
theorem uB{t s:List UInt8}{p:Nat}(h:∀j,j<p+1→¬occ t s j)(hn:cu t s ≠ -1):((p:Nat):Int)+1≤cu t s∧cu t s≤s.length:=by
 rcases wM t s with⟨e,_⟩|⟨i,e,hi,ho,_⟩
 ·exact absurd e hn
 ·rcases Nat.lt_or_ge i (p+1)with c|c
  ·exact absurd ho (h i c)
  ·omega
end
section
structure Tokn where
 k:Nat
 t:Txt
 a:Nat
 deriving DecidableEq
def aU(c:UInt8):Bool:=decide (48≤c.toNat)&&decide (c.toNat≤57)
def isLet(c:UInt8):Bool:=(decide (97≤c.toNat)&&decide (c.toNat≤122))||(decide (65≤c.toNat)&&decide (c.toNat≤90))||decide (c.toNat=95)
def aV(c:UInt8):Bool:=isLet c||aU c
def mg(c:UInt8):Bool:=decide (c.toNat≠10)
def pk(s:Txt)(i:Nat):UInt8:=s.getD i 0
def past(p:UInt8→Bool)(s:Txt)(i:Nat):Nat:=i+((s.drop i).takeWhile p).length
def kw(s:Txt)(i j:Nat):Txt:=(s.take j).drop i
def oC(T:List Tokn):Bool:=match T.getLast? with
 |none=>true
 |some t=>if t.k=2∨t.k=3∨t.k=4∨t.k=5 then false else if t.k=9 then decide (t.t≠[108,101,110,103,116,104])else if t.k=8 then decide (t.t∉[[41],[93],[43,43],[45,45]])else true
def jg(c:UInt8):Option Txt:=if c=110 then some [10]else if c=116 then some [9]else if c=34∨c=92∨c=47 then some [c]else none
def tH(c:UInt8):Option Txt:=if c=47 then some [47]else if c=10 then none else some [92,c]
def dD(s:Txt)(e:UInt8)(how:UInt8→Option Txt)(at0:Nat):Nat→Nat→Txt→Nat ⊕ (Txt × Nat)
 |0,_,_=>.inl at0
 |k+1,i,acc =>
   if s.length≤i∨pk s i=10 then .inl at0
   else if pk s i=e then .inr (acc,i+1)
   else if pk s i=92 then match how (pk s (i+1))with
    |none=>.inl i
    |some t=>if s.length≤i+1 then .inl i else dD s e how at0 k (i+2) (acc++t)
   else dD s e how at0 k (i+1) (acc++[pk s i])
def ones:Txt:=[123,125,40,41,91,93,59,44,43,45,42,47,37,33,62,60,124,63,58,126,36,61]
def sJ:Txt:=[32,43,61,32,45,61,32,42,61,32,47,61,32,37,61,32,61,61,32,60,61,32,62,61,32,33,61,32,43,43,32,45,45,32,38,38,32,124,124,32,62,62,32,33,126,32]
def DD(t:Txt):Bool:=decide (0≤cu ([32]++t++[32]) sJ)
def mD(s:Txt)(i:Nat):Option Txt:=
 let two:=kw s i (min (i+2) s.length)
 if two.length=2∧DD two=true then some two else if pk s i∈ones then some (two.take 1)else none
def iK(s:Txt)(i:Nat):Nat:=if pk s (past aU s i)=46 then past aU s (past aU s i+1)else past aU s i
def Oo(ws bs ns:List Txt)(w:Txt)(c:UInt8):Nat:=if w∈ws then 7 else if w∈bs then 9 else if w∈ns then 10 else if c=40 then 6 else 5
def fM(ws bs ns:List Txt)(s:Txt)(i:Nat)(T:List Tokn):Nat ⊕ (Nat × List Tokn):=
 let c:=pk s i
 if c=32∨c=9∨c=13 then .inr (i+1,T)
 else if c=35 then .inr (past mg s i,T)
 else if c=92∧pk s (i+1)=10 then .inr (i+2,T)
 else if c=10 then .inr (i+1,T++[⟨1,[],i⟩])
 else if aU c=true∨c=46∧aU (pk s (i+1))=true then .inr (iK s i,T++[⟨2,kw s i (iK s i),i⟩])
 else if isLet c=true then
  let j:=past aV s i
  .inr (j,T++[⟨Oo ws bs ns (kw s i j) (pk s j),kw s i j,i⟩])
 else if c=34 then match dD s 34 jg i s.length (i+1) []with
  |.inl j=>.inl j
  |.inr (t,j)=>.inr (j,T++[⟨3,t,i⟩])
 else if c=47∧oC T=true then match dD s 47 tH i s.length (i+1) []with
  |.inl j=>.inl j
  |.inr (t,j)=>.inr (j,T++[⟨4,t,i⟩])
 else match mD s i with
  |none=>.inl i
  |some t=>.inr (i+t.length,T++[⟨8,t,i⟩])
def kK(ws bs ns:List Txt)(s:Txt):Nat→Nat→List Tokn→Nat ⊕ List Tokn
 |0,i,_=>.inl i
 | k+1,i,T=>if s.length≤i then .inr (T++[⟨0,[],i⟩])else match fM ws bs ns s i T with
   |.inl j=>.inl j
   |.inr (i',T')=>kK ws bs ns s k i' T'
theorem iP(p:UInt8→Bool){s:Txt}{i:Nat}(h:i≤s.length):past p s i≤s.length:=by
 have:=(List.takeWhile_sublist p (l:=s.drop i)).length_le;rw[List.length_drop]at this;unfold past;omega
theorem jv(p:UInt8→Bool)(s:Txt)(i:Nat):i≤past p s i:=by unfold past;omega
theorem kR{p:UInt8→Bool}{s:Txt}{i:Nat}(h:i<s.length)(hp:p (pk s i)=true):past p s i=past p s (i+1):=by
 unfold past;have e:s.drop i=s[i]::s.drop (i+1):=(List.drop_eq_getElem_cons h);have:pk s i=s[i]:=by simp[pk,List.getD,h]
 rw[e,List.takeWhile_cons_of_pos (by rw[← this];exact hp),List.length_cons];omega
theorem xB{p:UInt8→Bool}{s:Txt}{i:Nat}(h:i<s.length→p (pk s i)=false):past p s i=i:=by
 unfold past
 by_cases hi:i<s.length
 ·have e:s.drop i=s[i]::s.drop (i+1):=(List.drop_eq_getElem_cons hi);have:pk s i=s[i]:=by simp[pk,List.getD,hi]
  rw[e,List.takeWhile_cons_of_neg (by rw[← this,h hi];decide)];rfl
 ·rw[List.drop_eq_nil_of_le (by omega)];rfl
end
section
structure RS where
 i:Nat
 deep:Nat
 err:Nat
 bad:Nat
def RS.next(s:Txt)(r:RS):Option UInt8:=if r.err≠0∨s.length≤r.i then none else some (pk s r.i)
def RS.fail(r:RS)(a e:Nat):RS:=if r.err=0 then {r with err:=e,bad:=a} else r
def RS.step(r:RS):RS:={r with i:=r.i+1}
def Ar(c:UInt8):Bool:=aU c||(decide (97≤c.toNat)&&decide (c.toNat≤122))||(decide (65≤c.toNat)&&decide (c.toNat≤90))||decide (c.toNat<32)||decide (126<c.toNat)
def jm(s:Txt)(r:RS):UInt8 × RS:=match r.next s with
 |none=>(0,r.step.fail (r.i-1) 9)
 |some c=>if c=110 then(10,r.step)else if c=116 then(9,r.step)else if Ar c=true then(c,r.step.fail (r.i-1) 9)else(c,r.step)
def yH(s:Txt)(a:Nat):Nat→Bool→RS→Option RS
 |0,_,_=>none
 | k+1,first,r=>match r.next s with
   |none=>some (r.fail a 9)
   |some c =>
     if c=93∧first=false then some r.step
     else
      let x:=if c=92 then jm s r.step else(c,r.step)
      let r1:=x.2
      if r1.i+1<s.length∧pk s r1.i=45∧pk s (r1.i+1)≠93∧r1.err=0 then
       let r2:RS:={r1 with i:=r1.i+2}
       let y:=if pk s (r1.i+1)=92 then jm s r2 else(pk s (r1.i+1),r2)
       yH s a k false (if y.1.toNat<x.1.toNat then y.2.fail a 9 else y.2)
      else yH s a k false r1
def uN(s:Txt):Nat→RS→Option RS
 |0,_=>none
 | k+1,r=>match r.next s with
   |none=>some r
   |some c=>if c=42∨c=43∨c=63 then uN s k r.step else some r
mutual
def Ey(s:Txt):Nat→RS→Option RS
 |0,_=>none
 |k+1,r=>(Ag s k r).bind fun r1=>Hq s k r1
def Hq(s:Txt):Nat→RS→Option RS
 |0,_=>none
 |k+1,r=>if r.next s=some 124 then(Ag s k r.step).bind fun r1=>Hq s k r1 else some r
def Ag(s:Txt):Nat→RS→Option RS
 |0,_=>none
 | k+1,r=>match r.next s with
   |none=>some r
   |some c =>
     if c=124∨c=41∧0<r.deep then some r
     else if c=41 then some (r.fail r.i 9)
     else(BZ s k r).bind fun r1=>(uN s k r1).bind fun r2=>Ag s k r2
def BZ(s:Txt):Nat→RS→Option RS
 |0,_=>none
 | k+1,r=>match r.next s with
   |none=>some r.step
   |some c =>
     if c=40 then
      let r1:RS:={r.step with deep:=r.deep+1}
      (Ey s k (if 20<r1.deep then r1.fail r.i 14 else r1)).bind fun r2 =>
       let r3:=if r2.next s=some 41 then r2 else r2.fail r.i 9
       some {r3 with i:=r3.i+1,deep:=r3.deep-1}
     else if c=91 then
      let r1:=r.step
      yH s r.i k true (if r1.next s=some 94 then r1.step else r1)
     else if c=46∨c=94∨c=36 then some r.step
     else if c=42∨c=43∨c=63 then some (r.step.fail r.i 9)
     else if c=92 then some (jm s r.step).2
     else some r.step
end
def TC(s:Txt)(k:Nat):Option (Nat × Nat):=if 300<s.length then some (0,12)else(Ey s k ⟨0,0,0,0⟩).map fun r=>if r.err≠0 then(r.bad,r.err)else(0,0)
end
section
inductive Tree where
 |nd (op text:Txt) (a:Nat) (kids:List Tree)
def Tree.op:Tree→Txt|.nd o _ _ _=>o
def Tree.text:Tree→Txt|.nd _ t _ _=>t
def Tree.at':Tree→Nat|.nd _ _ a _=>a
def Tree.kids:Tree→List Tree|.nd _ _ _ l=>l
def Tree.zero:Tree:=.nd [] [] 0 []
def nodeM(op:Txt)(kids:List Tree):Tree:=.nd op [] 0 kids
def aN(op:Txt)(t:Tokn)(kids:List Tree):Tree:=.nd op t.t t.a kids
def Tree.withOp(o:Txt):Tree→Tree|.nd _ t a l=>.nd o t a l
def Tree.isPlace(n:Tree):Bool:=decide (n.op=[118,97,114]∨n.op=[105,110,100,101,120]∨n.op=[102,105,101,108,100])
structure PS where
 i:Nat
 deep:Nat
 flat:Bool
 err:Nat
 bad:Nat
def tkz:Tokn:=⟨0,[],0⟩
section
variable(T:List Tokn)
def PS.cur(s:PS):Tokn:=if s.err≠0 then tkz else T.getD s.i tkz
def PS.ahead(s:PS)(n:Nat):Tokn:=if s.err≠0∨T.length≤s.i+n then tkz else T.getD (s.i+n) tkz
def PS.fail(s:PS):PS:=
 if s.err≠0 then s
 else if(s.cur T).k=10∨(s.cur T).k=8∧(s.cur T).t=[124]then {s with err:=10,bad:=(s.cur T).a}
 else {s with err:=9,bad:=(s.cur T).a}
def PS.isAt(s:PS)(l:List Txt):Bool:=(decide ((s.cur T).k=8)||decide ((s.cur T).k=7))&&decide ((s.cur T).t∈l)
def PS.step(s:PS):PS:=if s.err=0∧s.i+1<T.length then {s with i:=s.i+1} else s
def PS.expect(s:PS)(x:Txt):PS:=if s.isAt T [x]=true then s.step T else s.fail T
def linesN:Nat→PS→PS
 |0,s=>s
 |k+1,s=>if(s.cur T).k=1 then linesN k (s.step T)else s
def PS.lines(s:PS):PS:=linesN T T.length s
def PS.down(s:PS):PS:=if 50<s.deep+1∧s.err=0 then {s with deep:=s.deep+1,err:=14,bad:=(s.cur T).a} else {s with deep:=s.deep+1}
def PS.up(s:PS):PS:={s with deep:=s.deep-1}
def PS.name(s:PS)(ks:List Nat):Tokn × PS:=if(s.cur T).k∈ks then(s.cur T,s.step T)else(tkz,s.fail T)
abbrev PF:=PS→Tree × PS
def listN(E:PF)(e:Txt):Nat→List Tree→PS→List Tree × PS
 |0,out,s=>(out,s)
 |k+1,out,s =>
   if s.err=0∧s.isAt T [e]=false then
    let x:=E (if out=[]then s else(s.expect T [44]).lines T)
    listN E e k (out++[x.1]) (x.2.lines T)
   else(out,s)
def listM(E:PF)(e:Txt)(s:PS):List Tree × PS:=
 let x:=listN T E e (T.length+1) [] (PS.lines T {s with flat:=false})
 (x.1,{x.2.expect T e with flat:=s.flat})
def insideM(E:PF)(e:Txt)(s:PS):Tree × PS:=
 let x:=E (PS.lines T {s with flat:=false})
 (x.1,{(x.2.lines T).expect T e with flat:=s.flat})
def PS.wrong(a:Nat)(s:PS)(is:Prop)[Decidable is](e:Nat):PS:=if is∧s.err=0 then {s with err:=e,bad:=a} else s
def biPost(t:Tokn)(l:List Tree)(s:PS):List Tree × PS:=
 let n:=l.length
 let w:=PS.wrong t.a s
 if t.t=[108,101,110,103,116,104]then(l,w (1<n) 9)
 else if t.t=[115,117,98,115,116,114]then(l,w (n<2∨3<n) 9)
 else if t.t=[115,112,108,105,116]then
  let s2:=w (n<2∨3<n∨(l.getD 1 .zero).op≠[118,97,114]) 9
  (if s2.err=0 then l.set 1 ((l.getD 1 .zero).withOp [110,97,109,101])else l,s2)
 else if t.t=[115,117,98]∨t.t=[103,115,117,98]then
  (if n=2 then l++[nodeM [102,105,101,108,100] [.nd [110,117,109] [48] t.a []]]else l,w (n<2∨3<n∨n=3∧(l.getD 2 .zero).isPlace=false) 9)
 else if t.t=[105,110,100,101,120]∨t.t=[109,97,116,99,104]then(l,w (n≠2) 9)
 else if t.t=[115,112,114,105,110,116,102]then(l,w (n<1) 9)
 else if t.t=[114,97,110,100]then(l,w (n≠0) 9)
 else if t.t=[115,114,97,110,100]then(l,(w (n=0) 10).wrong t.a (n≠1) 9)
 else(l,w (n≠1) 9)
def builtinM(E:PF)(s:PS):Tree × PS:=
 if(s.cur T).t=[108,101,110,103,116,104]∧(s.step T).isAt T [[40]]=false then(aN [98,117,105,108,116,105,110] (s.cur T) [],s.step T)
 else
  let x:=listM T E [41] ((s.step T).expect T [40])
  let y:=biPost (s.cur T) x.1 x.2
  (aN [98,117,105,108,116,105,110] (s.cur T) y.1,y.2)
def uK(t:Txt):Nat:=((TC t (4*t.length+10)).getD (0,0)).2
def primM(E P R:PF)(s:PS):Tree × PS:=
 let t:=s.cur T
 if t.k=2 then(aN [110,117,109] t [],s.step T)
 else if t.k=3 then(aN [115,116,114] t [],s.step T)
 else if t.k=4 then(aN [114,101] t [],(if uK t.t≠0 then s.fail T else s).step T)
 else if t.k=5 then
  let s1:=s.step T
  if s1.isAt T [[91]]=true then let x:=insideM T E [93] (s1.step T);(aN [105,110,100,101,120] t [x.1],x.2)else(aN [118,97,114] t [],s1)
 else if t.k=6 then let x:=listM T E [41] ((s.step T).expect T [40]);(aN [99,97,108,108] t x.1,x.2)
 else if t.k=9 then builtinM T E s
 else if s.isAt T [[40]]=true then insideM T E [41] (s.step T)
 else if s.isAt T [[36]]=true then
  let s1:=(s.step T).down T
  let x:=if s1.isAt T [[43,43],[45,45]]=true then P s1 else R s1
  (nodeM [102,105,101,108,100] [x.1],x.2.up)
 else(.zero,s.fail T)
def postM(R:PF)(s:PS):Tree × PS:=
 if s.isAt T [[43,43]]=true then let x:=R (s.step T);if x.1.isPlace=true then(nodeM [112,114,101,105,110,99] [x.1],x.2)else(.zero,x.2.fail T)
 else if s.isAt T [[45,45]]=true then let x:=R (s.step T);if x.1.isPlace=true then(nodeM [112,114,101,100,101,99] [x.1],x.2)else(.zero,x.2.fail T)
 else
  let x:=R s
  if x.1.isPlace=false then x
  else if x.2.isAt T [[43,43]]=true then(nodeM [112,111,115,116,105,110,99] [x.1],x.2.step T)
  else if x.2.isAt T [[45,45]]=true then(nodeM [112,111,115,116,100,101,99] [x.1],x.2.step T)
  else x
def unaryM(U P:PF)(s:PS):Tree × PS:=
 if s.isAt T [[33]]=true then let x:=U ((s.step T).down T);(nodeM [110,111,116] [x.1],x.2.up)
 else if s.isAt T [[45]]=true then let x:=U ((s.step T).down T);(nodeM [110,101,103] [x.1],x.2.up)
 else if s.isAt T [[43]]=true then let x:=U ((s.step T).down T);(nodeM [112,108,117,115] [x.1],x.2.up)
 else P s
def chainN(N:PF)(ln:Bool)(ops:List (Txt × Txt)):Nat→Tree→PS→Tree × PS
 |0,n,s=>(n,s)
 |k+1,n,s =>
   if(s.cur T).k=8 then match ops.lookup (s.cur T).t with
    |none=>(n,s)
    |some op =>
      let x:=N (if ln then(s.step T).lines T else s.step T)
      chainN N ln ops k (nodeM op [n,x.1]) x.2
   else(n,s)
def dO(N:PF)(ln:Bool)(ops:List (Txt × Txt))(s:PS):Tree × PS:=let x:=N s;chainN T N ln ops (T.length+1) x.1 x.2
def rX(U:PF):PF:=dO T U false [([42],[109,117,108]),([47],[100,105,118]),([37],[109,111,100])]
def gI(U:PF):PF:=dO T (rX T U) false [([43],[97,100,100]),([45],[115,117,98])]
def catN(A:PF):Nat→Tree→PS→Tree × PS
 |0,n,s=>(n,s)
 |k+1,n,s =>
   if(s.cur T).k∈[2,3,5,6,9]∨s.isAt T [[36],[40]]=true then let x:=A s;catN A k (nodeM [99,97,116] [n,x.1]) x.2
   else(n,s)
def aX(U:PF):PF:=fun s=>let x:=gI T U s;catN T (gI T U) (T.length+1) x.1 x.2
def relOps:List (Txt × Txt):=[([60],[108,101,115,115]),([60,61],[108,101,115,115,101,113]),([61,61],[101,113,117,97,108]),([33,61],[110,111,116,101,113,117,97,108]),([62],[103,114,101,97,116,101,114]),([62,61],[103,114,101,97,116,101,114,101,113])]
def uY(U:PF):PF:=fun s =>
 let x:=aX T U s
 let t:=x.2.cur T
 if t.k=8∧¬(t.t=[62]∧x.2.flat=true)then match relOps.lookup t.t with
  |none=>x
  |some op=>let y:=aX T U (x.2.step T);(nodeM op [x.1,y.1],y.2)
 else x
def fB(U:PF):PF:=dO T (uY T U) false [([126],[109,97,116,99,104]),([33,126],[110,111,109,97,116,99,104])]
def inN:Nat→Tree→PS→Tree × PS
 |0,n,s=>(n,s)
 |k+1,n,s=>if s.isAt T [[105,110]]=true then let x:=(s.step T).name T [5];inN k (aN [105,110] x.1 [n]) x.2 else(n,s)
def inM(U:PF):PF:=fun s=>let x:=fB T U s;inN T (T.length+1) x.1 x.2
def andM(U:PF):PF:=dO T (inM T U) true [([38,38],[97,110,100])]
def orM(U:PF):PF:=dO T (andM T U) true [([124,124],[111,114])]
def assignOps:List Txt:=[[61],[43,61],[45,61],[42,61],[47,61],[37,61]]
def ny(E U:PF)(s:PS):Tree × PS:=
 let x:=orM T U (s.down T)
 if x.2.isAt T [[63]]=true then
  let a:=E ((x.2.step T).lines T)
  let b:=E ((((a.2.lines T).expect T [58])).lines T)
  (nodeM [99,111,110,100] [x.1,a.1,b.1],b.2.up)
 else if x.1.isPlace=true∧(x.2.cur T).k=8∧(x.2.cur T).t∈assignOps then
  let a:=E ((x.2.step T).lines T)
  (.nd [97,115,115,105,103,110] (x.2.cur T).t 0 [x.1,a.1],a.2.up)
 else(x.1,x.2.up)
structure Lev where
 expr:PF
 unary:PF
 post:PF
 prim:PF
def lev:Nat→Lev
 |0=>⟨fun s=>(.zero,s),fun s=>(.zero,s),fun s=>(.zero,s),fun s=>(.zero,s)⟩
 |n+1 =>
   let L:=lev n
   let E:=ny T L.expr L.unary
   let R:=primM T E L.post L.prim
   let P:=postM T R
   ⟨E,unaryM T L.unary P,P,R⟩
def PS.over(s:PS):Bool:=s.isAt T [[59],[125],[41]]||decide ((s.cur T).k=1)||decide ((s.cur T).k=0)
def lG:Nat→Nat→Int→Bool
 |0,_,_=>false
 |k+1,i,d =>
   if T.length≤i then false
   else
    let t:=T.getD i tkz
    let d1:=if t.k=8∧t.t=[40]then d+1 else if t.k=8∧t.t=[41]then d-1 else d
    if d1=0 then
     let x:=T.getD (min (i+1) (T.length-1)) tkz
     decide (x.k=0)||decide (x.k=1)||decide (x.k=8)&&decide (0≤cu ([32]++x.t++[32]) [32,59,32,125,32,62,32,62,62,32])
    else lG k (i+1) d1
def PS.listed(s:PS):Bool:=s.isAt T [[40]]&&lG T (T.length+1) s.i 0
def outN(E:PF):Nat→List Tree→PS→List Tree × PS
 |0,out,s=>(out,s)
 |k+1,out,s =>
   if s.err=0∧s.over T=false∧s.isAt T [[62],[62,62]]=false then
    let x:=E (if out=[]then s else(s.expect T [44]).lines T)
    outN E k (out++[x.1]) x.2
   else(out,s)
def outputM(E U:PF)(op:Txt)(s:PS):Tree × PS:=
 let s0:PS:={s with flat:=true}
 let x:=if s0.listed T=true then listM T E [41] (s0.step T)else outN T E (T.length+1) [] s0
 let y:=if x.2.isAt T [[62]]=true then(let c:=aX T U (x.2.step T);(nodeM [116,111] [c.1],c.2))
  else if x.2.isAt T [[62,62]]=true then(let c:=aX T U (x.2.step T);(nodeM [97,112,112,101,110,100] [c.1],c.2))
  else(nodeM [110,111,110,101] [],x.2)
 let s1:PS:={y.2 with flat:=false}
 (nodeM op (y.1::x.1),if op=[112,114,105,110,116,102]∧x.1=[]then s1.fail T else s1)
def simpleM(E U:PF)(s:PS):Tree × PS:=
 let t:=s.cur T
 if t.k≠7 then let x:=E s;(nodeM [101,120,112,114] [x.1],x.2)
 else if t.t=[98,114,101,97,107]∨t.t=[99,111,110,116,105,110,117,101]∨t.t=[110,101,120,116]then(.nd t.t [] t.a [],s.step T)
 else if t.t=[101,120,105,116]∨t.t=[114,101,116,117,114,110]then
  let s1:=s.step T
  if s1.over T=true then(.nd t.t [] t.a [],s1)else let x:=E s1;(.nd t.t [] t.a [x.1],x.2)
 else if t.t=[100,101,108,101,116,101]then
  let x:=(s.step T).name T [5]
  if x.2.isAt T [[91]]=true then let y:=insideM T E [93] (x.2.step T);(nodeM [100,101,108,101,116,101] [aN [105,110,100,101,120] x.1 [y.1]],y.2)
  else(nodeM [100,101,108,101,116,101] [aN [110,97,109,101] x.1 []],x.2)
 else if t.t=[112,114,105,110,116]∨t.t=[112,114,105,110,116,102]then outputM T E U t.t (s.step T)
 else(.zero,s.fail T)
def PS.fin(s:PS):PS:=
 if s.isAt T [[59]]=true then s.step T else if s.isAt T [[125]]=true then s else if(s.cur T).k=1 then s.step T else s.fail T
def bodyM(S:PF):PF:=fun s=>S (s.lines T)
def choiceM(E S:PF)(s:PS):Tree × PS:=
 let x:=insideM T E [41] (s.expect T [40])
 let y:=bodyM T S x.2
 let s1:=y.2.lines T
 let s2:=if s1.isAt T [[59]]=true then(s1.step T).lines T else s1
 if s2.isAt T [[101,108,115,101]]=true then let z:=bodyM T S (s2.step T);(nodeM [105,102] [x.1,y.1,z.1],z.2)
 else(nodeM [105,102] [x.1,y.1],if s2.err=0 then {s2 with i:=y.2.i} else s2)
def loopM(E U S:PF)(s:PS):Tree × PS:=
 let s1:=s.expect T [40]
 if(s1.cur T).k=5∧(s1.ahead T 1).k=7∧(s1.ahead T 1).t=[105,110]∧(s1.ahead T 2).k=5∧(s1.ahead T 3).k=8∧(s1.ahead T 3).t=[41]then
  let x:=s1.name T [5]
  let y:=(x.2.step T).name T [5]
  let z:=bodyM T S (y.2.step T)
  (aN [102,111,114,105,110] x.1 [aN [110,97,109,101] y.1 [],z.1],z.2)
 else
  let a:=if s1.isAt T [[59]]=true then(nodeM [110,111,110,101] [],s1)else simpleM T E U s1
  let s2:=(a.2.expect T [59]).lines T
  let b:=if s2.isAt T [[59]]=true then(nodeM [110,111,110,101] [],s2)else E s2
  let s3:=(b.2.expect T [59]).lines T
  let c:=if s3.isAt T [[41]]=true then(nodeM [110,111,110,101] [],s3)else simpleM T E U s3
  let z:=bodyM T S (c.2.expect T [41])
  (nodeM [102,111,114] [a.1,b.1,c.1,z.1],z.2)
def skipN:Nat→PS→PS
 |0,s=>s
 |k+1,s=>if s.isAt T [[59]]=true∨(s.cur T).k=1 then skipN k (s.step T)else s
def PS.skip(s:PS):PS:=skipN T T.length s
def blockN(S:PF):Nat→List Tree→PS→List Tree × PS
 |0,l,s=>(l,s)
 |k+1,l,s =>
   if s.err=0 then
    let s1:=s.skip T
    if s1.isAt T [[125]]=true then(l,s1.step T)else let x:=S s1;blockN S k (l++[x.1]) x.2
   else(l,s)
def blockM(S:PF)(s:PS):Tree × PS:=let x:=blockN T S (T.length+1) [] (s.expect T [123]);(nodeM [98,108,111,99,107] x.1,x.2)
def stmtM(E U S:PF)(s0:PS):Tree × PS:=
 let s:=s0.down T
 let x:=if s.isAt T [[123]]=true then blockM T S s
  else if s.isAt T [[59]]=true then(nodeM [101,109,112,116,121] [],s.step T)
  else if s.isAt T [[105,102]]=true then choiceM T E S (s.step T)
  else if s.isAt T [[119,104,105,108,101]]=true then
   let c:=insideM T E [41] ((s.step T).expect T [40])
   let b:=bodyM T S c.2
   (nodeM [119,104,105,108,101] [c.1,b.1],b.2)
  else if s.isAt T [[102,111,114]]=true then loopM T E U S (s.step T)
  else let y:=simpleM T E U s;(y.1,y.2.fin T)
 (x.1,x.2.up)
def stL:Nat→PF
 |0=>fun s=>(nodeM [101,120,112,114] [.zero],s)
 |n+1=>stmtM T (lev T n).expr (lev T n).unary (stL n)
def parN:Nat→List Tree→PS→List Tree × PS
 |0,l,s=>(l,s)
 |k+1,l,s =>
   if s.err=0∧s.isAt T [[41]]=false then
    let x:=PS.name T (if l=[]then s else(s.expect T [44]).lines T) [5]
    parN k (l++[aN [112,97,114,97,109] x.1 []]) (x.2.lines T)
   else(l,s)
def itemM(s:PS):Tree × PS:=
 let B:=blockM T (stL T 51)
 if s.isAt T [[66,69,71,73,78]]=true then let x:=B (s.step T);(nodeM [98,101,103,105,110] [x.1],x.2)
 else if s.isAt T [[69,78,68]]=true then let x:=B (s.step T);(nodeM [101,110,100] [x.1],x.2)
 else if s.isAt T [[102,117,110,99,116,105,111,110]]=true then
  let x:=(s.step T).name T [5,6]
  let y:=parN T (T.length+1) [] ((x.2.expect T [40]).lines T)
  let z:=B ((y.2.expect T [41]).lines T)
  (aN [102,117,110,99] x.1 (y.1++[z.1]),z.2)
 else if s.isAt T [[123]]=true then let x:=B s;(nodeM [114,117,108,101] [nodeM [97,108,119,97,121,115] [],x.1],x.2)
 else
  let x:=(lev T 51).expr s
  if x.2.isAt T [[123]]=true then let y:=B x.2;(nodeM [114,117,108,101] [x.1,y.1],y.2)
  else(nodeM [114,117,108,101] [x.1,nodeM [100,101,102,97,117,108,116] []],if(x.2.cur T).k≠1∧(x.2.cur T).k≠0∧x.2.isAt T [[59]]=false then x.2.fail T else x.2)
def itemsN:Nat→List Tree→PS→List Tree × PS
 |0,l,s=>(l,s)
 |k+1,l,s =>
   if s.err=0 then
    let s1:=s.skip T
    if(s1.cur T).k=0 then(l,s1)else let x:=itemM T s1;itemsN k (l++[x.1]) x.2
   else(l,s)
end
def nY(T:List Tokn):Tree ⊕ (Nat × Nat):=
 let x:=itemsN T (T.length+1) [] ⟨0,0,false,0,0⟩
 if x.2.err≠0 then .inr (x.2.bad,x.2.err)else .inl (nodeM [112,114,111,103,114,97,109] x.1)
end
section
structure RFn where
 name:Txt
 ps:List Txt
 body:Tree
instance:Inhabited RFn:=⟨⟨[],[],.zero⟩⟩
def Tf(t:Tree):List Txt:=t.kids.dropLast.map Tree.text
def fnOf(t:Tree):RFn:=⟨t.text,Tf t,t.kids.getLastD .zero⟩
def ai(l:List Tree):List RFn:=(l.filter fun t=>decide (t.op=[102,117,110,99])).map fnOf
def eH(F:List RFn)(x:Txt):Option Nat:=F.findIdx? fun f=>f.name==x
def bD(F:List RFn)(k:Nat):List Txt:=(F.getD k default).ps
abbrev Sym:=Option Nat × Txt
def symOf(F:List RFn)(fn:Option Nat)(x:Txt):Sym:=match fn with
 |some k=>if x∈bD F k then(some k,x)else(none,x)
 |none=>(none,x)
def fnI(F:List RFn)(t:Tree):Option Nat:=if t.op=[102,117,110,99]then eH F t.text else none
def arrOp(o:Txt):Prop:=o=[105,110,100,101,120]∨o=[105,110]∨o=[110,97,109,101]
instance (o:Txt):Decidable (arrOp o):=inferInstanceAs (Decidable (_∨_))
mutual
def nodes:Tree→List Tree
 |.nd o t a l=>.nd o t a l::bP l
def bP:List Tree→List Tree
 |[]=>[]
 |k::l=>nodes k++bP l
end
def Link(F:List RFn)(items:List Tree)(p s:Sym):Prop:=
 ∃i∈items,∃n∈nodes i,n.op=[99,97,108,108]∧∃k,eH F n.text=some k∧∃j,j<n.kids.length∧j<(bD F k).length∧(n.kids.getD j .zero).op=[118,97,114] ∧
   p=(some k,(bD F k).getD j [])∧s=symOf F (fnI F i) (n.kids.getD j .zero).text
inductive ArrS(F:List RFn)(items:List Tree):Sym→Prop
 |used {i n:Tree}:i∈items→n∈nodes i→arrOp n.op→ArrS F items (symOf F (fnI F i) n.text)
 |into {p s:Sym}:Link F items p s→ArrS F items s→ArrS F items p
 |out {p s:Sym}:Link F items p s→ArrS F items p→ArrS F items s
structure RSt where
 order:List Txt
 bad:Nat
 err:Nat
def RSt.fail(r:RSt)(a e:Nat):RSt:=if r.err=0 then {r with err:=e,bad:=a} else r
def special:List Txt:=[[78,82],[78,70],[70,83],[79,70,83],[79,82,83],[70,73,76,69,78,65,77,69],[82,83,84,65,82,84],[82,76,69,78,71,84,72]]
def iE(F:List RFn)(A:Sym→Bool)(fn:Option Nat)(t:Txt)(a:Nat)(arr:Bool)(r:RSt):RSt:=
 if(eH F t).isSome then r.fail a 11
 else
  let s:=symOf F fn t
  let r1:=if A s≠arr∨arr=true∧s.1=none∧t∈special then r.fail a 11 else r
  if s.1=none∧t∉r1.order then {r1 with order:=r1.order++[t]} else r1
structure Pl where
 loop:Bool
 fn:Bool
 rule:Bool
mutual
def dK(F:List RFn)(A:Sym→Bool)(fn:Option Nat):Tree→Pl→RSt→RSt
 |.nd o t a l,p,r =>
   if r.err≠0 then r
   else if o=[118,97,114]then dH F A fn l p (iE F A fn t a false r)
   else if arrOp o then dH F A fn l p (iE F A fn t a true r)
   else if o=[102,111,114,105,110]then dH F A fn l {p with loop:=true} (iE F A fn t a false r)
   else if o=[119,104,105,108,101]∨o=[102,111,114]then dH F A fn l {p with loop:=true} r
   else if o=[99,97,108,108]then
    match eH F t with
    |none=>r.fail a 11
    |some k=>if(bD F k).length<l.length then r.fail a 11 else gq F A fn k a (bD F k) l p r
   else if o=[98,114,101,97,107]∨o=[99,111,110,116,105,110,117,101]then dH F A fn l p (if p.loop=true then r else r.fail a 9)
   else if o=[114,101,116,117,114,110]then dH F A fn l p (if p.fn=true then r else r.fail a 9)
   else if o=[110,101,120,116]then dH F A fn l p (if p.rule=true then r else r.fail a 9)
   else dH F A fn l p r
def dH(F:List RFn)(A:Sym→Bool)(fn:Option Nat):List Tree→Pl→RSt→RSt
 |[],_,r=>r
 |k::l,p,r=>dH F A fn l p (dK F A fn k p r)
def gq(F:List RFn)(A:Sym→Bool)(fn:Option Nat)(k a:Nat)(ps:List Txt):List Tree→Pl→RSt→RSt
 |[],_,r=>r
 |x::l,p,r =>
   if A (some k,ps.headD [])=false then gq F A fn k a ps.tail l p (dK F A fn x p r)
   else if x.op≠[118,97,114]then r.fail a 11
   else gq F A fn k a ps.tail l p (iE F A fn x.text x.at' true r)
end
def mi(F:List RFn)(done:List Txt):List Tree→RSt→RSt
 |[],r=>r
 |x::l,r=>mi F (done++[x.text]) l (if(eH F x.text).isSome∨x.text∈done∨x.text∈special then r.fail x.at' 11 else r)
def nJ(F:List RFn)(A:Sym→Bool)(t:Tree)(before:Nat)(r:RSt):RSt:=
 if t.op≠[102,117,110,99]then dK F A none t ⟨false,false,decide (t.op=[114,117,108,101])⟩ r
 else if eH F t.text≠some before then r.fail t.at' 11
 else dK F A (some before) (F.getD before default).body ⟨false,true,false⟩ (mi F [] t.kids.dropLast r)
def eG(F:List RFn)(A:Sym→Bool):List Tree→Nat→RSt→RSt
 |[],_,r=>r
 |t::l,n,r=>eG F A l (if t.op=[102,117,110,99]then n+1 else n) (nJ F A t n r)
def aJ(A:Sym→Bool)(l:List Tree):RSt:=eG (ai l) A l 0 ⟨[],0,0⟩
end
section
def fnZ:Option Nat→Int
 |some k=>k
 |none=>-1
def symV(s:Sym):V:=.agg [.int .i64 (fnZ s.1),.str s.2]
theorem RG{a b:Option Nat}:(fnZ a==fnZ b)=decide (a=b):=by
 rw[Bool.eq_iff_iff,beq_iff_eq,decide_eq_true_iff];cases a<;>cases b<;>simp only[fnZ,Option.some.injEq,reduceCtorEq,iff_true,iff_false]<;>omega
theorem Bf(s t:Sym):bH (.agg [.int,.str]) (symV s) (symV t)=some (decide (s=t)):=by
 obtain⟨a,x⟩:=s;obtain⟨b,y⟩:=t;simp only[bH,symV,fF,eQ,if_true,RG]
 by_cases h:a=b
 ·subst h
  by_cases k:x=y
  ·simp[k,fF]
  ·have:(x==y)=false:=beq_eq_false_iff_ne.2 k;simp[k,fF,this]
 ·simp[h]
structure SymRep(es:Ents)(clock:Nat)(l:List Sym):Prop where
 eq:es.map (fun e=>(e.1,e.2.1))=l.map fun s=>(symV s,V.bool true)
 old:∀e∈es,e.2.2<clock
theorem SymRep.nil:SymRep [] 0 []:=⟨rfl,by simp⟩
theorem yR{es:Ents}{l:List Sym}(h:es.map (fun e=>(e.1,e.2.1))=l.map fun s=>(symV s,V.bool true))(s:Sym):
  ∃n,aK (.agg [.int,.str]) (symV s) es=some (if s∈l then some (V.bool true,n)else none):=by
 induction es generalizing l with
 | nil=>cases l with
   |nil=>exact⟨0,rfl⟩
   |cons t l=>cases h
 |cons e es ih =>
   cases l with
   |nil=>cases h
   |cons t l =>
     simp only[List.map_cons,List.cons.injEq,Prod.mk.injEq]at h;obtain⟨⟨h1,h2⟩,h3⟩:=h;obtain⟨n,hn⟩:=ih h3;simp only[aK,h1,Bf]
     by_cases c:s=t
     ·exact⟨e.2.2,by simp[c,h2]⟩
     ·exact⟨n,by simp[c,hn]⟩
theorem Em{es:Ents}{clock:Nat}{k u v:V}(h:∀e∈es,e.2.2<clock):iQ clock v (es++[(k,u,clock)])=es++[(k,v,clock)]∧(bV clock (es++[(k,u,clock)])).isSome=true:=by
 induction es with
 |nil=>simp[iQ,bV]
 |cons e es ih =>
   have a:=h e (by simp);have b:=ih fun x hx=>h x (by simp[hx]);simp only[List.cons_append,iQ,bV,if_neg (Nat.ne_of_lt a)];exact⟨by rw[b.1],b.2⟩
theorem SymRep.add{es:Ents}{clock:Nat}{l:List Sym}(R:SymRep es clock l)(s:Sym):SymRep (es++[(symV s,.bool true,clock)]) (clock+1) (l++[s]):=
 ⟨by rw[List.map_append,List.map_append,R.eq];rfl,fun e he=>by
  rcases List.mem_append.1 he with he|he
  ·exact Nat.lt_succ_of_lt (R.old e he)
  ·cases List.mem_singleton.1 he;exact Nat.lt_succ_self _⟩
end
section
open Go
theorem W0{P R:Prop}(q:R)(hh:R→P:=by intro hw;((try simp -implicitDefEqProofs only [later,bW,bG,bM]);(repeat (first|simp -implicitDefEqProofs only [go_sem,↓reduceIte,Nat.reduceEqDiff,Nat.reduceAdd,Nat.reduceLeDiff,Nat.reduceLT,Nat.reduceMul,reduceCtorEq,Int.reduceEq,Int.reduceLT,Int.reduceLE,Int.reduceNeg,Int.reduceToNat,Int.reduceMul,Int.reduceAdd,Int.reduceSub]|simp (disch:=(first|omega|(simp only[go_sem];done)|(simp only[lens];omega))) only [cds])))<;>exact hw):P:=hh q
theorem W1{X0 P R:Prop}(x0:X0)(q:R)(hh:X0→R→P:=by intro y0 hw;((try simp -implicitDefEqProofs only [later,bW,bG,bM]);(repeat (first|simp -implicitDefEqProofs only [go_sem,↓reduceIte,Nat.reduceEqDiff,Nat.reduceAdd,Nat.reduceLeDiff,Nat.reduceLT,Nat.reduceMul,reduceCtorEq,Int.reduceEq,Int.reduceLT,Int.reduceLE,Int.reduceNeg,Int.reduceToNat,Int.reduceMul,Int.reduceAdd,Int.reduceSub,y0]|simp (disch:=(first|omega|(simp only[go_sem];done)|(simp only[lens];omega))) only [cds,y0])))<;>exact hw):P:=hh x0 q
theorem W2{X0 X1 P R:Prop}(x0:X0)(x1:X1)(q:R)(hh:X0→X1→R→P:=by intro y0 y1 hw;((try simp -implicitDefEqProofs only [later,bW,bG,bM]);(repeat (first|simp -implicitDefEqProofs only [go_sem,↓reduceIte,Nat.reduceEqDiff,Nat.reduceAdd,Nat.reduceLeDiff,Nat.reduceLT,Nat.reduceMul,reduceCtorEq,Int.reduceEq,Int.reduceLT,Int.reduceLE,Int.reduceNeg,Int.reduceToNat,Int.reduceMul,Int.reduceAdd,Int.reduceSub,y0,y1]|simp (disch:=(first|omega|(simp only[go_sem];done)|(simp only[lens];omega))) only [cds,y0,y1])))<;>exact hw):P:=hh x0 x1 q
theorem W3{X0 X1 X2 P R:Prop}(x0:X0)(x1:X1)(x2:X2)(q:R)(hh:X0→X1→X2→R→P:=by intro y0 y1 y2 hw;((try simp -implicitDefEqProofs only [later,bW,bG,bM]);(repeat (first|simp -implicitDefEqProofs only [go_sem,↓reduceIte,Nat.reduceEqDiff,Nat.reduceAdd,Nat.reduceLeDiff,Nat.reduceLT,Nat.reduceMul,reduceCtorEq,Int.reduceEq,Int.reduceLT,Int.reduceLE,Int.reduceNeg,Int.reduceToNat,Int.reduceMul,Int.reduceAdd,Int.reduceSub,y0,y1,y2]|simp (disch:=(first|omega|(simp only[go_sem];done)|(simp only[lens];omega))) only [cds,y0,y1,y2])))<;>exact hw):P:=hh x0 x1 x2 q
theorem W4{X0 X1 X2 X3 P R:Prop}(x0:X0)(x1:X1)(x2:X2)(x3:X3)(q:R)(hh:X0→X1→X2→X3→R→P:=by intro y0 y1 y2 y3 hw;((try simp -implicitDefEqProofs only [later,bW,bG,bM]);(repeat (first|simp -implicitDefEqProofs only [go_sem,↓reduceIte,Nat.reduceEqDiff,Nat.reduceAdd,Nat.reduceLeDiff,Nat.reduceLT,Nat.reduceMul,reduceCtorEq,Int.reduceEq,Int.reduceLT,Int.reduceLE,Int.reduceNeg,Int.reduceToNat,Int.reduceMul,Int.reduceAdd,Int.reduceSub,y0,y1,y2,y3]|simp (disch:=(first|omega|(simp only[go_sem];done)|(simp only[lens];omega))) only [cds,y0,y1,y2,y3])))<;>exact hw):P:=hh x0 x1 x2 x3 q
theorem W5{X0 X1 X2 X3 X4 P R:Prop}(x0:X0)(x1:X1)(x2:X2)(x3:X3)(x4:X4)(q:R)(hh:X0→X1→X2→X3→X4→R→P:=by intro y0 y1 y2 y3 y4 hw;((try simp -implicitDefEqProofs only [later,bW,bG,bM]);(repeat (first|simp -implicitDefEqProofs only [go_sem,↓reduceIte,Nat.reduceEqDiff,Nat.reduceAdd,Nat.reduceLeDiff,Nat.reduceLT,Nat.reduceMul,reduceCtorEq,Int.reduceEq,Int.reduceLT,Int.reduceLE,Int.reduceNeg,Int.reduceToNat,Int.reduceMul,Int.reduceAdd,Int.reduceSub,y0,y1,y2,y3,y4]|simp (disch:=(first|omega|(simp only[go_sem];done)|(simp only[lens];omega))) only [cds,y0,y1,y2,y3,y4])))<;>exact hw):P:=hh x0 x1 x2 x3 x4 q
theorem W6{X0 X1 X2 X3 X4 X5 P R:Prop}(x0:X0)(x1:X1)(x2:X2)(x3:X3)(x4:X4)(x5:X5)(q:R)(hh:X0→X1→X2→X3→X4→X5→R→P:=by intro y0 y1 y2 y3 y4 y5 hw;((try simp -implicitDefEqProofs only [later,bW,bG,bM]);(repeat (first|simp -implicitDefEqProofs only [go_sem,↓reduceIte,Nat.reduceEqDiff,Nat.reduceAdd,Nat.reduceLeDiff,Nat.reduceLT,Nat.reduceMul,reduceCtorEq,Int.reduceEq,Int.reduceLT,Int.reduceLE,Int.reduceNeg,Int.reduceToNat,Int.reduceMul,Int.reduceAdd,Int.reduceSub,y0,y1,y2,y3,y4,y5]|simp (disch:=(first|omega|(simp only[go_sem];done)|(simp only[lens];omega))) only [cds,y0,y1,y2,y3,y4,y5])))<;>exact hw):P:=hh x0 x1 x2 x3 x4 x5 q
theorem W7{X0 X1 X2 X3 X4 X5 X6 P R:Prop}(x0:X0)(x1:X1)(x2:X2)(x3:X3)(x4:X4)(x5:X5)(x6:X6)(q:R)(hh:X0→X1→X2→X3→X4→X5→X6→R→P:=by intro y0 y1 y2 y3 y4 y5 y6 hw;((try simp -implicitDefEqProofs only [later,bW,bG,bM]);(repeat (first|simp -implicitDefEqProofs only [go_sem,↓reduceIte,Nat.reduceEqDiff,Nat.reduceAdd,Nat.reduceLeDiff,Nat.reduceLT,Nat.reduceMul,reduceCtorEq,Int.reduceEq,Int.reduceLT,Int.reduceLE,Int.reduceNeg,Int.reduceToNat,Int.reduceMul,Int.reduceAdd,Int.reduceSub,y0,y1,y2,y3,y4,y5,y6]|simp (disch:=(first|omega|(simp only[go_sem];done)|(simp only[lens];omega))) only [cds,y0,y1,y2,y3,y4,y5,y6])))<;>exact hw):P:=hh x0 x1 x2 x3 x4 x5 x6 q
theorem W8{X0 X1 X2 X3 X4 X5 X6 X7 P R:Prop}(x0:X0)(x1:X1)(x2:X2)(x3:X3)(x4:X4)(x5:X5)(x6:X6)(x7:X7)(q:R)(hh:X0→X1→X2→X3→X4→X5→X6→X7→R→P:=by intro y0 y1 y2 y3 y4 y5 y6 y7 hw;((try simp -implicitDefEqProofs only [later,bW,bG,bM]);(repeat (first|simp -implicitDefEqProofs only [go_sem,↓reduceIte,Nat.reduceEqDiff,Nat.reduceAdd,Nat.reduceLeDiff,Nat.reduceLT,Nat.reduceMul,reduceCtorEq,Int.reduceEq,Int.reduceLT,Int.reduceLE,Int.reduceNeg,Int.reduceToNat,Int.reduceMul,Int.reduceAdd,Int.reduceSub,y0,y1,y2,y3,y4,y5,y6,y7]|simp (disch:=(first|omega|(simp only[go_sem];done)|(simp only[lens];omega))) only [cds,y0,y1,y2,y3,y4,y5,y6,y7])))<;>exact hw):P:=hh x0 x1 x2 x3 x4 x5 x6 x7 q
end
end Mir
namespace Go.Proofs.YtkfbldogmgofoaaGreatDoor
section
def wordsT:List (List UInt8):=[[66,69,71,73,78],[69,78,68],[102,117,110,99,116,105,111,110],[105,102],[101,108,115,101],[119,104,105,108,101],[102,111,114],[105,110],[98,114,101,97,107],[99,111,110,116,105,110,117,101],[110,101,120,116],[101,120,105,116],[114,101,116,117,114,110],[100,101,108,101,116,101],[112,114,105,110,116],[112,114,105,110,116,102]]
def builtinsT:List (List UInt8):=[[108,101,110,103,116,104],[115,117,98,115,116,114],[105,110,100,101,120],[115,112,108,105,116],[115,117,98],[103,115,117,98],[109,97,116,99,104],[116,111,108,111,119,101,114],[116,111,117,112,112,101,114],[105,110,116],[115,112,114,105,110,116,102],[114,97,110,100],[115,114,97,110,100]]
def bannedT:List (List UInt8):=[[103,101,116,108,105,110,101],[115,121,115,116,101,109],[99,108,111,115,101],[102,102,108,117,115,104],[115,121,115,116,105,109,101],[115,116,114,102,116,105,109,101]]
end
end Go.Proofs.YtkfbldogmgofoaaGreatDoor
namespace Mir
section
theorem kT{s:Txt}{e:UInt8}{how:UInt8→Option Txt}{a:Nat}(ha:a≤s.length):∀(k i:Nat) (acc:Txt),i≤s.length →
  (∀j,dD s e how a k i acc=.inl j→j≤s.length)∧∀t j,dD s e how a k i acc=.inr (t,j)→i<j∧j≤s.length
 |0,i,acc,hi=>⟨fun j h=>by simp only[dD,Sum.inl.injEq]at h;omega,fun t j h=>by simp[dD]at h⟩
 |k+1,i,acc,hi=>by
   unfold dD;split
   ·exact⟨fun j h=>by simp only[Sum.inl.injEq]at h;omega,fun t j h=>by cases h⟩
   rename_i c;have hl:i<s.length:=by
    by_cases x:s.length≤i
    ·exact absurd (.inl x) c
    ·omega
   split
   ·exact⟨fun j h=>(by cases h),fun t j h=>by simp only[Sum.inr.injEq,Prod.mk.injEq]at h;omega⟩
   split
   ·split
    ·exact⟨fun j h=>by simp only[Sum.inl.injEq]at h;omega,fun t j h=>by cases h⟩
    ·split
     ·exact⟨fun j h=>by simp only[Sum.inl.injEq]at h;omega,fun t j h=>by cases h⟩
     ·obtain⟨h1,h2⟩:=kT (e:=e) (how:=how) ha k (i+2) (acc++_) (by omega);exact⟨h1,fun t j h=>by have:=h2 t j h;omega⟩
   ·obtain⟨h1,h2⟩:=kT (e:=e) (how:=how) ha k (i+1) (acc++[pk s i]) (by omega);exact⟨h1,fun t j h=>by have:=h2 t j h;omega⟩
theorem En{s:Txt}{i:Nat}{t:Txt}(hi:i<s.length)(h:mD s i=some t):0<t.length∧i+t.length≤s.length:=by
 have tl:(kw s i (min (i+2) s.length)).length=min (i+2) s.length-i:=by rw[kw,List.length_drop,List.length_take];omega
 simp only[mD]at h;split at h
 ·cases h;omega
 ·split at h
  ·cases h;rw[List.length_take];omega
  ·cases h
theorem ND{s:Txt}{i:Nat}(h:pk s i≠0):i<s.length:=by
 by_cases c:i<s.length
 ·exact c
 ·exact absurd (by simp[pk,List.getD,List.getElem?_eq_none (by omega:s.length≤i)]) h
theorem IL{s:Txt}{i:Nat}(hi:i<s.length)(h:aU (pk s i)=true∨pk s i=46∧aU (pk s (i+1))=true):i<iK s i∧iK s i≤s.length:=by
 have p0:=iP aU (s:=s) (i:=i) (by omega);have p1:=jv aU s i;unfold iK;split
 ·rename_i c;have:past aU s i<s.length:=ND (by rw[c];decide);have p2:=iP aU (s:=s) (i:=past aU s i+1) (by omega);have p3:=jv aU s (past aU s i+1);omega
 ·rename_i c;rcases h with h|⟨h,_⟩
  ·rw[kR hi h];have:=jv aU s (i+1);have:=iP aU (s:=s) (i:=i+1) (by omega);omega
  ·exfalso;apply c;rw[xB (i:=i) fun _=>by rw[h];decide];exact h
theorem xh{ws bs ns:List Txt}{s:Txt}{i:Nat}{T:List Tokn}(hi:i<s.length)(hT:T.length≤i):
  (∀j,fM ws bs ns s i T=.inl j→j≤s.length)∧∀j T',fM ws bs ns s i T=.inr (j,T')→i<j∧j≤s.length∧T'.length≤j:=by
 have q1:=kT (s:=s) (e:=34) (how:=jg) (a:=i) (by omega) s.length (i+1) [] (by omega);have q2:=kT (s:=s) (e:=47) (how:=tH) (a:=i) (by omega) s.length (i+1) [] (by omega);simp only[fM];split
 ·exact⟨fun j h=>(by cases h),fun j T' h=>by simp only[Sum.inr.injEq,Prod.mk.injEq]at h;obtain⟨rfl,rfl⟩:=h;omega⟩
 split
 ·rename_i c;have:past mg s i=past mg s (i+1):=kR hi (by rw[c];decide);have:=iP mg (s:=s) (i:=i+1) (by omega);have:=jv mg s (i+1);exact⟨fun j h=>(by cases h),fun j T' h=>by simp only[Sum.inr.injEq,Prod.mk.injEq]at h;obtain⟨rfl,rfl⟩:=h;omega⟩
 split
 ·rename_i c;have:=ND (s:=s) (i:=i+1) (by rw[c.2];decide);exact⟨fun j h=>(by cases h),fun j T' h=>by simp only[Sum.inr.injEq,Prod.mk.injEq]at h;obtain⟨rfl,rfl⟩:=h;omega⟩
 split
 ·exact⟨fun j h=>(by cases h),fun j T' h=>by simp only[Sum.inr.injEq,Prod.mk.injEq]at h;obtain⟨rfl,rfl⟩:=h;simp;omega⟩
 split
 ·rename_i c;have:=IL hi c;exact⟨fun j h=>(by cases h),fun j T' h=>by simp only[Sum.inr.injEq,Prod.mk.injEq]at h;obtain⟨rfl,rfl⟩:=h;simp;omega⟩
 split
 ·rename_i c;have:past aV s i=past aV s (i+1):=kR hi (by simp[aV,c]);have:=iP aV (s:=s) (i:=i+1) (by omega);have:=jv aV s (i+1);exact⟨fun j h=>(by cases h),fun j T' h=>by simp only[Sum.inr.injEq,Prod.mk.injEq]at h;obtain⟨rfl,rfl⟩:=h;simp;omega⟩
 split
 ·split
  ·rename_i j e;exact⟨fun j' h=>by cases h;exact q1.1 _ e,fun j T' h=>by cases h⟩
  ·rename_i t j e;have:=q1.2 _ _ e;exact⟨fun j' h=>(by cases h),fun j' T' h=>by simp only[Sum.inr.injEq,Prod.mk.injEq]at h;obtain⟨rfl,rfl⟩:=h;simp;omega⟩
 split
 ·split
  ·rename_i j e;exact⟨fun j' h=>by cases h;exact q2.1 _ e,fun j T' h=>by cases h⟩
  ·rename_i t j e;have:=q2.2 _ _ e;exact⟨fun j' h=>(by cases h),fun j' T' h=>by simp only[Sum.inr.injEq,Prod.mk.injEq]at h;obtain⟨rfl,rfl⟩:=h;simp;omega⟩
 split
 ·exact⟨fun j h=>by cases h;omega,fun j T' h=>by cases h⟩
 ·rename_i t e;have:=En hi e;exact⟨fun j h=>(by cases h),fun j T' h=>by simp only[Sum.inr.injEq,Prod.mk.injEq]at h;obtain⟨rfl,rfl⟩:=h;simp;omega⟩
end
section
variable{s:Txt}
structure RFine(s:Txt)(r:RS):Prop where
 low:r.err=0→r.i≤s.length∧r.deep≤20
 sum:r.i+r.deep≤s.length+30
def rem(s:Txt)(r:RS):Nat:=if r.err=0 then s.length-r.i else 0
structure ROk(s:Txt)(r r':RS):Prop where
 fine:RFine s r'
 deep:r'.deep=r.deep
 le:r.i≤r'.i
 rem:rem s r'≤rem s r
theorem ROk.refl{r:RS}(h:RFine s r):ROk s r r:=⟨h,rfl,Nat.le_refl _,Nat.le_refl _⟩
theorem ROk.trans{a b c:RS}(x:ROk s a b)(y:ROk s b c):ROk s a c:=⟨y.fine,y.deep.trans x.deep,Nat.le_trans x.le y.le,Nat.le_trans y.rem x.rem⟩
theorem iJ{r:RS}{c:UInt8}(h:r.next s=some c):r.err=0∧r.i<s.length∧pk s r.i=c:=by
 unfold RS.next at h;split at h
 ·cases h
 ·rename_i q;exact⟨by omega,by omega,Option.some.inj h⟩
theorem RFine.step{r:RS}{c:UInt8}(h:RFine s r)(e:r.next s=some c):ROk s r r.step∧rem s r.step+1=rem s r∧r.step.err=0:=by
 obtain⟨e1,e2,-⟩:=iJ e;obtain⟨h1,h2⟩:=h.low e1;have:r.step.err=0:=e1;refine⟨⟨⟨fun _=>⟨by show r.i+1≤_;omega,h2⟩,by show r.i+1+r.deep≤_;omega⟩,rfl,Nat.le_succ _,?_⟩,?_,e1⟩
 ·unfold Mir.rem;rw[if_pos this,if_pos e1];show s.length-(r.i+1)≤_;omega
 ·unfold Mir.rem;rw[if_pos this,if_pos e1];show s.length-(r.i+1)+1=_;omega
theorem ROk.bad{r r':RS}(hd:r'.deep=r.deep)(hl:r.i≤r'.i)(he:r'.err≠0)(hs:r'.i+r'.deep≤s.length+30):ROk s r r' :=
 ⟨⟨fun h=>absurd h he,hs⟩,hd,hl,by unfold Mir.rem;rw[if_neg he];exact Nat.zero_le _⟩
theorem dQ(r:RS)(a e:Nat)(he:e≠0):(r.fail a e).err≠0∧(r.fail a e).i=r.i∧(r.fail a e).deep=r.deep:=by
 unfold RS.fail;split
 ·exact⟨he,rfl,rfl⟩
 ·exact⟨by assumption,rfl,rfl⟩
theorem ROk.failed{r r':RS}(x:ROk s r r')(a e:Nat)(he:e≠0):ROk s r (r'.fail a e):=by
 obtain⟨h1,h2,h3⟩:=dQ r' a e he;exact ROk.bad (by rw[h3];exact x.deep) (by rw[h2];exact x.le) h1 (by rw[h2,h3];exact x.fine.sum)
theorem ET{r:RS}(h:RFine s r)(e:r.err=0):ROk s r (jm s r).2∧(jm s r).2.i=r.i+1:=by
 obtain⟨h1,h2⟩:=h.low e;unfold jm;cases e1:r.next s with
 |none =>
   obtain⟨q1,q2,q3⟩:=dQ r.step (r.i-1) 9 (by decide);exact⟨ROk.bad (by rw[q3];rfl) (by rw[q2];exact Nat.le_succ _) q1 (by rw[q2,q3];show r.i+1+r.deep≤_;omega),q2⟩
 |some c =>
   have st:=(h.step e1).1;simp only;split
   ·exact⟨st,rfl⟩
   split
   ·exact⟨st,rfl⟩
   split
   ·exact⟨st.failed _ _ (by decide),(dQ _ _ _ (by decide)).2.1⟩
   ·exact⟨st,rfl⟩
theorem TP(a:Nat):∀k first (r:RS),RFine s r→rem s r+1≤k→∃r',yH s a k first r=some r'∧ROk s r r':=by
 intro k;induction k with
 |zero=>intro _ r _ hk;omega
 |succ k ih =>
   intro first r hf hk
   rw[yH];cases e:r.next s with
   |none=>exact⟨_,rfl,(ROk.refl hf).failed _ _ (by decide)⟩
   |some c =>
     obtain⟨st,rm,es⟩:=hf.step e;simp only;split
     ·exact⟨_,rfl,st⟩
     ·generalize hx:(if c=92 then jm s r.step else(c,r.step))=x;have hx':ROk s r.step x.2:=by
       rw[← hx];split
       ·exact(ET st.fine es).1
       ·exact ROk.refl st.fine
      have h2:ROk s r x.2:=st.trans hx';have h2r:=hx'.rem;split
      ·rename_i d;obtain⟨d1,d2,d3,d4⟩:=d;obtain⟨q1,q2⟩:=h2.fine.low d4;have f2:RFine s {x.2 with i:=x.2.i+2}:=⟨fun _=>⟨by show x.2.i+2≤_;omega,q2⟩,by show x.2.i+2+x.2.deep≤_;omega⟩;have o2:ROk s x.2 {x.2 with i:=x.2.i+2}:=⟨f2,rfl,by show x.2.i≤x.2.i+2;omega,by unfold rem;rw[if_pos d4,if_pos (show({x.2 with i:=x.2.i+2}:RS).err=0 from d4)];show s.length-(x.2.i+2)≤_;omega⟩;generalize hy:(if pk s (x.2.i+1)=92 then jm s {x.2 with i:=x.2.i+2} else(pk s (x.2.i+1),{x.2 with i:=x.2.i+2}))=y;have hy':ROk s {x.2 with i:=x.2.i+2} y.2:=by
        rw[← hy];split
        ·exact(ET f2 d4).1
        ·exact ROk.refl f2
       have o3:=(h2.trans o2).trans hy';have o3r:=o2.rem;have o4r:=hy'.rem;have o4:ROk s r (if y.1.toNat<x.1.toNat then y.2.fail a 9 else y.2)∧rem s (if y.1.toNat<x.1.toNat then y.2.fail a 9 else y.2)≤rem s y.2:=by
        split
        ·refine⟨o3.failed _ _ (by decide),?_⟩;unfold rem;rw[if_neg (dQ _ _ _ (by decide)).1];exact Nat.zero_le _
        ·exact⟨o3,Nat.le_refl _⟩
       obtain⟨r',e',o'⟩:=ih false _ o4.1.fine (by have:=o4.2;omega);exact⟨r',e',o4.1.trans o'⟩
      ·obtain⟨r',e',o'⟩:=ih false x.2 h2.fine (by omega);exact⟨r',e',h2.trans o'⟩
theorem BL:∀k (r:RS),RFine s r→rem s r+1≤k→∃r',uN s k r=some r'∧ROk s r r':=by
 intro k;induction k with
 |zero=>intro r _ hk;omega
 |succ k ih =>
   intro r hf hk;rw[uN];cases e:r.next s with
   |none=>exact⟨_,rfl,ROk.refl hf⟩
   |some c =>
     obtain⟨st,rm,es⟩:=hf.step e;simp only;split
     ·obtain⟨r',e',o'⟩:=ih r.step st.fine (by omega);exact⟨r',e',st.trans o'⟩
     ·exact⟨_,rfl,ROk.refl hf⟩
theorem G8{r:RS}{c:UInt8}(e:r.next s=some c):1≤rem s r:=by
 obtain⟨e1,e2,-⟩:=iJ e;unfold rem;rw[if_pos e1];omega
theorem F7:∀k,
  (∀r,RFine s r→rem s r*4+2≤k→∃r',Ey s k r=some r'∧ROk s r r') ∧
  (∀r,RFine s r→rem s r*4+1≤k→∃r',Hq s k r=some r'∧ROk s r r') ∧
  (∀r,RFine s r→rem s r*4+1≤k→∃r',Ag s k r=some r'∧ROk s r r') ∧
  (∀r c,RFine s r→r.next s=some c→rem s r*4≤k→∃r',BZ s k r=some r'∧ROk s r r'∧rem s r'<rem s r):=by
 intro k;induction k with
 |zero =>
   refine⟨fun r _ h=>by omega,fun r _ h=>by omega,fun r _ h=>by omega,fun r c _ e h=>?_⟩;have:=G8 e;omega
 |succ k ih =>
   obtain⟨i1,i2,i3,i4⟩:=ih;refine⟨fun r hf hk=>?_,fun r hf hk=>?_,fun r hf hk=>?_,fun r c hf e hk=>?_⟩
   ·rw[Ey];obtain⟨r1,e1,o1⟩:=i3 r hf (by omega);have:=o1.rem;obtain⟨r2,e2,o2⟩:=i2 r1 o1.fine (by omega);exact⟨r2,by rw[e1];exact e2,o1.trans o2⟩
   ·rw[Hq];split
    ·rename_i e;obtain⟨st,rm,es⟩:=hf.step e;obtain⟨r1,e1,o1⟩:=i3 r.step st.fine (by omega);have:=o1.rem;obtain⟨r2,e2,o2⟩:=i2 r1 o1.fine (by omega);exact⟨r2,by rw[e1];exact e2,st.trans (o1.trans o2)⟩
    ·exact⟨_,rfl,ROk.refl hf⟩
   ·rw[Ag];cases e:r.next s with
    |none=>exact⟨_,rfl,ROk.refl hf⟩
    |some c =>
      simp only;split
      ·exact⟨_,rfl,ROk.refl hf⟩
      split
      ·exact⟨_,rfl,(ROk.refl hf).failed _ _ (by decide)⟩
      ·obtain⟨r1,e1,o1,l1⟩:=i4 r c hf e (by omega);obtain⟨r2,e2,o2⟩:=BL k r1 o1.fine (by omega);have:=o2.rem;obtain⟨r3,e3,o3⟩:=i3 r2 o2.fine (by omega);exact⟨r3,by rw[e1];simp only[Option.bind_some];rw[e2];exact e3,o1.trans (o2.trans o3)⟩
   ·rw[BZ,e];obtain⟨st,rm,es⟩:=hf.step e;obtain⟨n1,n2,-⟩:=iJ e;obtain⟨l1,l2⟩:=hf.low n1;simp only;split
    ·
     have key:∀r0:RS,r0.i=r.i+1→r0.deep=r.deep+1→(r0.err=0→r0.deep≤20)→rem s r0≤rem s r.step→∃r',((Ey s k r0).bind fun r2=>some {(if r2.next s=some 41 then r2 else r2.fail r.i 9)with i:=(if r2.next s=some 41 then r2 else r2.fail r.i 9).i+1,deep:=(if r2.next s=some 41 then r2 else r2.fail r.i 9).deep-1})=some r'∧ROk s r r'∧rem s r'<rem s r:=by
      intro r0 e0 d0 w0 m0;have f0:RFine s r0:=⟨fun h=>⟨by omega,w0 h⟩,by omega⟩;obtain⟨r2,e2,o2⟩:=i1 r0 f0 (by omega);have o2r:=o2.rem;have o2l:=o2.le;have o2d:=o2.deep;have o2s:=o2.fine.sum
      by_cases d:r2.next s=some 41
      ·obtain⟨m1,m2,-⟩:=iJ d;refine⟨{r2 with i:=r2.i+1,deep:=r2.deep-1},by rw[e2];simp[d],⟨⟨fun _=>⟨by show r2.i+1≤_;omega,by show r2.deep-1≤_;omega⟩,by show r2.i+1+(r2.deep-1)≤_;omega⟩,by show r2.deep-1=_;omega,by show r.i≤r2.i+1;omega,?_⟩,?_⟩
       all_goals
        have q1:rem s {r2 with i:=r2.i+1,deep:=r2.deep-1}≤rem s r2:=by
         unfold rem;rw[if_pos m1,if_pos (show({r2 with i:=r2.i+1,deep:=r2.deep-1}:RS).err=0 from m1)];show s.length-(r2.i+1)≤_;omega
        omega
      ·obtain⟨m1,m2,m3⟩:=dQ r2 r.i 9 (by decide);have hbad:ROk s r {r2.fail r.i 9 with i:=(r2.fail r.i 9).i+1,deep:=(r2.fail r.i 9).deep-1}:=
        ROk.bad (by show(r2.fail r.i 9).deep-1=_;omega) (by show r.i≤(r2.fail r.i 9).i+1;omega) m1 (by show(r2.fail r.i 9).i+1+((r2.fail r.i 9).deep-1)≤_;omega)
       refine⟨{r2.fail r.i 9 with i:=(r2.fail r.i 9).i+1,deep:=(r2.fail r.i 9).deep-1},by rw[e2];simp[d],hbad,?_⟩;have:rem s {r2.fail r.i 9 with i:=(r2.fail r.i 9).i+1,deep:=(r2.fail r.i 9).deep-1}=0:=by
        unfold rem;rw[if_neg m1]
       omega
     split
     ·refine key _ ?_ ?_ (fun h=>?_) ?_
      ·exact(dQ _ _ _ (by decide)).2.1
      ·exact(dQ _ _ _ (by decide)).2.2
      ·exact absurd h (dQ _ _ _ (by decide)).1
      ·unfold rem;rw[if_neg (dQ _ _ _ (by decide)).1];exact Nat.zero_le _
     ·rename_i d;exact key {r.step with deep:=r.deep+1} rfl rfl (fun _=>by simpa using d) (Nat.le_refl _)
    split
    ·have o1:ROk s r.step (if r.step.next s=some 94 then r.step.step else r.step):=by
      split
      ·rename_i d;exact(st.fine.step d).1
      ·exact ROk.refl st.fine
     have:=o1.rem;obtain⟨r',e',o'⟩:=TP r.i k true _ o1.fine (by omega);have:=o'.rem;exact⟨r',e',st.trans (o1.trans o'),by omega⟩
    split
    ·exact⟨_,rfl,st,by omega⟩
    split
    ·refine⟨_,rfl,st.failed _ _ (by decide),?_⟩;unfold rem;rw[if_neg (dQ _ _ _ (by decide)).1,if_pos n1];omega
    split
    ·have:=ET st.fine es;have q:=this.1.rem;exact⟨_,rfl,st.trans this.1,by omega⟩
    ·exact⟨_,rfl,st,by omega⟩
end
section
structure TkOk(T:List Tokn)(N:Nat):Prop where
 last:(T.getD (T.length-1) tkz).k=0
 places:∀i,(T.getD i tkz).a≤N
 short:∀i,(T.getD i tkz).t.length<1000000
structure SOk(T:List Tokn)(N:Nat)(s:PS):Prop where
 lt:s.i<T.length
 code:s.err=0∨s.err=9∨s.err=10∨s.err=14
 bad:s.bad≤N
 low:s.err=0→s.deep≤50
structure Fwd(T:List Tokn)(N:Nat)(s s':PS):Prop where
 le:s.i≤s'.i
 deep:s'.deep=s.deep
 same:s.err≠0→s'.i=s.i∧s'.err=s.err∧s'.bad=s.bad
 ok:SOk T N s'
def Adv(s s':PS):Prop:=s.err=0→s.i<s'.i∨s'.err≠0
variable{T:List Tokn}{N:Nat}{s s' s'':PS}
theorem Fwd.refl(h:SOk T N s):Fwd T N s s:=⟨Nat.le_refl _,rfl,fun _=>⟨rfl,rfl,rfl⟩,h⟩
theorem Fwd.trans(a:Fwd T N s s')(b:Fwd T N s' s''):Fwd T N s s'':=by
 refine⟨Nat.le_trans a.le b.le,b.deep.trans a.deep,fun h=>?_,b.ok⟩;obtain⟨h1,h2,h3⟩:=a.same h;obtain⟨k1,k2,k3⟩:=b.same (by rw[h2];exact h);exact⟨k1.trans h1,k2.trans h2,k3.trans h3⟩
theorem Fwd.err(a:Fwd T N s s')(h:s'.err=0):s.err=0:=Classical.byContradiction fun c=>c (by rw[← (a.same c).2.1];exact h)
theorem Adv.left(a:Adv s s')(b:Fwd T N s' s''):Adv s s'':=fun h=>by
 rcases a h with c|c
 ·exact .inl (Nat.lt_of_lt_of_le c b.le)
 ·exact .inr (by rw[(b.same c).2.1];exact c)
theorem Adv.right(a:Fwd T N s s')(b:Adv s' s'')(f:Fwd T N s' s''):Adv s s'':=fun h=>by
 by_cases c:s'.err=0
 ·rcases b c with d|d
  ·exact .inl (Nat.lt_of_le_of_lt a.le d)
  ·exact .inr d
 ·exact .inr (by rw[(f.same c).2.1];exact c)
theorem iD(h:s.err≠0):s.cur T=tkz:=if_pos h
theorem JX(h:s.err=0):s.cur T=T.getD s.i tkz:=if_neg (by omega)
theorem iM(h:(s.cur T).k≠0):s.err=0:=Classical.byContradiction fun c=>h (by rw[iD c];rfl)
theorem at_k{l:List Txt}(h:s.isAt T l=true):(s.cur T).k=8∨(s.cur T).k=7:=by
 unfold PS.isAt at h;simp only[Bool.and_eq_true,Bool.or_eq_true,decide_eq_true_eq]at h;exact h.1
theorem iF{l:List Txt}(h:s.isAt T l=true):s.err=0:=iM (T:=T) (by rcases at_k h with e|e<;>omega)
variable(W:TkOk T N)
include W
theorem kQ(h:(s.cur T).k≠0)(hs:SOk T N s):s.i+1<T.length:=by
 have e:=iM h;rw[JX e]at h;have l:=hs.lt
 by_cases c:s.i=T.length-1
 ·rw[c]at h;exact absurd W.last h
 ·omega
theorem ak(hs:SOk T N s):Fwd T N s (s.step T):=by
 have _:=W;unfold PS.step;split
 ·rename_i c;exact⟨Nat.le_succ _,rfl,fun h=>absurd c.1 h,⟨c.2,hs.code,hs.bad,hs.low⟩⟩
 ·exact Fwd.refl hs
theorem jJ(hs:SOk T N s)(h:(s.cur T).k≠0):Adv s (s.step T):=fun e=>by
 rw[PS.step,if_pos ⟨e,kQ W h hs⟩];exact .inl (Nat.lt_succ_self _)
theorem gU(hs:SOk T N s){l:List Txt}(h:s.isAt T l=true):Adv s (s.step T):=jJ W hs (by rcases at_k h with e|e<;>omega)
theorem Gn(hs:SOk T N s):(s.cur T).a≤N:=by
 unfold PS.cur;split
 ·exact Nat.zero_le _
 ·exact W.places _
theorem Ui:(s.cur T).t.length<1000000:=by
 unfold PS.cur;split
 ·decide
 ·exact W.short _
theorem dR(hs:SOk T N s):Fwd T N s (s.fail T):=by
 unfold PS.fail;split
 ·exact Fwd.refl hs
 ·rename_i c;split
  ·exact⟨Nat.le_refl _,rfl,fun h=>absurd h c,⟨hs.lt,by simp,Gn W hs,fun h=>by cases h⟩⟩
  ·exact⟨Nat.le_refl _,rfl,fun h=>absurd h c,⟨hs.lt,by simp,Gn W hs,fun h=>by cases h⟩⟩
theorem nz(hs:SOk T N s):(s.fail T).err≠0:=by
 have _:=W;unfold PS.fail;split
 ·assumption
 ·split<;>simp
theorem ay(hs:SOk T N s)(x:Txt):Fwd T N s (s.expect T x):=by
 unfold PS.expect;split
 ·exact ak W hs
 ·exact dR W hs
theorem EW(hs:SOk T N s)(x:Txt):Adv s (s.expect T x):=by
 unfold PS.expect;split
 ·rename_i c;exact gU W hs c
 ·exact fun _=>.inr (nz W hs)
theorem wW:∀(k:Nat) {s:PS},SOk T N s→Fwd T N s (linesN T k s)
 |0,_,hs=>Fwd.refl hs
 |k+1,s,hs=>by
   unfold linesN;split
   ·exact(ak W hs).trans (wW k (ak W hs).ok)
   ·exact Fwd.refl hs
theorem aA(hs:SOk T N s):Fwd T N s (s.lines T):=wW W _ hs
theorem dU(hs:SOk T N s)(ks:List Nat):Fwd T N s (s.name T ks).2:=by
 unfold PS.name;split
 ·exact ak W hs
 ·exact dR W hs
theorem MO(hs:SOk T N s)(ks:List Nat)(h0:0∉ks):Adv s (s.name T ks).2:=by
 unfold PS.name;split
 ·rename_i c;exact jJ W hs fun e=>h0 (e ▸ c)
 ·exact fun _=>.inr (nz W hs)
omit W in
theorem eX(hs:SOk T N s)(f:Bool):Fwd T N s {s with flat:=f}:=⟨Nat.le_refl _,rfl,fun _=>⟨rfl,rfl,rfl⟩,⟨hs.lt,hs.code,hs.bad,hs.low⟩⟩
omit W in
theorem pK(hs:SOk T N s){a e:Nat}(ha:a≤N)(he:e=9∨e=10∨e=14){q:Prop}[Decidable q]:Fwd T N s (s.wrong a q e):=by
 unfold PS.wrong;split
 ·rename_i c;exact⟨Nat.le_refl _,rfl,fun h=>absurd c.2 h,⟨hs.lt,.inr he,ha,fun h=>absurd h (by show e≠0;omega)⟩⟩
 ·exact Fwd.refl hs
theorem dZ(hs:SOk T N s):SOk T N (s.down T)∧(s.down T).i=s.i∧(s.down T).deep=s.deep+1∧(s.err≠0→(s.down T).err=s.err∧(s.down T).bad=s.bad)∧((s.down T).err=0→s.err=0):=by
 unfold PS.down;split
 ·rename_i c;exact⟨⟨hs.lt,by simp,Gn W hs,fun h=>by cases h⟩,rfl,rfl,fun h=>absurd c.2 h,fun h=>by cases h⟩
 ·rename_i c;exact⟨⟨hs.lt,hs.code,hs.bad,fun h=>by show s.deep+1≤50;have:s.err=0:=h;omega⟩,rfl,rfl,fun _=>⟨rfl,rfl⟩,fun h=>h⟩
theorem BQ(hs:SOk T N s)(f:Fwd T N (s.down T) s'):Fwd T N s s'.up:=by
 obtain⟨d1,d2,d3,d4,d5⟩:=dZ W hs;refine⟨by rw[← d2];exact f.le,by show s'.deep-1=_;rw[f.deep,d3];rfl,fun h=>?_,⟨f.ok.lt,f.ok.code,f.ok.bad,fun h=>?_⟩⟩
 ·obtain⟨e1,e2⟩:=d4 h;obtain⟨g1,g2,g3⟩:=f.same (by rw[e1];exact h);exact⟨g1.trans d2,g2.trans e1,g3.trans e2⟩
 ·have:=f.ok.low h
  show s'.deep-1≤50;omega
theorem Oh(hs:SOk T N s)(f:Fwd T N (s.down T) s')(a:Adv (s.down T) s'):Adv s s'.up:=fun h=>by
 obtain⟨d1,d2,d3,d4,d5⟩:=dZ W hs
 by_cases c:(s.down T).err=0
 ·rcases a c with e|e
  ·exact .inl (by rw[← d2];exact e)
  ·exact .inr e
 ·exact .inr (by show s'.err≠0;rw[(f.same c).2.1];exact c)
end
section
theorem jS{s:Txt}{e:UInt8}{how:UInt8→Option Txt}{a:Nat}(hh:∀c t,how c=some t→t.length≤2):∀(k i:Nat) (acc t:Txt) (j:Nat),
  dD s e how a k i acc=.inr (t,j)→t.length+2*i≤acc.length+2*j
 |0,i,acc,t,j,h=>by simp[dD]at h
 |k+1,i,acc,t,j,h=>by
   unfold dD at h;split at h
   ·cases h
   split at h
   ·simp only[Sum.inr.injEq,Prod.mk.injEq]at h;obtain⟨rfl,rfl⟩:=h;omega
   split at h
   ·split at h
    ·cases h
    ·rename_i t' e';split at h
     ·cases h
     ·have:=jS hh k _ _ _ _ h;have:=hh _ _ e';simp only[List.length_append]at *;omega
   ·have:=jS hh k _ _ _ _ h;simp only[List.length_append,List.length_cons,List.length_nil]at *;omega
theorem Dz(c:UInt8)(t:Txt)(h:jg c=some t):t.length≤2:=by
 unfold jg at h;split at h
 ·cases h;simp
 split at h
 ·cases h;simp
 split at h
 ·cases h;simp
 ·cases h
theorem Fg(c:UInt8)(t:Txt)(h:tH c=some t):t.length≤2:=by
 unfold tH at h;split at h
 ·cases h;simp
 split at h
 ·cases h
 ·cases h;simp
def TkB(N:Nat)(T:List Tokn):Prop:=∀t∈T,t.a≤N∧t.t.length≤2*N
theorem TkB.add{N:Nat}{T:List Tokn}(h:TkB N T){t:Tokn}(h1:t.a≤N)(h2:t.t.length≤2*N):TkB N (T++[t]):=fun x hx=>by
 rcases List.mem_append.1 hx with hx|hx
 ·exact h x hx
 ·simp only[List.mem_cons,List.not_mem_nil,or_false]at hx;subst hx;exact⟨h1,h2⟩
theorem vU(s:Txt)(i j:Nat):(kw s i j).length≤2*s.length:=by
 rw[kw,List.length_drop,List.length_take];omega
theorem PO{ws bs ns:List Txt}{s:Txt}{i j:Nat}{T T':List Tokn}(hi:i<s.length)(hT:TkB s.length T)(h:fM ws bs ns s i T=.inr (j,T')):TkB s.length T':=by
 have q1:=kT (s:=s) (e:=34) (how:=jg) (a:=i) (by omega) s.length (i+1) [] (by omega);have q2:=kT (s:=s) (e:=47) (how:=tH) (a:=i) (by omega) s.length (i+1) [] (by omega);simp only[fM]at h;split at h
 ·simp only[Sum.inr.injEq,Prod.mk.injEq]at h;obtain⟨rfl,rfl⟩:=h;exact hT
 split at h
 ·simp only[Sum.inr.injEq,Prod.mk.injEq]at h;obtain⟨rfl,rfl⟩:=h;exact hT
 split at h
 ·simp only[Sum.inr.injEq,Prod.mk.injEq]at h;obtain⟨rfl,rfl⟩:=h;exact hT
 split at h
 ·simp only[Sum.inr.injEq,Prod.mk.injEq]at h;obtain⟨rfl,rfl⟩:=h;exact hT.add (Nat.le_of_lt hi) (Nat.zero_le _)
 split at h
 ·simp only[Sum.inr.injEq,Prod.mk.injEq]at h;obtain⟨rfl,rfl⟩:=h;exact hT.add (Nat.le_of_lt hi) (vU ..)
 split at h
 ·simp only[Sum.inr.injEq,Prod.mk.injEq]at h;obtain⟨rfl,rfl⟩:=h;exact hT.add (Nat.le_of_lt hi) (vU ..)
 split at h
 ·split at h
  ·cases h
  ·rename_i t j e;have:=jS Dz _ _ _ _ _ e;have:=q1.2 _ _ e;simp only[List.length_nil]at *;simp only[Sum.inr.injEq,Prod.mk.injEq]at h;obtain⟨rfl,rfl⟩:=h;exact hT.add (Nat.le_of_lt hi) (by show t.length≤_;omega)
 split at h
 ·split at h
  ·cases h
  ·rename_i t j e;have:=jS Fg _ _ _ _ _ e;have:=q2.2 _ _ e;simp only[List.length_nil]at *;simp only[Sum.inr.injEq,Prod.mk.injEq]at h;obtain⟨rfl,rfl⟩:=h;exact hT.add (Nat.le_of_lt hi) (by show t.length≤_;omega)
 split at h
 ·cases h
 ·rename_i t e;have:=En hi e;simp only[Sum.inr.injEq,Prod.mk.injEq]at h;obtain⟨rfl,rfl⟩:=h;exact hT.add (Nat.le_of_lt hi) (by show t.length≤_;omega)
theorem FK{ws bs ns:List Txt}{s:Txt}:∀(k i:Nat) (T U:List Tokn),i≤s.length→T.length≤i→TkB s.length T→kK ws bs ns s k i T=.inr U →
  TkB s.length U∧U.length≤s.length+1∧∃L a,U=L++[⟨0,[],a⟩]
 |0,i,T,U,_,_,_,h=>by simp[kK]at h
 |k+1,i,T,U,hi,hl,hT,h=>by
   unfold kK at h;split at h
   ·simp only[Sum.inr.injEq]at h;subst h;exact⟨hT.add hi (Nat.zero_le _),by simp only[List.length_append,List.length_cons,List.length_nil];omega,_,_,rfl⟩
   ·split at h
    ·cases h
    ·rename_i c j T' e;have hi':i<s.length:=by omega
     obtain⟨_,g⟩:=xh (ws:=ws) (bs:=bs) (ns:=ns) hi' hl;obtain⟨g1,g2,g3⟩:=g _ _ e;exact FK k _ _ U g2 g3 (PO hi' hT e) h
theorem Bh{ws bs ns:List Txt}{s:Txt}{U:List Tokn}(hs:s.length≤4000)(h:kK ws bs ns s (s.length+1) 0 []=.inr U):
  TkOk U s.length∧0<U.length∧U.length≤100000:=by
 obtain⟨b,l,L,a,e⟩:=FK _ 0 [] U (Nat.zero_le _) (Nat.le_refl _) (fun t ht=>by cases ht) h;have get:∀i,U.getD i tkz∈U∨U.getD i tkz=tkz:=fun i=>by
  rw[List.getD_eq_getElem?_getD]
  by_cases c:i<U.length
  ·left;rw[List.getElem?_eq_getElem c];exact List.getElem_mem c
  ·right;rw[List.getElem?_eq_none (by omega)];rfl
 have hp:0<U.length:=by rw[e];simp
 refine⟨⟨?_,fun i=>?_,fun i=>?_⟩,hp,by omega⟩
 ·subst e;simp
 ·rcases get i with g|g
  ·exact(b _ g).1
  ·rw[g];exact Nat.zero_le _
 ·rcases get i with g|g
  ·have:=(b _ g).2;omega
  ·rw[g];show 0<_;omega
theorem DU{ws bs ns:List Txt}{s:Txt}:∀(k i:Nat) (T:List Tokn) (j:Nat),i≤s.length→T.length≤i→kK ws bs ns s k i T=.inl j→j≤s.length
 |0,i,T,j,hi,_,h=>by simp only[kK,Sum.inl.injEq]at h;omega
 |k+1,i,T,j,hi,hl,h=>by
   unfold kK at h;split at h
   ·cases h
   ·have hi':i<s.length:=by omega
    obtain⟨g0,g⟩:=xh (ws:=ws) (bs:=bs) (ns:=ns) hi' hl;split at h
    ·rename_i e;simp only[Sum.inl.injEq]at h;subst h;exact g0 _ e
    ·rename_i e;obtain⟨g1,g2,g3⟩:=g _ _ e;exact DU k _ _ _ g2 g3 h
theorem PG{ws bs ns:List Txt}{s:Txt}{k:Nat}{j:Nat}(_:0≤s.length)(h:kK ws bs ns s k 0 []=.inl j):j≤s.length:=DU _ _ _ _ (Nat.zero_le _) (Nat.le_refl _) h
end
section
variable{F:List RFn}{A:Sym→Bool}{fn:Option Nat}
structure Mo(r r':RSt):Prop where
 err:r.err≠0→r'.err=r.err∧r'.bad=r.bad
 ord:∀x∈r.order,x∈r'.order
theorem Mo.refl{r:RSt}:Mo r r:=⟨fun _=>⟨rfl,rfl⟩,fun _ h=>h⟩
theorem Mo.trans{a b c:RSt}(x:Mo a b)(y:Mo b c):Mo a c:=
 ⟨fun h=>by
  obtain⟨h1,h2⟩:=x.err h;obtain⟨h3,h4⟩:=y.err (by rw[h1];exact h);exact⟨h3.trans h1,h4.trans h2⟩,fun _ h=>y.ord _ (x.ord _ h)⟩
theorem Mo.ok{r r':RSt}(x:Mo r r')(h:r'.err=0):r.err=0:=Classical.byContradiction fun c=>c (by rw[← (x.err c).1];exact h)
theorem iO{r:RSt}{a e:Nat}:Mo r (r.fail a e):=by
 unfold RSt.fail;split
 ·rename_i c;exact⟨fun h=>absurd c h,fun _ h=>h⟩
 ·exact .refl
theorem lq{r:RSt}{a e:Nat}(he:e≠0):(r.fail a e).err≠0:=by
 unfold RSt.fail;split
 ·exact he
 ·assumption
theorem nameR_mo{t:Txt}{a:Nat}{b:Bool}{r:RSt}:Mo r (iE F A fn t a b r):=by
 unfold iE;split
 ·exact iO
 ·dsimp only;have m:Mo r (if A (symOf F fn t)≠b∨b=true∧(symOf F fn t).1=none∧t∈special then r.fail a 11 else r):=by
   split
   ·exact iO
   ·exact .refl
  refine m.trans ?_;generalize (if A (symOf F fn t)≠b∨b=true∧(symOf F fn t).1=none∧t∈special then r.fail a 11 else r)=r1;split
  ·exact⟨fun _=>⟨rfl,rfl⟩,fun x hx=>List.mem_append.2 (.inl hx)⟩
  ·exact .refl
theorem xe{t:Txt}{a:Nat}{b:Bool}{r r2:RSt}(h:(iE F A fn t a b r).err=0)(ho:∀x∈(iE F A fn t a b r).order,x∈r2.order):iE F A fn t a b r2=r2:=by
 unfold iE at h ho⊢
 by_cases c1:(eH F t).isSome
 ·rw[if_pos c1]at h;exact absurd h (lq (by decide))
 rw[if_neg c1]at h ho⊢;dsimp only at h ho⊢
 by_cases c2:A (symOf F fn t)≠b∨b=true∧(symOf F fn t).1=none∧t∈special
 ·exfalso;simp only[if_pos c2]at h;split at h
  ·exact lq (e:=11) (by decide) h
  ·exact lq (e:=11) (by decide) h
 simp only[if_neg c2]at h ho⊢
 by_cases c3:(symOf F fn t).1=none
 ·have:t∈r2.order:=by
   refine ho t ?_;split
   ·exact List.mem_append.2 (.inr (by simp))
   ·rename_i c;exact Classical.byContradiction fun x=>c ⟨c3,x⟩
  rw[if_neg (fun x=>x.2 this)]
 ·rw[if_neg (fun x=>c3 x.1)]
mutual
theorem ku:∀(t:Tree) (p:Pl) (r:RSt),Mo r (dK F A fn t p r)
 |.nd o t a l,p,r=>by
   have K:=fun(p:Pl) (r:RSt)=>rU l p r;unfold dK;split
   ·exact .refl
   split
   ·exact nameR_mo.trans (K _ _)
   split
   ·exact nameR_mo.trans (K _ _)
   split
   ·exact nameR_mo.trans (K _ _)
   split
   ·exact K _ _
   split
   ·split
    ·exact iO
    ·split
     ·exact iO
     ·exact mM _ l _ _
   split
   ·refine Mo.trans ?_ (K _ _);split
    ·exact .refl
    ·exact iO
   split
   ·refine Mo.trans ?_ (K _ _);split
    ·exact .refl
    ·exact iO
   split
   ·refine Mo.trans ?_ (K _ _);split
    ·exact .refl
    ·exact iO
   ·exact K _ _
theorem rU:∀(l:List Tree) (p:Pl) (r:RSt),Mo r (dH F A fn l p r)
 |[],_,_=>by unfold dH;exact .refl
 |k::l,p,r=>by unfold dH;exact(ku k p r).trans (rU l p _)
theorem mM{k a:Nat}:∀(ps:List Txt) (l:List Tree) (p:Pl) (r:RSt),Mo r (gq F A fn k a ps l p r)
 |_,[],_,_=>by unfold gq;exact .refl
 |ps,x::l,p,r=>by
   unfold gq;split
   ·exact(ku x p r).trans (mM _ l _ _)
   split
   ·exact iO
   ·exact nameR_mo.trans (mM _ l _ _)
end
mutual
theorem mW:∀(t:Tree) (p:Pl) (r r2:RSt),(dK F A fn t p r).err=0→(∀x∈(dK F A fn t p r).order,x∈r2.order)→r2.err=0→dK F A fn t p r2=r2
 |.nd o t a l,p,r,r2,h,ho,h2=>by
   have e0:=(ku (F:=F) (A:=A) (fn:=fn) (.nd o t a l) p r).ok h;have K:=fun(p:Pl) (r r2:RSt)=>wR l p r r2;have M:=fun(p:Pl) (r:RSt)=>rU (F:=F) (A:=A) (fn:=fn) l p r;have nm:∀{b:Bool} {p:Pl} {u:Txt} {c:Nat},(dH F A fn l p (iE F A fn u c b r)).err=0→(∀x∈(dH F A fn l p (iE F A fn u c b r)).order,x∈r2.order)→dH F A fn l p (iE F A fn u c b r2)=r2:=fun {b p u c} h ho=>by
    have m:=M p (iE F A fn u c b r);rw[xe (m.ok h) fun x hx=>ho x (m.ord x hx)];exact K _ _ _ h ho h2
   have br:∀{b:Bool},(dH F A fn l p (if b=true then r else r.fail a 9)).err=0→(∀x∈(dH F A fn l p (if b=true then r else r.fail a 9)).order,x∈r2.order)→dH F A fn l p (if b=true then r2 else r2.fail a 9)=r2:=fun {b} h ho=>by
    cases b
    ·exact absurd ((M _ _).ok h) (lq (by decide))
    ·exact K _ _ _ h ho h2
   unfold dK at h ho⊢;rw[if_neg (fun x=>x e0)]at h ho;rw[if_neg (fun x=>x h2)]
   by_cases c1:o=[118,97,114]
   ·rw[if_pos c1]at h ho⊢;exact nm h ho
   rw[if_neg c1]at h ho⊢
   by_cases c2:arrOp o
   ·rw[if_pos c2]at h ho⊢;exact nm h ho
   rw[if_neg c2]at h ho⊢
   by_cases c3:o=[102,111,114,105,110]
   ·rw[if_pos c3]at h ho⊢;exact nm h ho
   rw[if_neg c3]at h ho⊢
   by_cases c4:o=[119,104,105,108,101]∨o=[102,111,114]
   ·rw[if_pos c4]at h ho⊢;exact K _ _ _ h ho h2
   rw[if_neg c4]at h ho⊢
   by_cases c5:o=[99,97,108,108]
   ·rw[if_pos c5]at h ho⊢;cases hN:eH F t with
    |none=>rw[hN]at h;exact absurd h (lq (by decide))
    |some k =>
      rw[hN]at h ho;dsimp only at h ho⊢
      by_cases c:(bD F k).length<l.length
      ·rw[if_pos c]at h;exact absurd h (lq (by decide))
      ·rw[if_neg c]at h ho⊢;exact qg _ l _ _ _ h ho h2
   rw[if_neg c5]at h ho⊢
   by_cases c6:o=[98,114,101,97,107]∨o=[99,111,110,116,105,110,117,101]
   ·rw[if_pos c6]at h ho⊢;exact br h ho
   rw[if_neg c6]at h ho⊢
   by_cases c7:o=[114,101,116,117,114,110]
   ·rw[if_pos c7]at h ho⊢;exact br h ho
   rw[if_neg c7]at h ho⊢
   by_cases c8:o=[110,101,120,116]
   ·rw[if_pos c8]at h ho⊢;exact br h ho
   rw[if_neg c8]at h ho⊢;exact K _ _ _ h ho h2
theorem wR:∀(l:List Tree) (p:Pl) (r r2:RSt),(dH F A fn l p r).err=0→(∀x∈(dH F A fn l p r).order,x∈r2.order)→r2.err=0→dH F A fn l p r2=r2
 |[],_,_,_,_,_,_=>by unfold dH;rfl
 |k::l,p,r,r2,h,ho,h2=>by
   unfold dH at h ho⊢;have m:=rU (F:=F) (A:=A) (fn:=fn) l p (dK F A fn k p r);rw[mW k p r r2 (m.ok h) (fun x hx=>ho x (m.ord x hx)) h2];exact wR l p _ r2 h ho h2
theorem qg{k a:Nat}:∀(ps:List Txt) (l:List Tree) (p:Pl) (r r2:RSt),(gq F A fn k a ps l p r).err=0→(∀x∈(gq F A fn k a ps l p r).order,x∈r2.order)→r2.err=0→gq F A fn k a ps l p r2=r2
 |_,[],_,_,_,_,_,_=>by unfold gq;rfl
 |ps,x::l,p,r,r2,h,ho,h2=>by
   unfold gq at h ho⊢
   by_cases c1:A (some k,ps.headD [])=false
   ·rw[if_pos c1]at h ho⊢;have m:=mM (F:=F) (A:=A) (fn:=fn) (k:=k) (a:=a) ps.tail l p (dK F A fn x p r);rw[mW x p r r2 (m.ok h) (fun x hx=>ho x (m.ord x hx)) h2];exact qg _ l p _ r2 h ho h2
   rw[if_neg c1]at h ho⊢
   by_cases c2:x.op≠[118,97,114]
   ·rw[if_pos c2]at h;exact absurd h (lq (by decide))
   rw[if_neg c2]at h ho⊢;have m:=mM (F:=F) (A:=A) (fn:=fn) (k:=k) (a:=a) ps.tail l p (iE F A fn x.text x.at' true r);rw[xe (m.ok h) fun x hx=>ho x (m.ord x hx)];exact qg _ l p _ r2 h ho h2
end
theorem D8:∀(l:List Tree) (d:List Txt) (r:RSt),Mo r (mi F d l r)
 |[],_,_=>by unfold mi;exact .refl
 |x::l,d,r=>by
   unfold mi;refine Mo.trans ?_ (D8 l _ _);split
   ·exact iO
   ·exact .refl
theorem itemR_mo{t:Tree}{b:Nat}{r:RSt}:Mo r (nJ F A t b r):=by
 unfold nJ;split
 ·exact ku _ _ _
 ·split
  ·exact iO
  ·exact(D8 _ _ _).trans (ku _ _ _)
theorem yY:∀(l:List Tree) (n:Nat) (r:RSt),Mo r (eG F A l n r)
 |[],_,_=>.refl
 |t::l,n,r=>itemR_mo.trans (yY l _ _)
def others(l:List Tree):List Tree:=l.filter fun t=>decide (t.op≠[102,117,110,99])
theorem nK{t:Tree}{b:Nat}{r:RSt}(h:t.op≠[102,117,110,99]):nJ F A t b r=dK F A none t ⟨false,false,decide (t.op=[114,117,108,101])⟩ r:=by unfold nJ;rw[if_pos h]
theorem Ah{t:Tree}{p:Pl}{r:RSt}(h:r.err≠0):dK F A fn t p r=r:=by
 cases t;unfold dK;rw[if_pos h]
theorem lC:∀(l:List Tree) (n m:Nat) (r r2:RSt),(eG F A l n r).err=0→(∀x∈(eG F A l n r).order,x∈r2.order)→r2.err=0→eG F A (others l) m r2=r2
 |[],_,_,_,_,_,_,_=>rfl
 |t::l,n,m,r,r2,h,ho,h2=>by
   unfold eG at h ho;have mo:=yY (F:=F) (A:=A) l (if t.op=[102,117,110,99]then n+1 else n) (nJ F A t n r);have e1:=mo.ok h
   by_cases c:t.op=[102,117,110,99]
   ·have:others (t::l)=others l:=by unfold others;rw[List.filter_cons,if_neg (by simp[c])]
    rw[this];exact lC l _ m _ r2 h ho h2
   ·have:others (t::l)=t::others l:=by unfold others;rw[List.filter_cons,if_pos (by simp[c])]
    rw[this,eG,nK c];rw[nK c]at e1 mo h ho;rw[mW t _ r r2 e1 (fun x hx=>ho x (mo.ord x hx)) h2];exact lC l _ _ _ r2 h ho h2
theorem lD:∀(l:List Tree) (m:Nat) (r:RSt),r.err≠0→eG F A (others l) m r=r
 |[],_,_,_=>rfl
 |t::l,m,r,h=>by
   by_cases c:t.op=[102,117,110,99]
   ·have:others (t::l)=others l:=by unfold others;rw[List.filter_cons,if_neg (by simp[c])]
    rw[this];exact lD l m r h
   ·have:others (t::l)=t::others l:=by unfold others;rw[List.filter_cons,if_pos (by simp[c])]
    rw[this,eG,nK c,Ah h];exact lD l _ r h
theorem wP:∀(l l2:List Tree) (n:Nat) (r:RSt),∃m,eG F A (l++l2) n r=eG F A l2 m (eG F A l n r)
 |[],_,n,_=>⟨n,rfl⟩
 |t::l,l2,n,r=>by
   obtain⟨m,e⟩:=wP l l2 (if t.op=[102,117,110,99]then n+1 else n) (nJ F A t n r);exact⟨m,e⟩
theorem jO{l:List Tree}:ai (l++others l)=ai l:=by
 unfold ai others;rw[List.filter_append,List.filter_filter];have:(l.filter fun t=>decide (t.op=[102,117,110,99])&&decide (t.op≠[102,117,110,99]))=[]:=by
  rw[List.filter_eq_nil_iff];intro t _
  by_cases c:t.op=[102,117,110,99]<;>simp[c]
 rw[this,List.append_nil]
theorem nZ{l:List Tree}:aJ A (l++others l)=aJ A l:=by
 unfold aJ;rw[jO];obtain⟨m,e⟩:=wP (F:=ai l) (A:=A) l (others l) 0 ⟨[],0,0⟩;rw[e]
 by_cases c:(eG (ai l) A l 0 ⟨[],0,0⟩).err=0
 ·exact lC l 0 m _ _ c (fun _ h=>h) c
 ·exact lD l m _ c
theorem yZ{l l':List Tree}(h:∀i∈l,i∈l'){p s:Sym}(k:Link F l p s):Link F l' p s:=by
 obtain⟨i,hi,x⟩:=k;exact⟨i,h i hi,x⟩
theorem yL{l l':List Tree}(h:∀i∈l,i∈l'){s:Sym}(k:ArrS F l s):ArrS F l' s:=by
 induction k with
 |used a b c=>exact .used (h _ a) b c
 |into a _ ih=>exact .into (yZ h a) ih
 |out a _ ih=>exact .out (yZ h a) ih
theorem oV{l:List Tree}{i:Tree}:i∈l++others l↔i∈l:=
 ⟨fun h=>(List.mem_append.1 h).elim id fun x=>(List.mem_filter.1 x).1,fun h=>List.mem_append.2 (.inl h)⟩
theorem vI{l:List Tree}{s:Sym}:ArrS F (l++others l) s↔ArrS F l s:=
 ⟨yL fun _ h=>oV.1 h,yL fun _ h=>oV.2 h⟩
end

end Mir
