import Derived.AtR
import Derived.Defers
import Derived.Laws.BytesString
import Derived.Laws.Entries
import Derived.Laws.Sem
import Derived.Laws.Slices
import Derived.Laws.Strings
import Derived.Laws.StructEq
import Derived.Laws.World
import Derived.Test.YtkfbldogmgofoaaGreatDoorK2
set_option linter.unusedSimpArgs false
set_option linter.unusedVariables false
namespace Mir
section
open Go
inductive All2{α β:Type}(R:α→β→Prop):List α→List β→Prop where
 |nil:All2 R [] []
 |cons {a b as bs}:R a b→All2 R as bs→All2 R (a::as) (b::bs)
namespace All2
variable{α β γ:Type}{R S:α→β→Prop}{as cs:List α}{bs ds:List β}
theorem len(h:All2 R as bs):as.length=bs.length:=by induction h<;>simp_all
theorem imp(h:All2 R as bs)(f:∀a b,R a b→S a b):All2 S as bs:=by
 induction h with
 |nil=>exact .nil
 |cons h _ ih=>exact .cons (f _ _ h) ih
theorem append(h:All2 R as bs)(h':All2 R cs ds):All2 R (as++cs) (bs++ds):=by
 induction h with
 |nil=>exact h'
 |cons h _ ih=>exact .cons h ih
theorem get(h:All2 R as bs):∀{i:Nat} {a:α},as[i]?=some a→∃b,bs[i]?=some b∧R a b:=by
 induction h with
 |nil=>intro i a h;simp at h
 |cons h _ ih =>
   intro i a hi;cases i with
   |zero=>simp at hi;subst hi;exact⟨_,by simp,h⟩
   |succ i=>simp at hi;obtain⟨b,hb,hr⟩:=ih hi;exact⟨b,by simpa using hb,hr⟩
theorem of_get(hl:as.length=bs.length)(h:∀(i:Nat) a b,as[i]?=some a→bs[i]?=some b→R a b):All2 R as bs:=by
 induction as generalizing bs with
 | nil=>cases bs with
   |nil=>exact .nil
   |cons b bs=>simp at hl
 | cons a as ih=>cases bs with
   |nil=>simp at hl
   |cons b bs=>exact .cons (h 0 a b (by simp) (by simp)) (ih (by simpa using hl) fun i a b ha hb=>h (i+1) a b (by simpa using ha) (by simpa using hb))
theorem take(h:All2 R as bs)(n:Nat):All2 R (as.take n) (bs.take n):=by
 induction h generalizing n with
 |nil=>simp;exact .nil
 | cons h _ ih=>cases n with
   |zero=>simp;exact .nil
   |succ n=>simp;exact .cons h (ih n)
theorem drop(h:All2 R as bs)(n:Nat):All2 R (as.drop n) (bs.drop n):=by
 induction h generalizing n with
 |nil=>simp;exact .nil
 | cons h h' ih=>cases n with
   |zero=>simp;exact .cons h h'
   |succ n=>simpa using ih n
theorem map_same{f:γ→α}{g:γ→β}(l:List γ)(h:∀x∈l,R (f x) (g x)):All2 R (l.map f) (l.map g):=by
 induction l with
 |nil=>exact .nil
 |cons x l ih=>exact .cons (h x (by simp)) (ih fun y hy=>h y (by simp[hy]))
end All2
structure Loc where
 B:Nat
 s:Nat
 n:Nat
abbrev Mu:=Nat→Option Loc
def Mu.le(μ μ':Mu):Prop:=∀b L,μ b=some L→μ' b=some L
theorem Mu.le.refl(μ:Mu):μ.le μ:=fun _ _ h=>h
theorem Mu.le.trans{μ₁ μ₂ μ₃:Mu}(h:μ₁.le μ₂)(h':μ₂.le μ₃):μ₁.le μ₃:=fun b L e=>h' b L (h b L e)
inductive VR(μ:Mu):V→Value→Prop where
 |bool (b:Bool):VR μ (.bool b) (.bool b)
 |int (k:IntKind) (n:Int):VR μ (.int k n) (.int k n)
 |str (s:List UInt8):VR μ (.str s) (.string ⟨s.toArray⟩)
 |ptr {b o L}:μ b=some L→VR μ (.ptr b o) (.pointer (some ⟨L.B,L.s+o,none⟩))
 |nilptr:VR μ .nilptr (.pointer none)
 | sl {b o es len L o' cap}:μ b=some L→(0<len→o'=o)→len≤cap→L.s+o'+cap*es≤L.n→0<es →
   VR μ (.sl b o es len) (.slice (some ⟨L.B,L.s+o',none⟩) len cap)
 |nilsl:VR μ .nilsl (.slice none 0 0)
 |map {b L}:μ b=some L→VR μ (.map b) (.map (some L.B))
 |nilmap:VR μ .nilmap (.map none)
 | fn {f:Nat} {first cap:List V} {a c:List Value}:
   first.length=a.length→(∀i (h1:i<first.length) (h2:i<a.length),VR μ (first[i]'h1) (a[i]'h2)) →
   cap.length=c.length→(∀i (h1:i<cap.length) (h2:i<c.length),VR μ (cap[i]'h1) (c[i]'h2)) →
   VR μ (.fn f first cap) (.func (.func f) a.toArray c.toArray)
 |yield {l L}:μ l=some L→VR μ (.yield l) (.func (.yield L.B) #[] #[])
 |nilfn:VR μ .nilfn .nilFunc
 |iface {t v w}:VR μ v w→VR μ (.iface t v) (.iface t w)
 |nilif:VR μ .nilif .nilIface
 |agg {cs:List V} {ds:List Value}:cs.length=ds.length→(∀i (h1:i<cs.length) (h2:i<ds.length),VR μ (cs[i]'h1) (ds[i]'h2))→VR μ (.agg cs) (.agg ds.toArray)
 |tup {cs:List V} {ds:List Value}:cs.length=ds.length→(∀i (h1:i<cs.length) (h2:i<ds.length),VR μ (cs[i]'h1) (ds[i]'h2))→VR μ (.tup cs) (.tuple ds.toArray)
 |undef (v:Value):VR μ .undef v
 |any {v:Value}:v.oneCell'=true→VR μ .any v
abbrev VRs(μ:Mu):=All2 (VR μ)
theorem qO{μ:Mu}{cs:List V}{ds:List Value}(hl:cs.length=ds.length)(h:∀i (h1:i<cs.length) (h2:i<ds.length),VR μ (cs[i]'h1) (ds[i]'h2)):VRs μ cs ds:=
 All2.of_get hl fun i a b ha hb=>by
  obtain⟨h1,rfl⟩:=List.getElem?_eq_some_iff.1 ha;obtain⟨h2,rfl⟩:=List.getElem?_eq_some_iff.1 hb;exact h i h1 h2
theorem uZ{μ:Mu}{cs:List V}{ds:List Value}(h:VRs μ cs ds):∀i (h1:i<cs.length) (h2:i<ds.length),VR μ (cs[i]'h1) (ds[i]'h2):=by
 intro i h1 h2;obtain⟨b,hb,hr⟩:=h.get (List.getElem?_eq_getElem h1);obtain⟨_,rfl⟩:=List.getElem?_eq_some_iff.1 hb;exact hr
theorem VR.mkAgg{μ:Mu}{cs:List V}{ds:List Value}(h:VRs μ cs ds):VR μ (.agg cs) (.agg ds.toArray):=.agg h.len (uZ h)
theorem VR.mkTup{μ:Mu}{cs:List V}{ds:List Value}(h:VRs μ cs ds):VR μ (.tup cs) (.tuple ds.toArray):=.tup h.len (uZ h)
theorem VR.mkFn{μ:Mu}{f:Nat}{xs ys:List V}{as cs:List Value}(h:VRs μ xs as)(h':VRs μ ys cs):VR μ (.fn f xs ys) (.func (.func f) as.toArray cs.toArray):=
 .fn h.len (uZ h) h'.len (uZ h')
theorem VR.agg_inv{μ:Mu}{cs:List V}{d:Value}(h:VR μ (.agg cs) d):∃ds,d=.agg ds.toArray∧VRs μ cs ds:=by
 cases h with
 |agg hl hi=>exact⟨_,rfl,qO hl hi⟩
theorem VR.tup_inv{μ:Mu}{cs:List V}{d:Value}(h:VR μ (.tup cs) d):∃ds,d=.tuple ds.toArray∧VRs μ cs ds:=by
 cases h with
 |tup hl hi=>exact⟨_,rfl,qO hl hi⟩
theorem VR.fn_inv{μ:Mu}{f:Nat}{xs ys:List V}{d:Value}(h:VR μ (.fn f xs ys) d):∃as cs,d=.func (.func f) as.toArray cs.toArray∧VRs μ xs as∧VRs μ ys cs:=by
 cases h with
 |fn hl hi hl' hi'=>exact⟨_,_,rfl,qO hl hi,qO hl' hi'⟩
theorem VR.mono{μ μ':Mu}(hm:μ.le μ'){v:V}{w:Value}(h:VR μ v w):VR μ' v w:=by
 induction h with
 |bool b=>exact .bool b
 |int k n=>exact .int k n
 |str s=>exact .str s
 |ptr h=>exact .ptr (hm _ _ h)
 |nilptr=>exact .nilptr
 |sl h a b c d=>exact .sl (hm _ _ h) a b c d
 |nilsl=>exact .nilsl
 |map h=>exact .map (hm _ _ h)
 |nilmap=>exact .nilmap
 |fn hl _ hl' _ ih ih'=>exact .fn hl ih hl' ih'
 |yield h=>exact .yield (hm _ _ h)
 |nilfn=>exact .nilfn
 |iface _ ih=>exact .iface ih
 |nilif=>exact .nilif
 |agg hl _ ih=>exact .agg hl ih
 |tup hl _ ih=>exact .tup hl ih
 |undef v=>exact .undef v
 |any h=>exact .any h
theorem VRs.mono{μ μ':Mu}(hm:μ.le μ'){vs:List V}{ws:List Value}(h:VRs μ vs ws):VRs μ' vs ws:=h.imp fun _ _ h=>h.mono hm
theorem VR.oneCell{μ:Mu}{v:V}{w:Value}(h:VR μ v w)(hf:v.flat=true):w.oneCell'=true:=by
 cases h<;>simp_all [V.flat,Value.oneCell']
theorem VR.cells{μ:Mu}{v:V}{w:Value}(h:VR μ v w)(hf:v.cells.all V.flat=true):∃ds,w.cells=ds.toArray∧VRs μ v.cells ds:=by
 cases h with
 |agg hl hi=>exact⟨_,rfl,qO hl hi⟩
 |any h=>exact⟨[w],(by cases w<;>simp_all [Value.oneCell',Value.cells]),.cons (.any h) .nil⟩
 | _=>first
   |exact⟨[_],rfl,.cons (by constructor<;>assumption) .nil⟩
   |(simp[V.cells,V.flat]at hf;done)
   |exact⟨[_],rfl,.cons (.iface ‹_›) .nil⟩
def AObj.ro:AObj→Bool
 |.cells _ ro=>ro
 |_=>false
def LSt.is:LSt→LoopState→Prop
 |.ready,s=>s=.ready
 |.busy,s=>s=.busy
 |.done,s=>s=.done
def Ex.is:Option Ex→Option Code→Prop
 |none,c=>c=none
 |some .ret,c=>c=some .ret
 |some (.exit id),c=>c=some (.exit id)
 |some .nm,_=>False
section
variable(P:Program)
def OR(μ:Mu)(L:Loc):AObj→Obj→Prop
 | .cells cs ro,x=>∃c el fr,x=.cells c el fr∧c.size=L.n∧L.s+cs.length≤L.n ∧
   (∀i v,cs[i]?=some v→∃d,c[L.s+i]?=some d∧VR μ v d∧d.oneCell'=true)∧(ro=false→∀j,L.s≤j→j<L.n→¬(fr.1≤j∧j<fr.2))
 |.map es clock,x=>∃ents,x=.map ents clock∧All2 (fun(e:V × V × Nat) (m:MapEntry)=>VR μ e.1 m.key∧VR μ e.2.1 m.val∧e.2.2=m.born) es ents.toList
 |.iter m since seen stepped,x=>L.s=0∧∃m',x=.mapIter m' since seen.toArray stepped∧(match m with|none=>m'=none|some b=>∃K,μ b=some K∧m'=some K.B)
 |.sit s pos,x=>L.s=0∧x=.stringIter ⟨s.toArray⟩ pos
 | .loop t ps as bd st pd,x=>∃r:Loop,x=.loop r∧st.is r.state∧Ex.is pd r.pending∧r.params=ps.toArray ∧
   (∀i,VR μ (t i) (r.tmps.getD i undef))∧(∀p∈ps,p<r.tmps.size)∧comp P r.tmps.size r.assign=some as∧comp P r.tmps.size r.body=some bd∧as.defers=false∧bd.defers=false
theorem OR.mono{μ μ':Mu}(hm:μ.le μ'){L:Loc}{o:AObj}{x:Obj}(h:OR P μ L o x):OR P μ' L o x:=by
 cases o with
 |cells cs ro =>
   obtain⟨c,el,fr,rfl,h1,h2,h3,h4⟩:=h;exact⟨c,el,fr,rfl,h1,h2,fun i v hv=>let ⟨d,a,b,e⟩:=h3 i v hv;⟨d,a,b.mono hm,e⟩,h4⟩
 |map es clock =>
   obtain⟨ents,rfl,h⟩:=h;exact⟨ents,rfl,h.imp fun _ _ ⟨a,b,c⟩=>⟨a.mono hm,b.mono hm,c⟩⟩
 |iter m since seen stepped =>
   obtain⟨h0,m',rfl,h⟩:=h;refine⟨h0,m',rfl,?_⟩;cases m with
   |none=>exact h
   |some b=>obtain⟨K,a,b⟩:=h;exact⟨K,hm _ _ a,b⟩
 |sit s pos=>exact h
 |loop t ps as bd st pd =>
   obtain⟨r,rfl,a,b,c,d,e⟩:=h;exact⟨r,rfl,a,b,c,fun i=>(d i).mono hm,e⟩
def BB(x:Obj):Prop:=∀c el fr,x=.cells c el fr→P.underlying el=some (.int .u8)∧P.cellsOf el=1
def WW(x:Obj):Prop:=∀c el fr,x=.cells c el fr→Cb P=some el∧c.size=P.cellsOf el
def Tag(b:Nat)(L:Loc)(x:Obj):Prop:=(isB b→BB P x)∧(isW b→L.s=0∧WW P x)
structure R(μ:Mu)(h:H)(w:World):Prop where
 fin:∃N,∀b,N≤b→μ b=none
 at_:∀b o,h b=some o→∃L x,μ b=some L∧w.heap[L.B]?=some x∧OR P μ L o x
 inj:∀b b' o o' L L',h b=some o→h b'=some o'→b≠b'→μ b=some L→μ b'=some L'→o.ro=false→L.B≠L'.B
 glob:∀g,g<P.globals.size→∃n,μ g=some ⟨g,0,n⟩
 byt:∀b o L x,h b=some o→μ b=some L→w.heap[L.B]?=some x→Tag P b L x
def Own(μ:Mu)(h:H)(B:Nat):Prop:=∃b o L,h b=some o∧o.ro=false∧μ b=some L∧L.B=B
structure St(μ:Mu)(h:H)(w:World)(μ':Mu)(h':H)(w':World):Prop where
 le:μ.le μ'
 rel:R P μ' h' w'
 size:w.heap.size≤w'.heap.size
 kept:∀B,B<w.heap.size→¬Own μ h B→w'.heap[B]?=w.heap[B]?
 own:∀B,Own μ' h' B→Own μ h B∨w.heap.size≤B
 fresh:∀b,h' b≠none→h b≠none∨(μ b=none∧∀L,μ' b=some L→Own μ h L.B∨w.heap.size≤L.B)
 os:w'.os=w.os
 tape:w'.tape=w.tape
 output:w'.output=w.output
end
variable{P:Program}{μ μ' μ'':Mu}{h h' h'':H}{w w' w'':World}
theorem St.refl(r:R P μ h w):St P μ h w μ h w:=⟨.refl _,r,Nat.le_refl _,fun _ _ _=>rfl,fun _ h=>.inl h,fun _ h=>.inl h,rfl,rfl,rfl⟩
theorem St.trans(a:St P μ h w μ' h' w')(b:St P μ' h' w' μ'' h'' w''):St P μ h w μ'' h'' w'' where
 le:=a.le.trans b.le
 rel:=b.rel
 size:=Nat.le_trans a.size b.size
 kept:=fun B hB ho=>by
  rw[b.kept B (Nat.lt_of_lt_of_le hB a.size) (fun h'=>by rcases a.own B h' with h|h;exact ho h;omega),a.kept B hB ho]
 own:=fun B hB=>by
  rcases b.own B hB with h|h
  ·exact a.own B h
  ·exact .inr (Nat.le_trans a.size h)
 fresh:=fun c hc=>by
  rcases b.fresh c hc with h1|⟨h1,h2⟩
  ·rcases a.fresh c h1 with h3|⟨h3,h4⟩
   ·exact .inl h3
   ·refine .inr ⟨h3,fun L hL=>?_⟩;cases e:h' c with
    |none=>exact absurd e h1
    |some o =>
      obtain⟨L',_,e',_⟩:=a.rel.at_ c o e;have:=b.le c L' e';rw[hL]at this;cases this;exact h4 _ e'
  ·refine .inr ⟨?_,fun L hL=>?_⟩
   ·cases e:μ c with
    |none=>rfl
    |some L=>have:=a.le c L e;rw[h1]at this;cases this
   ·rcases h2 L hL with h|h
    ·exact a.own _ h
    ·exact .inr (Nat.le_trans a.size h)
 os:=b.os.trans a.os
 tape:=b.tape.trans a.tape
 output:=b.output.trans a.output
theorem R.lt(r:R P μ h w){b:Nat}{o:AObj}{L:Loc}(hb:h b=some o)(hL:μ b=some L):L.B<w.heap.size:=by
 obtain⟨L',x,e,hx,_⟩:=r.at_ b o hb;rw[hL]at e;cases e;exact(Array.getElem?_eq_some_iff.1 hx).1
theorem R.sub(r:R P μ h w)(hs:Sub h' h):R P μ h' w where
 fin:=r.fin
 at_:=fun b o hb=>r.at_ b o (hs b o hb)
 inj:=fun b b' o o' L L' hb hb'=>r.inj b b' o o' L L' (hs _ _ hb) (hs _ _ hb')
 glob:=r.glob
 byt:=fun b o L x hb=>r.byt b o L x (hs _ _ hb)
theorem St.sub(s:St P μ h w μ' h' w')(hs:Sub h'' h'):St P μ h w μ' h'' w' :=
 ⟨s.le,s.rel.sub hs,s.size,s.kept,fun B ⟨b,o,L,hb,r⟩=>s.own B ⟨b,o,L,hs _ _ hb,r⟩,fun b hb=>s.fresh b (by
  cases e:h'' b with
  |none=>exact absurd e hb
  |some o=>rw[hs b o e];simp),s.os,s.tape,s.output⟩
def Eqv(w w':World):Prop:=w'.heap=w.heap∧w'.os=w.os∧w'.tape=w.tape∧w'.output=w.output
theorem R.eqv(r:R P μ h w)(e:w'.heap=w.heap):R P μ h w':=⟨r.fin,fun b o hb=>by rw[e];exact r.at_ b o hb,r.inj,r.glob,fun b o L x hb hL hx=>r.byt b o L x hb hL (by rw[← e];exact hx)⟩
theorem St.eqv(s:St P μ h w μ' h' w')(e:Eqv w' w''):St P μ h w μ' h' w'' :=
 ⟨s.le,s.rel.eqv e.1,by rw[e.1];exact s.size,fun B hB ho=>by rw[e.1];exact s.kept B hB ho,s.own,s.fresh,e.2.1.trans s.os,e.2.2.1.trans s.tape,e.2.2.2.trans s.output⟩
theorem vY(w:World):Eqv w w.drew:=⟨rfl,rfl,rfl,rfl⟩
theorem sQ(w:World)(x:Obj):(w.alloc x).heap[w.heap.size]?=some x:=by
 show(w.heap.push x)[w.heap.size]?=_
 simp
theorem alloc_old(w:World)(x:Obj){B:Nat}(hB:B<w.heap.size):(w.alloc x).heap[B]?=w.heap[B]?:=by
 show(w.heap.push x)[B]?=_
 rw[Array.getElem?_push];simp[Nat.ne_of_lt hB]
theorem St.newP(r:R P μ h w)(x:Obj)(o:AObj)(n:Nat)(p:Nat→Prop)(hp:∀N0,∃N,N0≤N∧p N∧Tag P N ⟨w.heap.size,0,n⟩ x)(ho:∀b,μ b=none→OR P (fun i=>if i=b then some ⟨w.heap.size,0,n⟩else μ i) ⟨w.heap.size,0,n⟩ o x):
  ∃b,μ b=none∧h b=none∧(∀b',h b'≠none→b≠b')∧p b∧St P μ h w (fun i=>if i=b then some ⟨w.heap.size,0,n⟩else μ i) (hadd h b o) (w.alloc x):=by
 obtain⟨N0,hN0⟩:=r.fin;obtain⟨N,hNN,hpN,htag⟩:=hp N0;have hN:∀b,N≤b→μ b=none:=fun b hb=>hN0 b (by omega);have hb:μ N=none:=hN N (Nat.le_refl _);have hh:h N=none:=by
  cases e:h N with
  |none=>rfl
  |some o=>obtain⟨L,_,e',_⟩:=r.at_ N o e;rw[hb]at e';cases e'
 have hle:μ.le (fun i=>if i=N then some ⟨w.heap.size,0,n⟩else μ i):=fun b L e=>by
  have:b≠N:=fun e'=>by subst e';rw[hb]at e;cases e
  simp[this,e]
 refine⟨N,hb,hh,fun b' hb' e=>hb' (e ▸ hh),hpN,⟨hle,⟨⟨N+1,fun b hb=>?_⟩,fun b o' hb'=>?_,fun b b' o₁ o₂ L₁ L₂ h₁ h₂ hne e₁ e₂ hro=>?_,fun g hg=>let ⟨n,e⟩:=r.glob g hg;⟨n,hle g _ e⟩,fun b o' L y hb' hL hy=>?_⟩,by simp,fun B hB _=>?_,fun B hB=>?_,fun c hc=>?_,rfl,rfl,rfl⟩⟩
 ·have:b≠N:=by omega
  simp[this];exact hN b (by omega)
 ·by_cases e:b=N
  ·subst e;simp[hadd,hset]at hb';subst hb';exact⟨⟨w.heap.size,0,n⟩,x,by simp,sQ w x,ho _ hb⟩
  ·simp[hadd,hset,e]at hb';obtain⟨L,y,e1,e2,e3⟩:=r.at_ b o' hb';refine⟨L,y,by simp[e,e1],?_,e3.mono P hle⟩;rw[alloc_old w x (Array.getElem?_eq_some_iff.1 e2).1];exact e2
 ·by_cases c₁:b=N
  ·subst c₁;have c₂:b'≠b:=fun e=>hne e.symm;simp[hadd,hset,c₂]at h₂;simp at e₁;simp[c₂]at e₂;have:=r.lt h₂ e₂;subst e₁
   show w.heap.size≠L₂.B
   omega
  ·simp[hadd,hset,c₁]at h₁;simp[c₁]at e₁
   by_cases c₂:b'=N
   ·subst c₂;simp at e₂;have:=r.lt h₁ e₁;subst e₂
    show L₁.B≠w.heap.size
    omega
   ·simp[hadd,hset,c₂]at h₂;simp[c₂]at e₂;exact r.inj b b' o₁ o₂ L₁ L₂ h₁ h₂ hne e₁ e₂ hro
 ·by_cases e:b=N
  ·subst e;simp at hL;subst hL;rw[sQ]at hy;cases hy;exact htag
  ·simp[hadd,hset,e]at hb';simp[e]at hL;rw[alloc_old w x (r.lt hb' hL)]at hy;exact r.byt b o' L y hb' hL hy
 ·exact alloc_old w x hB
 ·obtain⟨b,o',L,h1,h2,h3,rfl⟩:=hB
  by_cases e:b=N
  ·subst e;simp at h3;subst h3;exact .inr (Nat.le_refl _)
  ·simp[hadd,hset,e]at h1;simp[e]at h3;exact .inl ⟨b,o',L,h1,h2,h3,rfl⟩
 ·by_cases e:c=N
  ·subst e;exact .inr ⟨hb,fun L e=>by simp at e;subst e;exact .inr (Nat.le_refl _)⟩
  ·simp[hadd,hset,e]at hc;exact .inl hc
theorem wF(N0:Nat):∃N,N0≤N∧¬isB N∧¬isW N:=⟨4*N0,by omega,by unfold isB;omega,by unfold isW;omega⟩
theorem vM(N0:Nat):∃N,N0≤N∧isB N∧¬isW N:=⟨2*(N0+1000)+1,by omega,by unfold isB;omega,by unfold isW;omega⟩
theorem OC(N0:Nat):∃N,N0≤N∧¬isB N∧isW N:=⟨4*(N0+1000)+2,by omega,by unfold isB;omega,by unfold isW;omega⟩
theorem St.newB(r:R P μ h w)(x:Obj)(o:AObj)(n:Nat)(by_:Bool)(hby:by_=true→BB P x)(ho:∀b,μ b=none→OR P (fun i=>if i=b then some ⟨w.heap.size,0,n⟩else μ i) ⟨w.heap.size,0,n⟩ o x):
  ∃b,μ b=none∧h b=none∧(∀b',h b'≠none→b≠b')∧(by_=true→isB b)∧St P μ h w (fun i=>if i=b then some ⟨w.heap.size,0,n⟩else μ i) (hadd h b o) (w.alloc x):=by
 refine St.newP r x o n _ (fun N0=>?_) ho;cases by_
 ·obtain⟨N,h1,h2,h3⟩:=wF N0;exact⟨N,h1,fun e=>(by cases e),fun e=>absurd e h2,fun e=>absurd e h3⟩
 ·obtain⟨N,h1,h2,h3⟩:=vM N0;exact⟨N,h1,fun _=>h2,fun _=>hby rfl,fun e=>absurd e h3⟩
theorem St.new(r:R P μ h w)(x:Obj)(o:AObj)(n:Nat)(ho:∀b,μ b=none→OR P (fun i=>if i=b then some ⟨w.heap.size,0,n⟩else μ i) ⟨w.heap.size,0,n⟩ o x):
  ∃b,μ b=none∧h b=none∧(∀b',h b'≠none→b≠b')∧St P μ h w (fun i=>if i=b then some ⟨w.heap.size,0,n⟩else μ i) (hadd h b o) (w.alloc x):=by
 obtain⟨b,h1,h2,h3,_,h4⟩:=St.newB r x o n false (fun e=>by cases e) ho;exact⟨b,h1,h2,h3,h4⟩
def Kp(P:Program)(y x:Obj):Prop:=(BB P y→BB P x)∧(WW P y→WW P x)
theorem Kp.no{y x:Obj}(hx:∀c el fr,x≠.cells c el fr):Kp P y x:=⟨fun _ c el fr e=>absurd e (hx c el fr),fun _ c el fr e=>absurd e (hx c el fr)⟩
theorem Kp.same{c c':Array Value}{el:TypeId}{fr fr':Nat × Nat}(hc:c'.size=c.size):Kp P (.cells c el fr) (.cells c' el fr'):=
 ⟨fun q _ _ _ e=>by cases e;exact q _ _ _ rfl,fun q _ _ _ e=>by cases e;rw[hc];exact q _ _ _ rfl⟩
theorem St.put(r:R P μ h w){b:Nat}{o o':AObj}{L:Loc}{x:Obj}(hb:h b=some o)(hro:o.ro=false)(hL:μ b=some L)
  (hsz:w'.heap.size=w.heap.size) (hx:w'.heap[L.B]?=some x) (hk:∀B,B≠L.B→w'.heap[B]?=w.heap[B]?) (he:w'.os=w.os∧w'.tape=w.tape∧w'.output=w.output) (ho:OR P μ L o' x) (hby:∀y,w.heap[L.B]?=some y→Kp P y x):
  St P μ h w μ (hadd h b o') w':=by
 refine⟨.refl _,⟨r.fin,fun c o₁ hc=>?_,fun c c' o₁ o₂ L₁ L₂ h₁ h₂ hne e₁ e₂ hr=>?_,r.glob,fun c o₁ L₁ y hc hL₁ hy=>?_⟩,by omega,fun B hB hO=>?_,fun B hB=>?_,fun c hc=>?_,he.1,he.2.1,he.2.2⟩
 ·by_cases e:c=b
  ·subst e;simp[hadd,hset]at hc;subst hc;exact⟨L,x,hL,hx,ho⟩
  ·simp[hadd,hset,e]at hc;obtain⟨L',y,a,b',c'⟩:=r.at_ c o₁ hc;exact⟨L',y,a,by rw[hk _ (fun e'=>r.inj b c o o₁ L L' hb hc (Ne.symm e) hL a hro e'.symm)];exact b',c'⟩
 ·by_cases c₁:c=b
  ·subst c₁;rw[hL]at e₁;cases e₁;have c₂:c'≠c:=fun e=>hne e.symm;simp[hadd,hset,c₂]at h₂;exact r.inj c c' o o₂ _ L₂ hb h₂ hne hL e₂ hro
  ·simp[hadd,hset,c₁]at h₁
   by_cases c₂:c'=b
   ·subst c₂;rw[hL]at e₂;cases e₂;exact r.inj c c' o₁ o L₁ _ h₁ hb hne e₁ hL hr
   ·simp[hadd,hset,c₂]at h₂;exact r.inj c c' o₁ o₂ L₁ L₂ h₁ h₂ hne e₁ e₂ hr
 ·by_cases e:c=b
  ·subst e;rw[hL]at hL₁;cases hL₁;rw[hx]at hy;cases hy;obtain⟨L',z,a1,a2,_⟩:=r.at_ c o hb;rw[hL]at a1;cases a1;have q:=r.byt c o L z hb hL a2;exact⟨fun h=>(hby z a2).1 (q.1 h),fun h=>⟨(q.2 h).1,(hby z a2).2 (q.2 h).2⟩⟩
  ·simp[hadd,hset,e]at hc;rw[hk _ (fun e'=>r.inj b c o o₁ L L₁ hb hc (Ne.symm e) hL hL₁ hro e'.symm)]at hy;exact r.byt c o₁ L₁ y hc hL₁ hy
 ·exact hk B fun e=>hO ⟨b,o,L,hb,hro,hL,e.symm⟩
 ·obtain⟨c,o₁,L₁,h1,h2,h3,rfl⟩:=hB
  by_cases e:c=b
  ·subst e;rw[hL]at h3;cases h3;exact .inl ⟨c,o,_,hb,hro,hL,rfl⟩
  ·simp[hadd,hset,e]at h1;exact .inl ⟨c,o₁,L₁,h1,h2,h3,rfl⟩
 ·by_cases e:c=b
  ·subst e;exact .inl (by simp[hb])
  ·simp[hadd,hset,e]at hc;exact .inl hc
end
section
open Go
theorem Ad(s:List UInt8):(⟨s.toArray⟩:ByteArray).toList=s:=ByteArray.toList_mk s
theorem bytes_beq(s t:List UInt8):((⟨s.toArray⟩:ByteArray)==⟨t.toArray⟩)=(s==t):=by
 show(s.toArray==t.toArray)=(s==t)
 simp
theorem dJ(s:List UInt8):(⟨s.toArray⟩:ByteArray).size=s.length:=by simp[ByteArray.size]
theorem bytes_append(s t:List UInt8):(⟨s.toArray⟩:ByteArray)++⟨t.toArray⟩=⟨(s++t).toArray⟩:=by
 apply ByteArray.ext;simp
theorem jV(s:List UInt8)(i j:Nat):(⟨s.toArray⟩:ByteArray).extract i j=⟨((s.take j).drop i).toArray⟩:=by
 apply ByteArray.ext;rw[ByteArray.data_extract];simp[List.extract_eq_take_drop,List.drop_take]
variable{P:Program}{μ:Mu}{w:World}
theorem mY{op:BinOp}{x y v:V}{dx dy:Value}(hx:VR μ x dx)(hy:VR μ y dy)(he:bK op x y=some v)(t:TypeId)(xo yo:Operand):
  ∃d,VR μ v d∧(do eqGuard op t xo yo dx dy;binOp op t dx dy:Sem Value).run P w=.ok d w:=by
 cases hx with
 |int k a =>
   cases hy with
   |int k' b =>
     rw[eqGuard_at_int];simp only[Sem.run_bind,Sem.run_pure,Result.andThen_ok];cases op<;>simp only[bK]at he
     case shl|shr =>
      split at he
      ·cases he
      ·rename_i hb;cases he;exact⟨_,.int _ _,by simp[binOp,Op.shift,hb]⟩
     case quo|rem =>
      split at he
      ·subst_vars
       split at he
       ·cases he
       ·rename_i hb;cases he;exact⟨_,.int _ _,by simp[binOp,Op.intDiv,hb]⟩
      ·cases he
     all_goals
      split at he
      ·subst_vars
       cases he
       first
        |exact⟨_,.int _ _,by simp[binOp,Op.intArith,Op.intBits,Op.intCmp]⟩
        |exact⟨_,.bool _,by simp[binOp,Op.intArith,Op.intBits,Op.intCmp]⟩
      ·cases he
   |_=>simp[bK]at he
 |str a =>
   cases hy with
   |str b =>
     rw[eqGuard_at_string];simp only[Sem.run_bind,Sem.run_pure,Result.andThen_ok];cases op<;>simp only[bK]at he
     case add =>
      split at he
      ·rename_i hl;cases he;refine⟨_,.str _,?_⟩;have h1:¬((((⟨a.toArray⟩:ByteArray).size+(⟨b.toArray⟩:ByteArray).size:Nat):Int)>IntKind.i64.max):=by
        rw[dJ,dJ,IntKind.max_i64];omega
       simp only[binOp,Op.stringOp];rw[if_neg h1,bytes_append];rfl
      ·cases he
     all_goals first
      |(cases he;exact⟨_,.bool _,by simp only[binOp,Op.stringOp,Ad];rfl⟩)
      |cases he
   |_=>simp[bK]at he
 |_=>simp[bK]at he
theorem au{t:TypeId}{d:TypeDesc}(h:P.underlying t=some d)(w:World):(underlying t).run P w=.ok d w:=run_underlying h w
def EqT(P:Program)(t:TypeId):EqC→Prop
 |.int=>∃k,P.underlying t=some (.int k)
 |.str=>P.underlying t=some .string
 |.bool=>P.underlying t=some .bool
 |.ptr=>∃e s,P.underlying t=some (.pointer e)∧fZ P e=some s∧s≠0
 |.sl=>∃e,P.underlying t=some (.slice e)
 |.map=>∃k e,P.underlying t=some (.map k e)
 |.fn=>∃a b c,P.underlying t=some (.func a b c)
 |.iface=>∃ms,P.underlying t=some (.interface ms)
theorem run_typeInfo_some{t:TypeId}{i:TypeInfo}(h:P.info? t=some i)(w:World):(typeInfo t).run P w=.ok i w:=by
 simp[typeInfo,h]
theorem run_sizeOf{t:TypeId}{s:Nat}(h:fZ P t=some s)(w:World):(Go.sizeOf t).run P w=.ok s w:=by
 unfold fZ at h;cases hi:P.info? t with
 |none=>simp[hi]at h
 |some i=>simp[hi]at h;simp[Go.sizeOf,run_typeInfo_some hi,h]
theorem jC{c:EqC}{x y:V}{b:Bool}{dx dy:Value}{t:TypeId}(ht:EqT P t c)(hx:VR μ x dx)(hy:VR μ y dy)(he:eQ c x y=some b)(n:Nat):
  (Op.equalIn (n+1) t dx dy).run P w=.ok b w:=by
 cases c<;>cases hx<;>simp only[eQ]at he<;>(try cases he;done)<;>cases hy<;>simp only[eQ]at he<;>(try cases he;done)
 case int.int.int =>
  obtain⟨k,hk⟩:=ht;split at he
  ·rename_i e;cases he;simp[Op.equalIn,au hk,e]
  ·cases he
 case str.str.str=>cases he;simp only[EqT]at ht;simp[Op.equalIn,au ht,bytes_beq]
 case bool.bool.bool=>cases he;simp only[EqT]at ht;simp[Op.equalIn,au ht]
 case ptr.ptr.ptr b1 o1 L1 h1 b2 o2 L2 h2 =>
  obtain⟨e,s,hk,hs,h0⟩:=ht;split at he
  ·rename_i e';subst e';rw[h1]at h2;cases h2;cases he;simp[Op.equalIn,au hk,run_sizeOf hs,h0,sameAddr,Addr.mk.injEq];rw[Bool.eq_iff_iff];simp
  ·cases he
 all_goals first
  |(obtain⟨e,s,hk,hs,h0⟩:=ht;cases he;simp[Op.equalIn,au hk,run_sizeOf hs,h0];done)
  |(obtain⟨e,hk⟩:=ht;cases he;simp[Op.equalIn,au hk];done)
  |(obtain⟨k,e,hk⟩:=ht;cases he;simp[Op.equalIn,au hk];done)
  |(obtain⟨a,b,c,hk⟩:=ht;cases he;simp[Op.equalIn,au hk];done)
end
section
open Go
variable{P:Program}{μ:Mu}{w:World}
theorem jy{t:TypeId}{c:EqC}(h:vW P t=some c):EqT P t c∧∃d,P.underlying t=some d∧(∀fs,d≠.struct fs)∧(∀k e,d≠.array k e):=by
 unfold vW at h;split at h<;>cases h
 ·rename_i e;exact⟨e,_,e,by simp,by simp⟩
 ·rename_i k e;exact⟨⟨_,e⟩,_,e,by simp,by simp⟩
 ·rename_i e;exact⟨e,_,e,by simp,by simp⟩
theorem jf{t:TypeId}{d:TypeDesc}(h:P.underlying t=some d)(h1:∀fs,d≠.struct fs)(h2:∀k e,d≠.array k e):(isAgg t).run P w=.ok false w:=by
 simp only[isAgg,Sem.run_bind,au h,Result.andThen_ok];cases d with
 |struct fs=>exact absurd rfl (h1 fs)
 |array k e=>exact absurd rfl (h2 k e)
 |_=>rfl
theorem pG{t:TypeId}{n:Nat}{g:Bool}(h:szA P t=some (n,g)):(isAgg t).run P w=.ok g w:=by
 unfold szA at h;cases hs:fZ P t with
 |none=>simp[hs]at h
 |some s =>
   cases hu:P.underlying t with
   |none=>simp[hs,hu]at h
   |some d =>
     cases d<;>simp[hs,hu]at h<;>obtain⟨rfl,rfl⟩:=h<;>simp[isAgg,au hu]
theorem x8{t:TypeId}{n:Nat}{g:Bool}(h:szA P t=some (n,g)):fZ P t=some n:=by
 unfold szA at h;split at h<;>cases h<;>assumption
theorem Df(n:Nat):∀(fs:List Field) (i:Nat) (cs:List EqC) (xs ys:List V) (dx dy:List Value) (b:Bool),
  pU P fs i=some cs→VRs μ xs (dx.drop i)→VRs μ ys (dy.drop i)→fF cs xs ys=some b →
  (Op.eqFields (n+1) dx.toArray dy.toArray fs).run P w=.ok b w:=by
 intro fs;induction fs with
 |nil =>
   intro i cs xs ys dx dy b hc hx hy he;simp only[pU]at hc;cases hc;cases xs<;>cases ys<;>simp only[fF]at he<;>cases he;simp[Op.eqFields]
 |cons f fs ih =>
   intro i cs xs ys dx dy b hc hx hy he;simp only[pU]at hc;split at hc
   ·rename_i hf;split at hc
    ·rename_i c cs' h1 h2;cases hc;cases xs with
     |nil=>simp[fF]at he
     |cons x xs =>
       cases ys with
       |nil=>simp[fF]at he
       |cons y ys =>
         obtain⟨hT,d,hd,hn1,hn2⟩:=jy h1;have gx:=hx.get (i:=0) (a:=x) (by simp);have gy:=hy.get (i:=0) (a:=y) (by simp);obtain⟨vx,ex,rx⟩:=gx;obtain⟨vy,ey,ry⟩:=gy;simp at ex ey;have tx:VRs μ xs (dx.drop (i+1)):=by simpa using hx.drop 1
         have ty:VRs μ ys (dy.drop (i+1)):=by simpa using hy.drop 1
         have px:(part f.type dx.toArray f.offset).run P w=.ok vx w:=by simp[part,jf hd hn1 hn2,hf.2,ex]
         have py:(part f.type dy.toArray f.offset).run P w=.ok vy w:=by simp[part,jf hd hn1 hn2,hf.2,ey]
         simp only[fF]at he;simp only[Op.eqFields,ne_eq,hf.1,not_false_eq_true,if_true,Sem.run_bind,px,py,Result.andThen_ok];cases hc1:eQ c x y with
         |none=>simp[hc1]at he
         |some r =>
           rw[jC hT rx ry hc1];cases r
           ·simp[hc1]at he;subst he;simp
           ·simp[hc1]at he;simpa using ih (i+1) cs' xs ys dx dy b h2 tx ty he
    ·cases hc
   ·cases hc
theorem oG{t:TypeId}{cs:List EqC}{xs ys:List V}{dx dy:Value}{b:Bool}(hs:fC P t=some cs)(hx:VR μ (.agg xs) dx)(hy:VR μ (.agg ys) dy)
  (he:fF cs xs ys=some b) (n:Nat):(Op.equalIn (n+2) t dx dy).run P w=.ok b w:=by
 obtain⟨ds,rfl,h1⟩:=hx.agg_inv;obtain⟨es,rfl,h2⟩:=hy.agg_inv;unfold fC at hs;split at hs
 ·rename_i fs hu;split at hs
  ·rename_i hc;have hf:P.fieldsOf t=fs:=by simp[Program.fieldsOf,hu]
   rw[run_equalIn_struct w (n+1) t _ _ (by rw[hf];exact hu) hc.1,hf];exact Df n fs.toList 0 cs xs ys ds es b hs (by simpa using h1) (by simpa using h2) he
  ·cases hs
 ·cases hs
theorem xu{t:TypeId}{off n:Nat}{g:Bool}{cs:List V}{ds:List Value}{v:V}(hz:szA P t=some (n,g))(hv:VRs μ cs ds)(he:partOf off n g cs=some v):
  ∃d,VR μ v d∧(part t ds.toArray off).run P w=.ok d w:=by
 unfold partOf at he;cases g with
 |true =>
   simp only[if_true]at he;split at he
   ·cases he;refine⟨_,VR.mkAgg ((hv.drop off).take n),?_⟩;simp only[part,Sem.run_bind,pG hz,Result.andThen_ok,if_true,run_sizeOf (x8 hz),Sem.run_pure];congr 2;apply Array.toList_inj.1;simp[List.extract_eq_take_drop]
   ·cases he
 |false =>
   simp only[Bool.false_eq_true,if_false]at he;obtain⟨d,hd,hr⟩:=hv.get he;exact⟨d,hr,by simp[part,pG hz,hd]⟩
theorem foldl_set(l:List Value):∀(k off:Nat) (cells:Array Value),off+k+l.length≤cells.size →
  ((l.zipIdx k).foldl (fun cs (x:Value × Nat)=>cs.setIfInBounds (off+x.2) x.1) cells).toList=cells.toList.take (off+k)++l++cells.toList.drop (off+k+l.length):=by
 induction l with
 |nil=>intro k off cells _;simp
 |cons v l ih =>
   intro k off cells h;simp only[List.length_cons]at h;simp only[List.zipIdx_cons,List.foldl_cons];rw[ih (k+1) off _ (by simp;omega)];simp only[Array.toList_setIfInBounds,List.length_cons];rw[show off+(k+1)=off+k+1 from by omega];rw[List.take_set,List.drop_set];have hlt:off+k<cells.toList.length:=by simp;omega
   rw[if_pos (by omega)];have:(cells.toList.take (off+k+1)).set (off+k) v=cells.toList.take (off+k)++[v]:=by
    rw[List.take_succ_eq_append_getElem hlt];have hm:(cells.toList.take (off+k)).length=off+k:=by rw[List.length_take];omega
    rw[List.set_append_right _ _ (by omega),hm];simp
   rw[this];simp;congr 1;omega
theorem qp{ρ:Opd→V}{ρ':Operand→Value}{n:Nat}(hρ:∀x y,aH P n x=some y→VR μ (ρ y) (ρ' x))(place:Nat→Option (Nat × Nat)):
  ∀(ps:List (Nat × Operand)) (qs:List (Nat × Nat × Opd)) (cs:List V) (ds:List Value) (r:List V),iG P n place ps=some qs→VRs μ cs ds→di ρ cs qs=some r →
  ∃es,Instr.fill place ds.toArray (ps.map fun p=>(p.1,ρ' p.2))=some es.toArray∧VRs μ r es:=by
 intro ps;induction ps with
 |nil =>
   intro qs cs ds r hc hv he;simp only[iG]at hc;cases hc;simp only[di]at he;cases he;exact⟨ds,by simp[Instr.fill],hv⟩
 |cons p ps ih =>
   intro qs cs ds r hc hv he;obtain⟨i,x⟩:=p;simp only[iG]at hc;split at hc
   ·rename_i o s y qs' h1 h2 h3;cases hc;simp only[di]at he;split at he
    ·rename_i hcond;obtain⟨hl,hle,hflat⟩:=hcond;obtain⟨vs,hvs,hvr⟩:=(hρ x y h2).cells hflat;have hlen:=hvr.len;have hlen2:=hv.len;simp only[List.map_cons,Instr.fill,h1,hvs];rw[if_neg (by simp;omega)];have hf:(vs.toArray.zipIdx.foldl (fun cs (x:Value × Nat)=>cs.setIfInBounds (o+x.2) x.1) ds.toArray)=(ds.take o++vs++ds.drop (o+s)).toArray:=by
      apply Array.toList_inj.1;rw[← Array.foldl_toList,Array.toList_zipIdx];have:=foldl_set vs 0 o ds.toArray (by simp;omega);simp only[Nat.add_zero]at this;rw[this];simp;omega
     rw[hf];exact ih qs' _ _ r h3 (((hv.take o).append hvr).append (hv.drop (o+s))) he
    ·cases he
   ·cases hc
theorem jk{ρ:Opd→V}{ρ':Operand→Value}{n:Nat}(hρ:∀x y,aH P n x=some y→VR μ (ρ y) (ρ' x)){l h:Option Operand}{l' h':Option Opd}
  (hl:uU P n l=some l') (hh:uU P n h=some h') {len cap i j:Nat} (hle:len≤cap) (he:fK ρ len l' h'=some (i,j)) (b:Bool):
  (Instr.sliceBounds b len cap (l.map ρ') (h.map ρ') none).run P w=.ok (i,j,cap) w∧i≤j∧j≤len:=by
 have key:∀(x:Operand) (y:Opd) (k:IntKind) (z:Int),aH P n x=some y→ρ y=.int k z→ρ' x=.int k z:=by
  intro x y k z hx hy;have:=hρ x y hx;rw[hy]at this;generalize ρ' x=q at this;cases this;rfl
 unfold fK at he;cases h with
 |none =>
   simp only[uU]at hh;cases hh;simp only at he;cases l with
   |none =>
     simp only[uU]at hl;cases hl;cases he;simp[Instr.sliceBounds]
   |some x =>
     simp only[uU]at hl;cases hx:aH P n x with
     |none=>simp[hx]at hl
     |some y =>
       simp[hx]at hl;subst hl;simp only at he;cases hy:ρ y<;>simp[hy]at he;rename_i k z;obtain⟨h1,rfl,rfl⟩:=he;refine⟨?_,by omega,by omega⟩;simp[Instr.sliceBounds,Instr.sliceBound,key x y k z hx hy,asIntOf,h1]
 |some x₂ =>
   simp only[uU]at hh;cases hx₂:aH P n x₂ with
   |none=>simp[hx₂]at hh
   |some y₂ =>
     simp[hx₂]at hh;subst hh;simp only at he;cases hy₂:ρ y₂<;>simp[hy₂]at he;rename_i k₂ z₂;split at he
     ·cases he
     ·rename_i jj hjj;split at hjj
      ·rename_i hz;cases hjj;have e2:=key x₂ y₂ k₂ z₂ hx₂ hy₂;cases l with
       |none =>
         simp only[uU]at hl;cases hl;cases he;refine⟨?_,by omega,by omega⟩;have:0≤z₂∧z₂≤(cap:Int):=by omega
         simp[Instr.sliceBounds,Instr.sliceBound,e2,asIntOf,this]
       |some x =>
         simp only[uU]at hl;cases hx:aH P n x with
         |none=>simp[hx]at hl
         |some y =>
           simp[hx]at hl;subst hl;simp only at he;cases hy:ρ y<;>simp[hy]at he;rename_i k z;obtain⟨h1,rfl,rfl⟩:=he;refine⟨?_,by omega,by omega⟩;have h2:0≤z₂∧z₂≤(cap:Int):=by omega
           have h3:0≤z∧z≤max z₂ 0:=by omega
           simp[Instr.sliceBounds,Instr.sliceBound,e2,key x y k z hx hy,asIntOf,h2,h3]
      ·cases hjj
theorem MK(mx:Bool){x y v:V}{dx dy:Value}(hx:VR μ x dx)(hy:VR μ y dy)(he:Kr mx x y=some v):
  ∃d,VR μ v d∧(if mx then Builtin.max2 dx dy else Builtin.min2 dx dy).run P w=.ok d w:=by
 cases hx<;>simp only[Kr]at he<;>(try cases he;done);cases hy<;>simp only[Kr]at he<;>(try cases he;done);split at he
 ·subst_vars;cases he
  refine⟨_,.int _ _,?_⟩;cases mx<;>simp[Builtin.max2,Builtin.min2]
 ·cases he
theorem zh(mx:Bool):∀(xs:List V) (dxs:List Value) (x v:V) (dx:Value),VRs μ xs dxs→VR μ x dx→uu mx x xs=some v →
  ∃d,VR μ v d∧(dxs.foldlM (if mx then Builtin.max2 else Builtin.min2) dx).run P w=.ok d w:=by
 intro xs;induction xs with
 |nil =>
   intro dxs x v dx hs hx he;cases hs;simp only[uu]at he;cases he;exact⟨dx,hx,by simp⟩
 |cons y ys ih =>
   intro dxs x v dx hs hx he;cases hs with
   |cons hy hys =>
     simp only[uu]at he;split at he
     ·rename_i u hu;obtain⟨d,hd,hr⟩:=MK (P:=P) (w:=w) mx hx hy hu;obtain⟨d',hd',hr'⟩:=ih _ u v d hys hd he;refine⟨d',hd',?_⟩;cases mx<;>simp at hr hr'⊢<;>rw[hr]<;>simpa using hr'
     ·cases he
theorem lU{ρ:Opd→V}{ρ':Operand→Value}{n:Nat}(hρ:∀x y,aH P n x=some y→VR μ (ρ y) (ρ' x)):∀(xs:List Operand) (ys:List Opd),jZ P n xs=some ys→VRs μ (ys.map ρ) (xs.map ρ')
 |[],ys,h=>by simp only[jZ]at h;cases h;exact .nil
 |x::xs,ys,h=>by
   simp only[jZ]at h;split at h
   ·rename_i y ys' h1 h2;cases h;exact .cons (hρ x y h1) (lU hρ xs ys' h2)
   ·cases h
end

end Mir
