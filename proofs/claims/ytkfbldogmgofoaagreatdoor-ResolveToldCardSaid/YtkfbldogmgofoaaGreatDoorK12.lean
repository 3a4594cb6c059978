/- ResolveTold: for every input the law's function returns true and its arguments read as before. -/
import Derived.ChangeMaps5
import Derived.ChangeSame
import Derived.ChangeVars
import Derived.HandedShaped
import Derived.JoinedAt
import Derived.JoinedOf
import Derived.LaidLaws
import Derived.Lib.LaidTab
import Derived.ProofKit
import Derived.RowKit
import Derived.RowKit3
import Derived.RowKitTokens
import Derived.SevenTiedAt
import Derived.Shelf.Vars
import Derived.SizedLaws
import Derived.SliceStrings
import Derived.Stop.LaidErr
import Derived.Test.YtkfbldogmgofoaaGreatDoorCards
import Derived.Test.YtkfbldogmgofoaaGreatDoorTie
import Derived.Test.YtkfbldogmgofoaaGreatDoorK11
set_option linter.unusedSimpArgs false
set_option linter.unusedVariables false
namespace Go.Proofs.YtkfbldogmgofoaaGreatDoor
section
open Mir Go.ChangeShapes Go.WideShapes Go.ChangeAt Go.RowKit
theorem yz{H:Type}{enc:TypeId × Value→H}{a:Assume}{C:Checked}{os:Os}{f:FuncId}{fn:Func}{s:ChangeSpec}{conds:List PathCond}{apart fresh handsOn again:Bool}{X:World→Array Value→Prop}
  (hX:∀(w w':World) (args:Array Value),w.heap=w'.heap→X w args→X w' args)
  (own:ownKnob C.prog.godebug=none) (started:os.Started) (noInit:C.prog.inits.idxOf? f=none) (hfn:C.prog.funcs[f]?=some fn)
  (witness:∃(w:World) (tape:Tape) (i:Input),w.os=os∧(w.forCall tape i).Shaped C.prog∧i.vars=[]∧Input.okWide C.prog (w.forCall tape i) .any w.heap.size f i ∧
   ((s.pre enc C.prog fn conds apart (w.forCall tape i).memory i.args∧X (w.forCall tape i).memory i.args)∧sizedMet enc C.prog fn (OpenSpec.ofChange s) apart (w.forCall tape i).memory i.args)∧a.holds C.prog (lone (Frame.enter C.prog f i.args .normal) [] (w.forCall tape i)))
  (contract:∀(W:World) (base:Nat) (args:Array Value) (ds gs:List (DataW H)) (before:List MemPlace),
   (∀(j:Nat) t v,fn.params[j]?=some t→args[j]?=some v→Value.okWide C.prog W .any base t v) →
   DataW.Whole enc C.prog fn.params.toList s.vars apart W args.toList ds gs before →
   conds.all (PathCond.test C.prog ⟨fn.params.toList,ds,s.plain.varTypes C.prog,gs⟩)=true →
   X W args→W.ShapedOpen C.prog →
   Calls C.prog f args W fun e W'=>∃v,e=.returned v∧s.post enc C.prog fn apart fresh handsOn again W args v W'):
  ReturnsInHanded a C os f .any (fun w args=>(s.pre enc C.prog fn conds apart w args∧X w args)∧sizedMet enc C.prog fn (OpenSpec.ofChange s) apart w args) (s.post enc C.prog fn apart fresh handsOn again):=by
 refine returnsInHanded_of_calls own started noInit witness ?_;intro w tape i _ hsh _ hok hpre hholds;obtain⟨_,_,_,fn',hfn',_,_,_,_,hval⟩:=hok;have e:fn'=fn:=Option.some.inj (hfn'.symm.trans hfn);subst e;obtain⟨⟨⟨ds,gs,before,hw,hc⟩,hx⟩,hz⟩:=hpre;have hw':=DataW.Whole.of_heap (w':=w.forCall tape i) (by rfl) hw;refine(contract (w.forCall tape i) w.heap.size i.args ds gs before hval hw' hc (hX _ _ _ (by rfl) hx) hsh).mono fun e W' ⟨v,he,hp⟩=>?_;subst he;exact ChangeSpec.post_blind hp
theorem addr_eq{a:Addr}(h:a.spot=none):a=⟨a.block,a.off,none⟩:=by cases a;simp at h;subst h;rfl
theorem Az{P:Program}{W:World}{n:String}{g:Nat}{cs:Array Value}(hg:P.globalNamed n=some g)(h:W.var? P n=some cs):∃t fr,W.heap[g]?=some (.cells cs t fr):=by
 unfold World.var? at h;rw[hg,Option.bind_some]at h;cases hx:W.heap[g]? with
 |none=>simp[hx]at h
 |some o =>
   cases o with
   |cells c t fr=>simp[hx]at h;subst h;exact⟨t,fr,rfl⟩
   |_=>simp[hx]at h
structure TextsAt(W:World)(g:Nat)(ss:List (List UInt8))(L:Mir.Loc):Prop where
 row:∃c el fr,W.heap[L.B]?=some (.cells c el fr)∧c.size=L.n∧L.s+ss.length≤L.n∧∀i s,ss[i]?=some s→c[L.s+i]?=some (.string ⟨s.toArray⟩)
 var:∃v t fr,W.heap[g]?=some (.cells #[v] t fr)∧v.oneCell'=true∧∀(μ:Mu) (b:Nat),μ b=some L→VR μ (.sl b 0 1 ss.length) v
theorem lF{P:Program}{W:World}{n:String}{ss:List (List UInt8)}{r:List (String × DataW Unit)}{g:Nat}{t e:TypeId}{zero:Array Value}
  (h:laidMet P ((n,.slice (ss.map fun s=>.lit (.string s)) [])::r) W) (hsh:W.ShapedOpen P) (hg:P.globalNamed n=some g) (ht:(P.globals[g]?).map (·.type)=some t) (hu:P.underlying t=some (.slice e)) (he:P.underlying e=some .string) (hce:P.cellsOf e=1)
  (hlt:g<P.globals.size) (h0:((begin P (fun _ _=>0) default).world.heap[g]?).bind Obj.row?=some (zero,t)) (hz:zero.size=1) (hb:P.buildable t=true) (hc:P.cellTypes P.depth t=some [t]) (hss:ss≠[]):∃L,TextsAt W g ss L:=by
 obtain⟨ps,⟨g0,t0,cs0,f0,p0,q0,hg0,ht0,hv0,hd0,_,e0⟩,_,hrows⟩:=h;obtain rfl:=Option.some.inj (hg.symm.trans hg0);obtain rfl:=Option.some.inj (ht.symm.trans ht0);obtain⟨t',fr',hh⟩:=Az hg hv0;rcases open_strings hu he hce hd0 with⟨hcs,hx⟩|⟨a,len,cap,xs,hcs,_,hl,hm,hlen,hx,hcell,hsz⟩
 ·have:=congrArg Prod.fst hx;cases this
 ·simp only[if_true]at hlen;have hx1:=congrArg Prod.fst hx;simp only[DataW.slice.injEq]at hx1;obtain⟨hx1,hx2⟩:=hx1;have hcl:cap=len:=by
   have:=congrArg List.length hx2;simp only[strs,List.length_map,List.length_nil,List.length_drop]at this;omega
  subst hcl;have hxs:xs.map (fun s=>s.data.toList)=ss:=by
   rw[List.take_of_length_le (by omega)]at hx1;have:=congrArg (List.map fun(d:DataW Unit)=>match d with|.lit (.string s)=>s|_=>[]) hx1;simp only[strs,List.map_map]at this;simpa[Function.comp_def]using this.symm
  have hsl:ss.length=xs.length:=by rw[← hxs];simp
  obtain⟨cs,hh2,hs2,hr2⟩:=hsh.1 g zero t hlt h0;rw[hh]at hh2;simp only[Option.some.injEq,Obj.cells.injEq]at hh2;obtain⟨rfl,_,_⟩:=hh2;obtain⟨ts,hts,_,hall⟩:=hr2 hb;rw[hc]at hts;cases hts;have hcs':cs0=#[.slice (some a) cap cap]:=by apply Array.toList_inj.1;rw[hcs]
  subst hcs';obtain⟨u,hu',hok⟩:=hall 0 (.slice (some a) cap cap) rfl;have:u=t:=by simpa using hu'.symm
  subst this;have hsp:a.spot=none:=by
   simp only[Cell.ok,hu,World.has]at hok;exact hok.2.2.2.1
  have hpos:0<xs.length:=by rw[← hsl];exact List.length_pos_iff.2 hss
  have key:∀i,(a.add i)=⟨a.block,a.off+i,none⟩:=fun i=>by
   unfold Addr.add;split
   ·rename_i e;subst e;exact addr_eq hsp
   ·rfl
  have hblk:∃c el fr,W.heap[a.block]?=some (.cells c el fr)∧∀i,i<xs.length→c[a.off+i]?=some (.string (xs.getD i ByteArray.empty)):=by
   have hc0:=hcell 0 hpos;rw[key]at hc0;unfold World.cell? at hc0;split at hc0
   ·rename_i c el fr e;refine⟨c,el,fr,e,fun i hi=>?_⟩;have:=hcell i hi;rw[key]at this;unfold World.cell? at this;simp only[e,Option.isSome_none,Bool.false_eq_true,if_false]at this;exact this
   ·cases hc0
  obtain⟨c,el,fr,hbk,hcs⟩:=hblk;have hend:a.off+xs.length≤c.size:=by
   have:=hcs (xs.length-1) (by omega);have:=(Array.getElem?_eq_some_iff.1 this).1;omega
  refine⟨⟨a.block,a.off,c.size⟩,⟨c,el,fr,hbk,rfl,by show a.off+ss.length≤c.size;omega,fun i s hi=>?_⟩,⟨_,t',fr',hh,rfl,fun μ b hμ=>?_⟩⟩
  ·rw[← hxs,List.getElem?_map]at hi;cases hxi:xs[i]? with
   |none=>rw[hxi]at hi;cases hi
   |some x =>
     rw[hxi,Option.map_some,Option.some.injEq]at hi;have hil:=(List.getElem?_eq_some_iff.1 hxi).1
     show c[a.off+i]?=_
     rw[hcs i hil,List.getD_eq_getElem?_getD,hxi,← hi];simp
  ·rw[addr_eq hsp];have:=VR.sl (μ:=μ) (b:=b) (o:=0) (es:=1) (len:=ss.length) (o':=0) (cap:=cap) hμ (by simp) (by omega) (by simp;omega) (by omega);have e:ss.length=cap:=by omega
   rw[e]at this;rw[e];simpa using this
theorem U2{P:Program}{μ:Mu}{h:H}{w:World}(hfin:∃N,∀b,N≤b→μ b=none)(hglob:∀g,g<P.globals.size→∃n,μ g=some ⟨g,0,n⟩)
  (hat:∀b o,h b=some o→b<1000∧o.ro=true∧∃L x,μ b=some L∧w.heap[L.B]?=some x∧OR P μ L o x):R P μ h w:=by
 refine⟨hfin,fun b o hb=>(hat b o hb).2.2,fun b b' o o' L L' hb hb' hne h1 h2 hro=>?_,hglob,fun b o L x hb hL hx=>⟨fun hB=>?_,fun hW=>?_⟩⟩
 ·rw[(hat b o hb).2.1]at hro;cases hro
 ·have:=(hat b o hb).1;have:=hB.2;omega
 ·have:=(hat b o hb).1;have:=hW.2;omega
theorem SG{f:Nat}{g:Mir.Fn}(hg:pg.fns f=some g){args:List V}{args':List Value}{μ:Mu}{h:H}{w:World}(hv:VRs μ args args')(hro:∀b o,h b=some o→o.ro=true)
  (hA:AC pg (.fn f) args h fun v _=>v=.bool true) (r:R Tryz.prog μ h w):
  Calls Tryz.prog f args'.toArray w fun e w'=>e=.returned (.bool true)∧Below w.heap.size w w':=by
 refine(JL UL hg hA hv r).mono fun e w' ⟨d,he,v,h',μ',hq,hd,st⟩=>?_;subst hq;rw[hd.bool_inv]at he;refine⟨he,st.os,st.tape,st.output,st.size,fun k hk=>st.kept k hk ?_⟩;rintro⟨b,o,L,hb,hr,_⟩;rw[hro b o hb]at hr;cases hr
theorem Tryz.own:ownKnob Tryz.prog.godebug=none:=by kernel_rfl
section
variable{H:Type}{enc:TypeId × Value→H}{P:Program}
theorem yC{f:Func}{s:ChangeSpec}{apart fresh handsOn again:Bool}{W W':World}{args:Array Value}{v:Value}{ds gs:List (DataW H)}
  (hW:DataW.Whole enc P f.params.toList s.vars apart W args.toList ds gs [])
  (hres:∀(b:Nat) (sp:Nat→Bool) (hd:Bool),DataW.TrodAll enc P W' b sp hd f.resultTypes.toList (v.resultList f.resultTypes.size) (s.fn H (ds++gs)).results [])
  (hargs:∀sp:Nat→Bool,DataW.TrodAll enc P W' 0 sp true f.params.toList args.toList (s.fn H (ds++gs)).args [])
  (hvars:∀sp:Nat→Bool,DataW.TrodVars enc P W' sp s.vars (s.fn H (ds++gs)).vars [])
  (hb:Below W.heap.size W W')
  (hok:∀(j:Nat) (t:TypeId) (r:Value),f.resultTypes[j]?=some t→(v.resultList f.resultTypes.size)[j]?=some r→Value.okWide P W' .any 0 t r):
  s.post enc P f apart fresh handsOn again W args v W':=by
 refine⟨ds,gs,[],[],[],[],hW,hres _ _ _,hargs _,hvars _,hb.frame _,fun _=>?_⟩;refine⟨hok,_,_,([]++[])++[],⟨[]++[],[],trodAll_append (hargs _) (hres _ _ _),hvars _,rfl,?_,?_⟩,?_⟩
 ·intro b off hp;simp at hp
 ·intro _;simp
 ·intro p hp;simp at hp
end
end
section
open Mir Go.ChangeShapes Go.WideShapes Go.ChangeAt Go.RowKit
def specialT:List (List UInt8):=[[78,82],[78,70],[70,83],[79,70,83],[79,82,83],[70,73,76,69,78,65,77,69],[82,83,84,65,82,84],[82,76,69,78,71,84,72]]
abbrev wP:List (String × DataW Unit):=[("scribe/lex.words",Rows.laid_scribe_lex_words),("scribe/lex.builtins",Rows.laid_scribe_lex_builtins),("scribe/lex.banned",Rows.laid_scribe_lex_banned),("scribe/resolve.special",Rows.laid_scribe_resolve_special)]
def BC(l:List (List UInt8)):Array Value:=(l.map fun s=>Value.string ⟨s.toArray⟩).toArray
noncomputable def wM(os:Os):World:=
 let N:=(World.settled Tryz.prog os).heap.size
 let w0:=World.holding Tryz.prog os ⟨#[.cells (BC wordsT) 9,.cells (BC builtinsT) 9,.cells (BC bannedT) 9,.cells (BC specialT) 9],#[],[]⟩
 let put (h:Array Obj) (g:Nat) (cs:Array Value):Array Obj:=h.modify g fun
  |.cells _ t frozen=>.cells cs t frozen
  |o=>o
 let h0:=put w0.heap 1 #[.slice (some ⟨N,0,none⟩) 16 16]
 let h1:=put h0 2 #[.slice (some ⟨N+1,0,none⟩) 13 13]
 let h2:=put h1 3 #[.slice (some ⟨N+2,0,none⟩) 6 6]
 let h3:=put h2 0 #[.slice (some ⟨N+3,0,none⟩) 8 8]
 {w0 with heap:=h3}
theorem wO(os:Os)(args:Array Value):laidMet Tryz.prog wP ((wM os).forCall (fun _ _=>0) ⟨#[],args,[]⟩).memory:=
 laidMet_of_run' 8 (by kernel_rfl) (by kernel_rfl)
structure StartR(W:World)(L0 L1 L2 L3:Mir.Loc)(m:Int):Prop where
 words:TextsAt W 1 wordsT L1
 builtins:TextsAt W 2 builtinsT L2
 banned:TextsAt W 3 bannedT L3
 special:TextsAt W 0 specialT L0
 maxLen:∃t fr,W.heap[4]?=some (.cells #[.int .i64 m] t fr)
theorem Uf{W:World}(h:laidMet Tryz.prog wP W)(hsh:W.ShapedOpen Tryz.prog):∃L0 L1 L2 L3 m,StartR W L0 L1 L2 L3 m:=by
 obtain⟨L1,h1⟩:=lF (ss:=wordsT) (g:=1) (t:=37) (e:=9) (zero:=#[.slice none 0 0]) h hsh (by kernel_rfl) (by kernel_rfl) (by kernel_rfl) (by kernel_rfl) (by kernel_rfl) (of_decide_eq_true (by kernel_rfl)) (by kernel_rfl) rfl (by kernel_rfl) (by kernel_rfl) (by decide);obtain⟨L2,h2⟩:=lF (ss:=builtinsT) (g:=2) (t:=37) (e:=9) (zero:=#[.slice none 0 0]) h.tail hsh (by kernel_rfl) (by kernel_rfl) (by kernel_rfl) (by kernel_rfl) (by kernel_rfl) (of_decide_eq_true (by kernel_rfl)) (by kernel_rfl) rfl (by kernel_rfl) (by kernel_rfl) (by decide);obtain⟨L3,h3⟩:=lF (ss:=bannedT) (g:=3) (t:=37) (e:=9) (zero:=#[.slice none 0 0]) h.tail.tail hsh (by kernel_rfl) (by kernel_rfl) (by kernel_rfl) (by kernel_rfl) (by kernel_rfl) (of_decide_eq_true (by kernel_rfl)) (by kernel_rfl) rfl (by kernel_rfl) (by kernel_rfl) (by decide);obtain⟨L0,h0⟩:=lF (ss:=specialT) (g:=0) (t:=37) (e:=9) (zero:=#[.slice none 0 0]) h.tail.tail.tail hsh (by kernel_rfl) (by kernel_rfl) (by kernel_rfl) (by kernel_rfl) (by kernel_rfl) (of_decide_eq_true (by kernel_rfl)) (by kernel_rfl) rfl (by kernel_rfl) (by kernel_rfl) (by decide);obtain⟨m,hm⟩:=cell_of_shapedOpen_int (P:=Tryz.prog) (g:=4) (t:=3) (zero:=#[.int .i64 0]) hsh (of_decide_eq_true (by kernel_rfl)) (by kernel_rfl) rfl (by kernel_rfl) (by kernel_rfl) (by kernel_rfl);obtain⟨cs,hh,hs,_⟩:=hsh.1 4 #[.int .i64 0] 3 (of_decide_eq_true (by kernel_rfl)) (by kernel_rfl);have hcs:cs=#[.int .i64 m]:=by
  unfold World.cell? at hm;simp only[hh,Option.isSome_none,Bool.false_eq_true,if_false]at hm;have hs:cs.size=1:=hs;apply Array.ext_getElem?;intro i;rcases Nat.eq_zero_or_pos i with c|c
  ·subst c;rw[hm];rfl
  ·rw[Array.getElem?_eq_none (by omega),Array.getElem?_eq_none (by simp;omega)]
 subst hcs;exact⟨L0,L1,L2,L3,m,h1,h2,h3,h0,⟨_,_,hh⟩⟩
def hR(m:Int):H:=fun b =>
 if b=1 then some (.cells [.sl 601 0 1 16] true)else if b=2 then some (.cells [.sl 602 0 1 13] true)else if b=3 then some (.cells [.sl 603 0 1 6] true)
 else if b=0 then some (.cells [.sl 600 0 1 8] true)else if b=4 then some (.cells [.int .i64 m] true)
 else if b=601 then some (.cells (wordsT.map .str) true)else if b=602 then some (.cells (builtinsT.map .str) true)else if b=603 then some (.cells (bannedT.map .str) true)else if b=600 then some (.cells (specialT.map .str) true)else none
noncomputable def muR(L0 L1 L2 L3:Mir.Loc):Mu:=fun b=>if b<Tryz.prog.globals.size then some ⟨b,0,1⟩else if b=600 then some L0 else if b=601 then some L1 else if b=602 then some L2 else if b=603 then some L3 else none
theorem vk{W:World}{μ:Mu}{g:Nat}{v:Value}{t:TypeId}{fr:Nat × Nat}{x:V}(h1:v.oneCell'=true)(h2:VR μ x v):OR Tryz.prog μ ⟨g,0,1⟩ (.cells [x] true) (.cells #[v] t fr):=by
 refine⟨_,t,fr,rfl,rfl,by simp,fun i y hy=>?_,fun h=>by cases h⟩;have hi:i=0:=by have:=(List.getElem?_eq_some_iff.1 hy).1;simpa using this
 subst hi;cases hy;exact⟨v,rfl,h2,h1⟩
theorem zH{W:World}{μ:Mu}{g:Nat}{ss:List (List UInt8)}{L:Mir.Loc}(h:TextsAt W g ss L):∃x,W.heap[L.B]?=some x∧OR Tryz.prog μ L (.cells (ss.map .str) true) x:=by
 obtain⟨c,el,fr,h1,h2,h3,h4⟩:=h.row;refine⟨_,h1,c,el,fr,rfl,h2,by rw[List.length_map];exact h3,fun i y hy=>?_,fun h=>by cases h⟩;rw[List.getElem?_map]at hy;cases e:ss[i]? with
 |none=>rw[e]at hy;cases hy
 |some s=>rw[e,Option.map_some,Option.some.injEq]at hy;subst hy;exact⟨_,h4 i s e,.str s,rfl⟩
theorem U1{b:Nat}(h:b<8):b<Tryz.prog.globals.size:=Nat.lt_of_lt_of_le h (of_decide_eq_true (by kernel_rfl))
theorem U0:Tryz.prog.globals.size≤8:=of_decide_eq_true (by kernel_rfl)
theorem Oy{W:World}{L0 L1 L2 L3:Mir.Loc}{m:Int}(S:StartR W L0 L1 L2 L3 m):R Tryz.prog (muR L0 L1 L2 L3) (hR m) W:=by
 have hG:=U0;have e0:muR L0 L1 L2 L3 600=some L0:=by unfold muR;rw[if_neg (by omega),if_pos rfl]
 have e1:muR L0 L1 L2 L3 601=some L1:=by unfold muR;rw[if_neg (by omega),if_neg (by omega),if_pos rfl]
 have e2:muR L0 L1 L2 L3 602=some L2:=by unfold muR;rw[if_neg (by omega),if_neg (by omega),if_neg (by omega),if_pos rfl]
 have e3:muR L0 L1 L2 L3 603=some L3:=by unfold muR;rw[if_neg (by omega),if_neg (by omega),if_neg (by omega),if_neg (by omega),if_pos rfl]
 have eg:∀b,b<8→muR L0 L1 L2 L3 b=some ⟨b,0,1⟩:=fun b hb=>by unfold muR;rw[if_pos (U1 hb)]
 refine U2 ⟨1000,fun b hb=>?_⟩ (fun g hg=>⟨1,by unfold muR;rw[if_pos hg]⟩) fun b o hb=>?_
 ·unfold muR;rw[if_neg (by omega),if_neg (by omega),if_neg (by omega),if_neg (by omega),if_neg (by omega)]
 ·unfold hR at hb;split at hb
  ·rename_i e;subst e;cases hb;obtain⟨v,t,fr,q1,q2,q3⟩:=S.words.var;exact⟨by omega,rfl,_,_,eg _ (by omega),q1,vk (W:=W) q2 (q3 _ _ e1)⟩
  split at hb
  ·rename_i e;subst e;cases hb;obtain⟨v,t,fr,q1,q2,q3⟩:=S.builtins.var;exact⟨by omega,rfl,_,_,eg _ (by omega),q1,vk (W:=W) q2 (q3 _ _ e2)⟩
  split at hb
  ·rename_i e;subst e;cases hb;obtain⟨v,t,fr,q1,q2,q3⟩:=S.banned.var;exact⟨by omega,rfl,_,_,eg _ (by omega),q1,vk (W:=W) q2 (q3 _ _ e3)⟩
  split at hb
  ·rename_i e;subst e;cases hb;obtain⟨v,t,fr,q1,q2,q3⟩:=S.special.var;exact⟨by omega,rfl,_,_,eg _ (by omega),q1,vk (W:=W) q2 (q3 _ _ e0)⟩
  split at hb
  ·rename_i e;subst e;cases hb;obtain⟨t,fr,q1⟩:=S.maxLen;exact⟨by omega,rfl,_,_,eg _ (by omega),q1,vk (W:=W) rfl (.int _ _)⟩
  split at hb
  ·rename_i e;subst e;cases hb;obtain⟨x,q1,q2⟩:=zH (μ:=muR L0 L1 L2 L3) S.words;exact⟨by omega,rfl,_,x,e1,q1,q2⟩
  split at hb
  ·rename_i e;subst e;cases hb;obtain⟨x,q1,q2⟩:=zH (μ:=muR L0 L1 L2 L3) S.builtins;exact⟨by omega,rfl,_,x,e2,q1,q2⟩
  split at hb
  ·rename_i e;subst e;cases hb;obtain⟨x,q1,q2⟩:=zH (μ:=muR L0 L1 L2 L3) S.banned;exact⟨by omega,rfl,_,x,e3,q1,q2⟩
  split at hb
  ·rename_i e;subst e;cases hb;obtain⟨x,q1,q2⟩:=zH (μ:=muR L0 L1 L2 L3) S.special;exact⟨by omega,rfl,_,x,e0,q1,q2⟩
  ·cases hb
theorem UD{m:Int}:∀b o,hR m b=some o→o.ro=true:=by
 intro b o hb;unfold hR at hb
 repeat' (split at hb)
 all_goals first|(cases hb;rfl)|(cases hb)
end
section
open Mir Go.ChangeShapes Go.WideShapes Go.ChangeAt Go.RowKit
def hP(m:Int):H:=fun b =>
 if b=1 then some (.cells [.sl 601 0 1 16] true)else if b=2 then some (.cells [.sl 602 0 1 13] true)else if b=3 then some (.cells [.sl 603 0 1 6] true)
 else if b=4 then some (.cells [.int .i64 m] true)
 else if b=601 then some (.cells (wordsT.map .str) true)else if b=602 then some (.cells (builtinsT.map .str) true)else if b=603 then some (.cells (bannedT.map .str) true)else none
end
section
open Mir
variable{h:H}{Q:V→H→Prop}{m:Int}
end
end Go.Proofs.YtkfbldogmgofoaaGreatDoor
namespace Mir
section
end
end Mir
namespace Go.Proofs.YtkfbldogmgofoaaGreatDoor
section
open Mir
variable{h0 h1 h:H}{Q:V→H→Prop}{p q:Nat}
end
section
open Mir
theorem back{a b:PS}(f:Kp a a→Kp a b)(e:b.err=0):a.err=0:=Classical.byContradiction fun h=>(f (Kp.refl h)).n e
variable{T T':List Tokn}{N k d n:Nat}{s s':PS}
end
section
open Mir
variable{T T':List Tokn}{N k d n m m':Nat}{s s':PS}{M M':PF}
theorem Gy(e:Txt)(K:Nat)(l:List Tree)(s:PS):listN T M e (K+1) l s=if s.err=0∧s.isAt T [e]=false then listN T M e K (l++[(M (if l=[]then s else(s.expect T [44]).lines T)).1]) ((M (if l=[]then s else(s.expect T [44]).lines T)).2.lines T)else(l,s):=by rw[listN]
end
section
open Mir
variable{T T':List Tokn}{N k d n m m':Nat}{s s':PS}{M M' E E' P P' R R' U U':PF}
theorem iw{a e:Nat}(he:e≠0){q:Prop}[Decidable q](e0:s.err=0)(h:(s.wrong a q e).err=0):¬q∧s.wrong a q e=s:=by
 by_cases c:q
 ·unfold PS.wrong at h;rw[if_pos ⟨c,e0⟩]at h;exact absurd h he
 ·exact⟨c,by unfold PS.wrong;rw[if_neg (fun x=>c x.1)]⟩
end
section
open Mir
variable{T T':List Tokn}{N k d n m m':Nat}{s s':PS}{M M' E E' P P' R R' U U':PF}
theorem Cj(ln:Bool)(ops:List (Txt × Txt))(K:Nat)(t:Tree)(s:PS):chainN T M ln ops (K+1) t s=if(s.cur T).k=8 then match ops.lookup (s.cur T).t with
   |none=>(t,s)
   |some op=>chainN T M ln ops K (nodeM op [t,(M (if ln then(s.step T).lines T else s.step T)).1]) (M (if ln then(s.step T).lines T else s.step T)).2
  else(t,s):=by rw[chainN];rfl
end
section
open Mir
variable{T T':List Tokn}{N k d n m m':Nat}{s s':PS}{M M' E E' P P' R R' U U':PF}
theorem JP(K:Nat)(t:Tree)(s:PS):catN T M (K+1) t s=if(s.cur T).k∈[2,3,5,6,9]∨s.isAt T [[36],[40]]=true then catN T M K (nodeM [99,97,116] [t,(M s).1]) (M s).2 else(t,s):=by rw[catN]
theorem Kp.relStep{s0:PS}{C:PF}{x:Tree × PS}(q:Kp s0 x.2):Kp s0 (relStep T C x).2:=by
 unfold Go.Proofs.YtkfbldogmgofoaaGreatDoor.relStep;rw[if_neg (by rw[iC q.n];exact fun x=>absurd x.1 (by decide))];exact q
theorem xI(C:PF)(x:Tree × PS):relStep T C x=if(x.2.cur T).k=8∧¬((x.2.cur T).t=[62]∧x.2.flat=true)then match relOps.lookup (x.2.cur T).t with
  |none=>x
  |some op=>(nodeM op [x.1,(C (x.2.step T)).1],(C (x.2.step T)).2)
 else x:=by unfold relStep;rfl
theorem QQ(K:Nat)(t:Tree)(s:PS):inN T (K+1) t s=if s.isAt T [[105,110]]=true then inN T K (aN [105,110] ((s.step T).name T [5]).1 [t]) ((s.step T).name T [5]).2 else(t,s):=by rw[inN]
theorem Kp.exprStep{s0:PS}{x:Tree × PS}(q:Kp s0 x.2):Kp s0 (exprStep T E x).2:=by
 unfold Go.Proofs.YtkfbldogmgofoaaGreatDoor.exprStep;rw[if_neg (by rw[q.at];decide),if_neg (by rw[iC q.n];exact fun x=>absurd x.2.1 (by decide))];exact q
theorem vX(x:Tree × PS):exprStep T E x=if x.2.isAt T [[63]]=true then
   (nodeM [99,111,110,100] [x.1,(E ((x.2.step T).lines T)).1,(E ((((E ((x.2.step T).lines T)).2.lines T).expect T [58]).lines T)).1],(E ((((E ((x.2.step T).lines T)).2.lines T).expect T [58]).lines T)).2)
  else if x.1.isPlace=true∧(x.2.cur T).k=8∧(x.2.cur T).t∈assignOps then(.nd [97,115,115,105,103,110] (x.2.cur T).t 0 [x.1,(E ((x.2.step T).lines T)).1],(E ((x.2.step T).lines T)).2)
  else x:=by unfold exprStep;rfl
theorem vW{x:Tree × PS}(h:(exprStep T E x).2.err=0):x.2.err=0:=back (fun q=>q.exprStep) h
theorem BF{x:PS}(h:x.up.err=0):x.err=0:=h
end
section
open Mir
variable{T:List Tokn}{N n m c:Nat}{s s':PS}{M E P R U:PF}
def Wp(T:List Tokn):Prop:=∀i,(T.getD i tkz).k=7→(T.getD i tkz).t≠[40]∧(T.getD i tkz).t≠[41]
variable(W:TkOk T N)(V:Wp T)
include W V
end
section
open Mir
variable{T:List Tokn}{N n m c:Nat}{s s':PS}{M E P R U:PF}
end
section
open Mir
variable{T T':List Tokn}{N k d n m m':Nat}{s s':PS}{M M' E E' P P' R R' U U':PF}
theorem FK(K:Nat)(l:List Tree)(s:PS):outN T E (K+1) l s=if s.err=0∧s.over T=false∧s.isAt T [[62],[62,62]]=false then
   outN T E K (l++[(E (if l=[]then s else(s.expect T [44]).lines T)).1]) (E (if l=[]then s else(s.expect T [44]).lines T)).2
  else(l,s):=by rw[outN]
end
section
open Mir
variable{T T':List Tokn}{N k d n m m':Nat}{s s':PS}{M M' E E' P P' R R' U U' S S':PF}
theorem Kp.outTo{s0:PS}(q:Kp s0 s)(hU:KF (aY T U)):Kp s0 (outTo T (aY T U) s).2:=by
 unfold Go.Proofs.YtkfbldogmgofoaaGreatDoor.outTo;exact Kp.ite (hU _ _ q.step) (Kp.ite (hU _ _ q.step) q)
theorem Kp.outEnd{s0:PS}(q:Kp s0 s)(op:Txt)(l:List Tree):Kp s0 (outEnd T op l s):=by
 unfold Go.Proofs.YtkfbldogmgofoaaGreatDoor.outEnd;exact Kp.iteS (q.flat false).fail (q.flat false)
end
section
open Mir
variable{T T':List Tokn}{N k d n m m':Nat}{s s':PS}{M M' E E' P P' R R' U U' S S':PF}
end
section
open Mir
variable{T T':List Tokn}{N k d n m m':Nat}{s s':PS}{M M' E E' P P' R R' U U' S S':PF}
theorem Kp.blockN{s0:PS}(q:Kp s0 s)(K:Nat)(l:List Tree):Kp s0 (blockN T S K l s).2:=by
 cases K with
 |zero=>exact q
 |succ K=>rw[Mir.blockN,if_neg q.n];exact q
theorem vz(K:Nat)(l:List Tree)(s:PS):blockN T S (K+1) l s=if s.err=0 then
   if(s.skip T).isAt T [[125]]=true then(l,(s.skip T).step T)else blockN T S K (l++[(S (s.skip T)).1]) (S (s.skip T)).2
  else(l,s):=by rw[blockN]
theorem Kp.forA{s0:PS}(q:Kp s0 s)(hF:KF M)(x:Txt):Kp s0 (forA T M x s).2:=by
 unfold Go.Proofs.YtkfbldogmgofoaaGreatDoor.forA;exact Kp.ite q (hF _ _ q)
end
section
open Mir
variable{T T':List Tokn}{N k d n m m':Nat}{s s':PS}{M M' E E' P P' R R' U U' S S':PF}
theorem FM(K:Nat)(l:List Tree)(s:PS):parN T (K+1) l s=if s.err=0∧s.isAt T [[41]]=false then
   parN T K (l++[aN [112,97,114,97,109] (PS.name T (if l=[]then s else(s.expect T [44]).lines T) [5]).1 []]) ((PS.name T (if l=[]then s else(s.expect T [44]).lines T) [5]).2.lines T)
  else(l,s):=by rw[parN]
end
section
open Mir
variable{T T':List Tokn}{N k n:Nat}{s s':PS}
theorem Dz(K:Nat)(l:List Tree)(s:PS):itemsN T (K+1) l s=if s.err=0 then
   if((s.skip T).cur T).k=0 then(l,s.skip T)else itemsN T K (l++[(itemM T (s.skip T)).1]) (itemM T (s.skip T)).2
  else(l,s):=by rw[itemsN]
end
section
open Mir
def unOps:List Txt:=[[110,111,116],[110,101,103],[112,108,117,115]]
def binOps:List Txt:=[[97,100,100],[115,117,98],[109,117,108],[100,105,118],[109,111,100],[99,97,116],[108,101,115,115],[108,101,115,115,101,113],[101,113,117,97,108],[110,111,116,101,113,117,97,108],[103,114,101,97,116,101,114],[103,114,101,97,116,101,114,101,113],[111,114],[97,110,100],[109,97,116,99,104],[110,111,109,97,116,99,104]]
def incOps:List Txt:=[[112,114,101,105,110,99],[112,114,101,100,101,99],[112,111,115,116,105,110,99],[112,111,115,116,100,101,99]]
def biOk(t:Txt)(n:Nat):Prop:=
 if t=[108,101,110,103,116,104]then n≤1
 else if t=[115,117,98,115,116,114]∨t=[115,112,108,105,116]then n=2∨n=3
 else if t=[115,117,98]∨t=[103,115,117,98]then n=3
 else if t=[105,110,100,101,120]∨t=[109,97,116,99,104]then n=2
 else if t=[115,112,114,105,110,116,102]then 1≤n
 else if t=[114,97,110,100]then n=0
 else n=1
mutual
inductive IsE:Tree→Prop
 |lit {o t:Txt} {a:Nat}:o∈[[110,117,109],[115,116,114],[114,101]]→IsE (.nd o t a [])
 |var {t:Txt} {a:Nat}:t≠[]→IsE (.nd [118,97,114] t a [])
 |index {t:Txt} {a:Nat} {e:Tree}:t≠[]→IsE e→IsE (.nd [105,110,100,101,120] t a [e])
 |field {e:Tree}:IsE e→IsE (nodeM [102,105,101,108,100] [e])
 |builtin {t:Txt} {a:Nat} {l:List Tree}:biOk t l.length→t≠[115,112,108,105,116]→((t=[115,117,98]∨t=[103,115,117,98])→(l.getD 2 .zero).isPlace=true)→IsEs l→IsE (.nd [98,117,105,108,116,105,110] t a l)
 |split {a b:Nat} {u:Txt} {x:Tree} {l:List Tree}:u≠[]→l.length≤1→IsE x→IsEs l→IsE (.nd [98,117,105,108,116,105,110] [115,112,108,105,116] a (x::.nd [110,97,109,101] u b []::l))
 |call {t:Txt} {a:Nat} {l:List Tree}:t≠[]→IsEs l→IsE (.nd [99,97,108,108] t a l)
 |inc {o:Txt} {e:Tree}:o∈incOps→e.isPlace=true→IsE e→IsE (nodeM o [e])
 |un {o:Txt} {e:Tree}:o∈unOps→IsE e→IsE (nodeM o [e])
 |bin {o:Txt} {e f:Tree}:o∈binOps→IsE e→IsE f→IsE (nodeM o [e,f])
 |isin {t:Txt} {a:Nat} {e:Tree}:t≠[]→IsE e→IsE (.nd [105,110] t a [e])
 |cond {e f g:Tree}:IsE e→IsE f→IsE g→IsE (nodeM [99,111,110,100] [e,f,g])
 |assign {t:Txt} {e f:Tree}:t∈assignOps→e.isPlace=true→IsE e→IsE f→IsE (.nd [97,115,115,105,103,110] t 0 [e,f])
inductive IsEs:List Tree→Prop
 |nil:IsEs []
 |cons {e:Tree} {l:List Tree}:IsE e→IsEs l→IsEs (e::l)
end
inductive IsP:Tree→Prop
 |expr {e:Tree}:IsE e→IsP (nodeM [101,120,112,114] [e])
 |stop {o:Txt} {a:Nat}:o∈[[98,114,101,97,107],[99,111,110,116,105,110,117,101],[110,101,120,116]]→IsP (.nd o [] a [])
 |out0 {o:Txt} {a:Nat}:o∈[[101,120,105,116],[114,101,116,117,114,110]]→IsP (.nd o [] a [])
 |out1 {o:Txt} {a:Nat} {e:Tree}:o∈[[101,120,105,116],[114,101,116,117,114,110]]→IsE e→IsP (.nd o [] a [e])
 |del1 {t:Txt} {a:Nat} {e:Tree}:t≠[]→IsE e→IsP (nodeM [100,101,108,101,116,101] [.nd [105,110,100,101,120] t a [e]])
 |del0 {t:Txt} {a:Nat}:t≠[]→IsP (nodeM [100,101,108,101,116,101] [.nd [110,97,109,101] t a []])
 |print0 {o:Txt} {l:List Tree}:o∈[[112,114,105,110,116],[112,114,105,110,116,102]]→(o=[112,114,105,110,116,102]→l≠[])→IsEs l→IsP (nodeM o (nodeM [110,111,110,101] []::l))
 |print1 {o w:Txt} {e:Tree} {l:List Tree}:o∈[[112,114,105,110,116],[112,114,105,110,116,102]]→(o=[112,114,105,110,116,102]→l≠[])→w∈[[116,111],[97,112,112,101,110,100]]→IsE e→IsEs l→IsP (nodeM o (nodeM w [e]::l))
def IsN(p:Tree→Prop)(t:Tree):Prop:=t=nodeM [110,111,110,101] []∨p t
mutual
inductive IsS:Tree→Prop
 |simple {t:Tree}:IsP t→IsS t
 |empty:IsS (nodeM [101,109,112,116,121] [])
 |block {l:List Tree}:IsSs l→IsS (nodeM [98,108,111,99,107] l)
 |if2 {e s:Tree}:IsE e→IsS s→IsS (nodeM [105,102] [e,s])
 |if3 {e s r:Tree}:IsE e→IsS s→IsS r→IsS (nodeM [105,102] [e,s,r])
 |whil {e s:Tree}:IsE e→IsS s→IsS (nodeM [119,104,105,108,101] [e,s])
 |forr {a b c s:Tree}:IsN IsP a→IsN IsE b→IsN IsP c→IsS s→IsS (nodeM [102,111,114] [a,b,c,s])
 |forin {t u:Txt} {a b:Nat} {s:Tree}:t≠[]→u≠[]→IsS s→IsS (.nd [102,111,114,105,110] t a [.nd [110,97,109,101] u b [],s])
inductive IsSs:List Tree→Prop
 |nil:IsSs []
 |cons {s:Tree} {l:List Tree}:IsS s→IsSs l→IsSs (s::l)
end
def IsPar(t:Tree):Prop:=∃u a,u≠[]∧t=.nd [112,97,114,97,109] u a []
inductive IsI:Tree→Prop
 |begin {o:Txt} {l:List Tree}:o∈[[98,101,103,105,110],[101,110,100]]→IsSs l→IsI (nodeM o [nodeM [98,108,111,99,107] l])
 |func {t:Txt} {a:Nat} {ps l:List Tree}:t≠[]→(∀p∈ps,IsPar p)→IsSs l→IsI (.nd [102,117,110,99] t a (ps++[nodeM [98,108,111,99,107] l]))
 |always {l:List Tree}:IsSs l→IsI (nodeM [114,117,108,101] [nodeM [97,108,119,97,121,115] [],nodeM [98,108,111,99,107] l])
 |rule {e:Tree} {l:List Tree}:IsE e→IsSs l→IsI (nodeM [114,117,108,101] [e,nodeM [98,108,111,99,107] l])
 |default {e:Tree}:IsE e→IsI (nodeM [114,117,108,101] [e,nodeM [100,101,102,97,117,108,116] []])
theorem IsEs.app{l m:List Tree}(h:IsEs l)(k:IsEs m):IsEs (l++m):=by
 induction l with
 |nil=>exact k
 |cons x l ih=>cases h with|cons a b=>exact .cons a (ih b)
theorem IsEs.one{e:Tree}(h:IsE e):IsEs [e]:=.cons h .nil
theorem IsSs.app{l m:List Tree}(h:IsSs l)(k:IsSs m):IsSs (l++m):=by
 induction l with
 |nil=>exact k
 |cons x l ih=>cases h with|cons a b=>exact .cons a (ih b)
variable{T:List Tokn}{m:Nat}{s:PS}{E P R U M S:PF}
def jW(T:List Tokn):Prop:=∀i,((T.getD i tkz).k=5∨(T.getD i tkz).k=6)→(T.getD i tkz).t≠[]
def Ge(T:List Tokn)(m:Nat)(M:PF):Prop:=∀s,s.deep+m=51→(M s).2.err=0→IsE (M s).1
theorem fG{s:PS}(h:(s.down T).err=0):s.deep+1≤50:=by
 unfold PS.down at h;split at h
 ·cases h
 ·rename_i c;have e:s.err=0:=h;omega
theorem DK.eq{M:PF}(d:DK M)(s:PS):(M s).2.deep=s.deep:=d _ _ rfl
theorem EI(V:jW T)(h:(s.cur T).k=5∨(s.cur T).k=6):(s.cur T).t≠[]:=by
 have e:s.err=0:=iK (T:=T) (by rcases h with h|h<;>omega);rw[JU e]at h⊢;exact V _ h
theorem lH(V:jW T){ks:List Nat}(hk:∀k∈ks,k=5∨k=6)(h:(s.name T ks).2.err=0):(s.name T ks).1.t≠[]:=by
 unfold PS.name at h⊢
 by_cases c:(s.cur T).k∈ks
 ·rw[if_pos c];exact EI V (hk _ c)
 ·rw[if_neg c]at h;exact absurd h (by
   unfold PS.fail;split
   ·assumption
   ·split<;>simp)
theorem gW(s:PS):(s.fail T).err≠0:=by
 unfold PS.fail;split
 ·assumption
 ·split<;>simp
theorem Ph{a e:List Tree}{j:Nat}:(a++e).getD (a.length+j) .zero=e.getD j .zero:=by
 simp[List.getD_eq_getElem?_getD,List.getElem?_append_right]
variable(V:jW T)
include V
theorem Gx(hk:KF M)(hD:DK M)(hM:Ge T m M)(e:Txt):∀(K:Nat) (l:List Tree) (s:PS),s.deep+m=51→IsEs l→(listN T M e K l s).2.err=0→IsEs (listN T M e K l s).1
 |0,_,_,_,hl,_=>by have _:=V;exact hl
 |K+1,l,s,hd,hl,h=>by
   rw[Gy]at h⊢;split at h
   ·rename_i c;rw[if_pos c];have e1:(M (if l=[]then s else(s.expect T [44]).lines T)).2.err=0:=back (fun q=>q.lines.listN e K _) h;have d1:Dp s.deep (if l=[]then s else(s.expect T [44]).lines T):=Dp.iteS rfl ((Dp.expect (T:=T) rfl _).lines);have d2:=(hD _ _ d1).lines (T:=T);have d1':(if l=[]then s else(s.expect T [44]).lines T).deep=s.deep:=d1;have d2':(PS.lines T (M (if l=[]then s else(s.expect T [44]).lines T)).2).deep=s.deep:=d2;exact Gx hk hD hM e K _ _ (by omega) (hl.app (.one (hM _ (by omega) e1))) h
   ·rename_i c;rw[if_neg c];exact hl
theorem AZ(hk:KF M)(hD:DK M)(hM:Ge T m M)(e:Txt)(s:PS)(hd:s.deep+m=51)(h:(listM T M e s).2.err=0):IsEs (listM T M e s).1:=by
 unfold listM at h⊢;dsimp only at h⊢;have d:(PS.lines T {s with flat:=false}).deep=s.deep:=Dp.lines (f:=s.deep) rfl;exact Gx V hk hD hM e _ _ _ (by omega) .nil (back (fun q=>q.expect e) h)
theorem kH(hk:KF M)(hM:Ge T m M)(e:Txt)(s:PS)(hd:s.deep+m=51)(h:(insideM T M e s).2.err=0):IsE (insideM T M e s).1:=by
 have _:=V;unfold insideM at h⊢;dsimp only at h⊢;have d:(PS.lines T {s with flat:=false}).deep=s.deep:=Dp.lines (f:=s.deep) rfl;exact hM _ (by omega) (back (fun q=>q.lines.expect e) h)
theorem IsE.isVar{e:Tree}(h:IsE e)(o:e.op=[118,97,114]):∃u b,u≠[]∧e=.nd [118,97,114] u b []:=by
 have _:=V;cases h with
 |var hu=>exact⟨_,_,hu,rfl⟩
 |lit hl =>
   simp only[Tree.op]at o;subst o;exact absurd hl (by decide)
 |inc hl=>simp only[nodeM,Tree.op]at o;subst o;exact absurd hl (by decide)
 |un hl=>simp only[nodeM,Tree.op]at o;subst o;exact absurd hl (by decide)
 |bin hl=>simp only[nodeM,Tree.op]at o;subst o;exact absurd hl (by decide)
 |_=>exact absurd o (by simp[nodeM,Tree.op])
theorem JB{t:Tokn}{l:List Tree}(hl:IsEs l)(h:(biPost t l s).2.err=0):IsE (aN [98,117,105,108,116,105,110] t (biPost t l s).1):=by
 have e0:s.err=0:=back (fun q=>q.biPost t l) h;unfold aN;unfold biPost at h⊢;dsimp only at h⊢
 by_cases c1:t.t=[108,101,110,103,116,104]
 ·rw[if_pos c1]at h⊢;have w:=(iw (by decide) e0 h).1;exact .builtin (by unfold biOk;rw[if_pos c1];exact Nat.le_of_not_lt w) (by rw[c1];decide) (fun x=>absurd x (by rw[c1];decide)) hl
 rw[if_neg c1]at h⊢
 by_cases c2:t.t=[115,117,98,115,116,114]
 ·rw[if_pos c2]at h⊢;have w:=(iw (by decide) e0 h).1;exact .builtin (by unfold biOk;rw[if_neg c1,if_pos (.inl c2)];dsimp only;omega) (by rw[c2];decide) (fun x=>absurd x (by rw[c2];decide)) hl
 rw[if_neg c2]at h⊢
 by_cases c3:t.t=[115,112,108,105,116]
 ·rw[if_pos c3]at h⊢;dsimp only at h⊢;have w:=(iw (by decide) e0 h).1;rw[if_pos h];rcases l with _|⟨x,_|⟨v,l⟩⟩
  ·exact absurd (.inl (by show 0<2;decide)) w
  ·exact absurd (.inl (by show 1<2;decide)) w
  ·cases hl with|cons hx hr =>
   cases hr with|cons hv hr =>
   have ov:v.op=[118,97,114]:=Classical.byContradiction fun c=>w (.inr (.inr c));obtain⟨u,b,hu,rfl⟩:=IsE.isVar V hv ov;rw[c3];exact .split hu (by simp at w;omega) hx hr
 rw[if_neg c3]at h⊢
 by_cases c4:t.t=[115,117,98]∨t.t=[103,115,117,98]
 ·rw[if_pos c4]at h⊢;have w:=(iw (by decide) e0 h).1;dsimp only
  by_cases c:l.length=2
  ·rw[if_pos c];refine .builtin ?_ c3 (fun _=>?_) (hl.app (.one (.field (.lit (by decide)))))
   ·unfold biOk;rw[if_neg c1,if_neg (by rintro(x|x);exact c2 x;exact c3 x),if_pos c4,List.length_append,c];rfl
   ·have:=Ph (a:=l) (e:=[nodeM [102,105,101,108,100] [.nd [110,117,109] [48] t.a []]]) (j:=0);rw[c]at this;rw[this];rfl
  ·rw[if_neg c];refine .builtin ?_ c3 (fun _=>?_) hl
   ·unfold biOk;rw[if_neg c1,if_neg (by rintro(x|x);exact c2 x;exact c3 x),if_pos c4];omega
   ·cases hp:(l.getD 2 .zero).isPlace
    ·exact absurd (.inr (.inr ⟨by omega,hp⟩)) w
    ·rfl
 rw[if_neg c4]at h⊢;have ns:¬(t.t=[115,117,98,115,116,114]∨t.t=[115,112,108,105,116]):=by rintro(x|x);exact c2 x;exact c3 x
 by_cases c5:t.t=[105,110,100,101,120]∨t.t=[109,97,116,99,104]
 ·rw[if_pos c5]at h⊢;have w:=(iw (by decide) e0 h).1;exact .builtin (by unfold biOk;rw[if_neg c1,if_neg ns,if_neg c4,if_pos c5];dsimp only;omega) c3 (fun x=>absurd x c4) hl
 rw[if_neg c5]at h⊢
 by_cases c6:t.t=[115,112,114,105,110,116,102]
 ·rw[if_pos c6]at h⊢;have w:=(iw (by decide) e0 h).1;exact .builtin (by unfold biOk;rw[if_neg c1,if_neg ns,if_neg c4,if_neg c5,if_pos c6];dsimp only;omega) c3 (fun x=>absurd x c4) hl
 rw[if_neg c6]at h⊢
 by_cases c7:t.t=[114,97,110,100]
 ·rw[if_pos c7]at h⊢;have w:=(iw (by decide) e0 h).1;exact .builtin (by unfold biOk;rw[if_neg c1,if_neg ns,if_neg c4,if_neg c5,if_neg c6,if_pos c7];dsimp only;omega) c3 (fun x=>absurd x c4) hl
 rw[if_neg c7]at h⊢
 by_cases c8:t.t=[115,114,97,110,100]
 ·rw[if_pos c8]at h⊢;dsimp only at h⊢;have h1:(s.wrong t.a (l.length=0) 10).err=0:=back (fun q=>q.wrong _ _ _) h;have w:=(iw (by decide) h1 h).1;exact .builtin (by unfold biOk;rw[if_neg c1,if_neg ns,if_neg c4,if_neg c5,if_neg c6,if_neg c7];omega) c3 (fun x=>absurd x c4) hl
 ·rw[if_neg c8]at h⊢;have w:=(iw (by decide) e0 h).1;exact .builtin (by unfold biOk;rw[if_neg c1,if_neg ns,if_neg c4,if_neg c5,if_neg c6,if_neg c7];dsimp only;omega) c3 (fun x=>absurd x c4) hl
theorem EC(hk:KF M)(hD:DK M)(hM:Ge T m M)(s:PS)(hd:s.deep+m=51)(h:(builtinM T M s).2.err=0):IsE (builtinM T M s).1:=by
 unfold builtinM at h⊢;split at h
 ·rename_i c;rw[if_pos c];unfold aN;rw[c.1];exact .builtin (by unfold biOk;rw[if_pos rfl];exact Nat.zero_le _) (by decide) (fun x=>absurd x (by decide)) .nil
 ·rename_i c;rw[if_neg c];dsimp only at h⊢;have d:((s.step T).expect T [40]).deep=s.deep:=Dp.expect (f:=s.deep) (Dp.step rfl) _;exact JB V (AZ V hk hD hM _ _ (by omega) (back (fun q=>q.biPost _ _) h)) h
theorem Qk(hk:KF E)(hkP:KF P)(hkR:KF R)(hD:DK E)(hE:Ge T (m+1) E)(hP:0<m→Ge T m P)(hR:0<m→Ge T m R)(s:PS)(hd:s.deep+(m+1)=51)(h:(primM T E P R s).2.err=0):IsE (primM T E P R s).1:=by
 have d1:(s.step T).deep=s.deep:=Dp.step (f:=s.deep) rfl;unfold primM at h⊢;dsimp only at h⊢
 by_cases c2:(s.cur T).k=2
 ·rw[if_pos c2];exact .lit (by decide)
 rw[if_neg c2]at h⊢
 by_cases c3:(s.cur T).k=3
 ·rw[if_pos c3];exact .lit (by decide)
 rw[if_neg c3]at h⊢
 by_cases c4:(s.cur T).k=4
 ·rw[if_pos c4];exact .lit (by decide)
 rw[if_neg c4]at h⊢
 by_cases c5:(s.cur T).k=5
 ·have nm:=EI V (.inl c5);rw[if_pos c5]at h⊢;split at h
  ·rename_i c;rw[if_pos c];have d2:((s.step T).step T).deep=s.deep:=Dp.step (f:=s.deep) (Dp.step rfl);exact .index nm (kH V hk hE _ _ (by omega) h)
  ·rename_i c;rw[if_neg c];exact .var nm
 rw[if_neg c5]at h⊢
 by_cases c6:(s.cur T).k=6
 ·have nm:=EI V (.inr c6);rw[if_pos c6]at h⊢;have d2:((s.step T).expect T [40]).deep=s.deep:=Dp.expect (f:=s.deep) (Dp.step rfl) _;exact .call nm (AZ V hk hD hE _ _ (by omega) h)
 rw[if_neg c6]at h⊢
 by_cases c9:(s.cur T).k=9
 ·rw[if_pos c9]at h⊢;exact EC V hk hD hE s hd h
 rw[if_neg c9]at h⊢
 by_cases cp:s.isAt T [[40]]=true
 ·rw[if_pos cp]at h⊢;exact kH V hk hE _ _ (by omega) h
 rw[if_neg cp]at h⊢
 by_cases cd:s.isAt T [[36]]=true
 ·rw[if_pos cd]at h⊢;have d3:((s.step T).down T).deep=s.deep+1:=Dp.down (f:=s.deep) (Dp.step rfl);split at h
  ·rename_i c;rw[if_pos c];have e1:((s.step T).down T).err=0:=back (fun q=>hkP _ _ q) h;have:=fG e1;exact .field (hP (by omega) _ (by omega) h)
  ·rename_i c;rw[if_neg c];have e1:((s.step T).down T).err=0:=back (fun q=>hkR _ _ q) h;have:=fG e1;exact .field (hR (by omega) _ (by omega) h)
 ·rw[if_neg cd]at h;exact absurd h (gW s)
end
section
open Mir
variable{T:List Tokn}{m:Nat}{s:PS}{E P R U M S:PF}
theorem Qi(hk:KF R)(hR:Ge T m R)(s:PS)(hd:s.deep+m=51)(h:(postM T R s).2.err=0):IsE (postM T R s).1:=by
 unfold postM at h⊢;dsimp only at h⊢;have d1:(s.step T).deep=s.deep:=Dp.step (f:=s.deep) rfl;have key:∀o:Txt,o∈incOps→(if(R (s.step T)).1.isPlace=true then(nodeM o [(R (s.step T)).1],(R (s.step T)).2)else(.zero,(R (s.step T)).2.fail T)).2.err=0 →
   IsE (if(R (s.step T)).1.isPlace=true then(nodeM o [(R (s.step T)).1],(R (s.step T)).2)else(.zero,(R (s.step T)).2.fail T)).1:=fun o ho e=>by
  split at e
  ·rename_i c;rw[if_pos c];exact .inc ho c (hR _ (by omega) e)
  ·exact absurd e (gW _)
 by_cases c1:s.isAt T [[43,43]]=true
 ·rw[if_pos c1]at h⊢;exact key _ (by decide) h
 rw[if_neg c1]at h⊢
 by_cases c2:s.isAt T [[45,45]]=true
 ·rw[if_pos c2]at h⊢;exact key _ (by decide) h
 rw[if_neg c2]at h⊢;have e1:(R s).2.err=0:=back (fun q=>by
  split
  ·exact q
  split
  ·exact q.step
  split
  ·exact q.step
  ·exact q) h
 have g:=hR _ hd e1;split
 ·exact g
 rename_i c;have pl:(R s).1.isPlace=true:=by simpa using c
 split
 ·exact .inc (by decide) pl g
 split
 ·exact .inc (by decide) pl g
 ·exact g
theorem Og(hkU:KF U)(hU:0<m→Ge T m U)(hP:Ge T (m+1) P)(s:PS)(hd:s.deep+(m+1)=51)(h:(unaryM T U P s).2.err=0):IsE (unaryM T U P s).1:=by
 have d3:((s.step T).down T).deep=s.deep+1:=Dp.down (f:=s.deep) (Dp.step rfl);have d1:(s.step T).deep=s.deep:=Dp.step (f:=s.deep) rfl;have key:(U ((s.step T).down T)).2.err=0→IsE (U ((s.step T).down T)).1:=fun e=>by
  have:=fG (back (fun q=>hkU _ _ q) e);exact hU (by omega) _ (by omega) e
 unfold unaryM at h⊢;dsimp only at h⊢;split at h
 ·rename_i c;rw[if_pos c];exact .un (by decide) (key h)
 rename_i c1;rw[if_neg c1];split at h
 ·rename_i c;rw[if_pos c];exact .un (by decide) (key h)
 rename_i c2;rw[if_neg c2];split at h
 ·rename_i c;rw[if_pos c];exact .un (by decide) (key h)
 rename_i c3;rw[if_neg c3];exact hP _ hd h
theorem Ci(hk:KF M)(hD:DK M)(hM:Ge T m M)(ln:Bool){ops:List (Txt × Txt)}(ho:∀x∈ops,x.2∈binOps):∀(K:Nat) (t:Tree) (s:PS),s.deep+m=51→IsE t→(chainN T M ln ops K t s).2.err=0→IsE (chainN T M ln ops K t s).1
 |0,_,_,_,ht,_=>ht
 |K+1,t,s,hd,ht,h=>by
   rw[Cj]at h⊢
   by_cases c:(s.cur T).k=8
   ·rw[if_pos c]at h⊢;cases ho':ops.lookup (s.cur T).t with
    |none=>exact ht
    |some op =>
      rw[ho']at h;dsimp only at h⊢;have e1:(M (if ln=true then(s.step T).lines T else s.step T)).2.err=0:=back (fun q=>q.chainN _ _ _ _) h;have hop:op∈binOps:=by
       have:∃x∈ops,x.2=op:=by
        clear h ho;induction ops with
        |nil=>cases ho'
        |cons x l ih =>
          obtain⟨a,b⟩:=x;rw[List.lookup_cons]at ho';split at ho'
          ·cases ho';exact⟨(_,_),List.mem_cons_self ..,rfl⟩
          ·obtain⟨y,hy,e⟩:=ih ho';exact⟨y,by simp[hy],e⟩
       obtain⟨x,hx,e⟩:=this;rw[← e];exact ho x hx
      have d1:Dp s.deep (if ln=true then(s.step T).lines T else s.step T):=Dp.iteS (Dp.step rfl).lines (Dp.step rfl);have d1':(if ln=true then(s.step T).lines T else s.step T).deep=s.deep:=d1;have d2:=hD.eq (if ln=true then(s.step T).lines T else s.step T);exact Ci hk hD hM ln ho K _ _ (by omega) (.bin hop ht (hM _ (by omega) e1)) h
   ·rw[if_neg c];exact ht
theorem qK(hk:KF M)(hD:DK M)(hM:Ge T m M)(ln:Bool){ops:List (Txt × Txt)}(ho:∀x∈ops,x.2∈binOps):Ge T m (dN T M ln ops):=fun s hd h=>by
 unfold dN at h⊢;dsimp only at h⊢;have d:=hD.eq s;exact Ci hk hD hM ln ho _ _ _ (by omega) (hM _ hd (back (fun q=>q.chainN _ _ _ _) h)) h
theorem JO(hk:KF M)(hD:DK M)(hM:Ge T m M):∀(K:Nat) (t:Tree) (s:PS),s.deep+m=51→IsE t→(catN T M K t s).2.err=0→IsE (catN T M K t s).1
 |0,_,_,_,ht,_=>ht
 |K+1,t,s,hd,ht,h=>by
   rw[JP]at h⊢;split at h
   ·rename_i c;rw[if_pos c];have d:=hD.eq s;exact JO hk hD hM K _ _ (by omega) (.bin (by decide) ht (hM _ hd (back (fun q=>q.catN _ _) h))) h
   ·rename_i c;rw[if_neg c];exact ht
theorem EJ(hU:DK U):DK (rH T U):=by unfold rH;exact iT hU _ _
theorem Ac(hU:DK U):DK (gB T U):=by unfold gB;exact iT (EJ hU) _ _
theorem QJ(hk:KF U)(hD:DK U)(hU:Ge T m U):Ge T m (aY T U):=fun s hd h=>by
 have a1:Ge T m (rH T U):=by unfold rH;exact qK hk hD hU false (by decide)
 have a2:Ge T m (gB T U):=by unfold gB;exact qK (Fj hk) (EJ hD) a1 false (by decide)
 unfold aY at h⊢;dsimp only at h⊢;have d:=(Ac (T:=T) hD).eq s;exact JO (Ff hk) (Ac hD) a2 _ _ _ (by omega) (a2 _ hd (back (fun q=>q.catN _ _) h)) h
theorem FX{x op:Txt}(h:relOps.lookup x=some op):op∈binOps:=by
 unfold relOps at h;simp only[List.lookup_cons]at h
 repeat' split at h
 all_goals first
  |(cases h;decide)
  |cases h
theorem UT(hk:KF U)(hD:DK U)(hU:Ge T m U):Ge T m (uQ T U):=fun s hd h=>by
 have hc:=QJ hk hD hU;rw[lK]at h⊢;have e1:(aY T U s).2.err=0:=back (fun q=>q.relStep) h;have g:=hc _ hd e1;have d:=(qP (T:=T) hD).eq s;generalize aY T U s=x at h e1 g d;rw[xI]at h⊢
 by_cases c:(x.2.cur T).k=8∧¬((x.2.cur T).t=[62]∧x.2.flat=true)
 ·rw[if_pos c]at h⊢;cases ho:relOps.lookup (x.2.cur T).t with
  |none=>exact g
  |some op =>
    rw[ho]at h;dsimp only at h⊢;have d2:(x.2.step T).deep=x.2.deep:=Dp.step (f:=x.2.deep) rfl;exact .bin (FX ho) g (hc _ (by omega) h)
 ·rw[if_neg c];exact g
theorem QP(V:jW T):∀(K:Nat) (t:Tree) (s:PS),IsE t→(inN T K t s).2.err=0→IsE (inN T K t s).1
 |0,_,_,ht,_=>ht
 |K+1,t,s,ht,h=>by
   rw[QQ]at h⊢;split at h
   ·rename_i c;rw[if_pos c];have e1:((s.step T).name T [5]).2.err=0:=back (fun q=>q.inN _ _) h;exact QP V K _ _ (.isin (lH V (by simp) e1) ht) h
   ·rename_i c;rw[if_neg c];exact ht
theorem JV(hU:DK U):DK (Mir.andM T U):=by unfold Mir.andM;exact iT (Gg hU) _ _
theorem Vs(V:jW T)(hk:KF U)(hD:DK U)(hU:Ge T m U):Ge T m (orM T U):=by
 have a5:Ge T m (eY T U):=by unfold eY;exact qK (Fp hk) (EK hD) (UT hk hD hU) false (by decide)
 have a6:Ge T m (inM T U):=fun s hd h=>by
  rw[AL]at h⊢;exact QP V _ _ _ (a5 _ hd (back (fun q=>q.inN _ _) h)) h
 have a7:Ge T m (Mir.andM T U):=by unfold Mir.andM;exact qK (LZ hk) (Gg hD) a6 true (by decide)
 unfold Mir.orM;exact qK (Fg hk) (JV hD) a7 true (by decide)
theorem O7(V:jW T)(hkE:KF E)(hDE:DK E)(hE:0<m→Ge T m E)(hk:KF U)(hD:DK U)(hU:0<m→Ge T m U):Ge T (m+1) (mW T E U):=fun s hd h=>by
 rw[jD]at h⊢;replace h:(exprStep T E (orM T U (s.down T))).2.err=0:=BF h;have e2:(orM T U (s.down T)).2.err=0:=vW h;have e1:(s.down T).err=0:=back (fun q=>L8 hk _ _ q) e2;have dp:=fG e1;have pm:0<m:=by omega
 have hE:=hE pm;have hO:=Vs V hk hD (hU pm);have d1:(s.down T).deep=s.deep+1:=Dp.down (f:=s.deep) rfl;have d2:=(JW (T:=T) hD).eq (s.down T);have g:=hO _ (by omega) e2;generalize orM T U (s.down T)=x at h e2 g d2
 show IsE (exprStep T E x).1
 have d3:((x.2.step T).lines T).deep=x.2.deep:=Dp.lines (f:=x.2.deep) (Dp.step rfl);rw[vX]at h⊢
 by_cases c1:x.2.isAt T [[63]]=true
 ·rw[if_pos c1]at h⊢;dsimp only at h⊢;have a1:(E ((x.2.step T).lines T)).2.err=0:=back (fun q=>hkE _ _ ((q.lines.expect _).lines)) h;have d4:Dp x.2.deep ((((E ((x.2.step T).lines T)).2.lines T).expect T [58]).lines T):=(((hDE _ _ d3).lines).expect _).lines;have d4':((((E ((x.2.step T).lines T)).2.lines T).expect T [58]).lines T).deep=x.2.deep:=d4;exact .cond g (hE _ (by omega) a1) (hE _ (by omega) h)
 rw[if_neg c1]at h⊢
 by_cases c2:x.1.isPlace=true∧(x.2.cur T).k=8∧(x.2.cur T).t∈assignOps
 ·rw[if_pos c2]at h⊢;exact .assign c2.2.2 c2.1 g (hE _ (by omega) h)
 ·rw[if_neg c2];exact g
structure GL(T:List Tokn)(n:Nat):Prop where
 expr:Ge T n (lev T n).expr
 unary:Ge T n (lev T n).unary
 post:Ge T n (lev T n).post
 prim:Ge T n (lev T n).prim
theorem gls(V:jW T):∀n,0<n→GL T n
 |0,h=>absurd h (Nat.lt_irrefl _)
 |n+1,_=>by
   have S:0<n→GL T n:=gls V n;obtain⟨k1,k2,k3,k4⟩:=lZ T n;obtain⟨d1,d2,d3,d4⟩:=lU T n;have ke:KF (lev T (n+1)).expr:=(lZ T (n+1)).1;have de:DK (lev T (n+1)).expr:=(lU T (n+1)).1;have e:Ge T (n+1) (lev T (n+1)).expr:=by rw[nI];exact O7 V k1 d1 (fun p=>(S p).expr) k2 d2 (fun p=>(S p).unary)
   have r:Ge T (n+1) (lev T (n+1)).prim:=by rw[nK];exact fun s hd h=>Qk V ke k3 k4 de e (fun p=>(S p).post) (fun p=>(S p).prim) s hd h
   have kr:KF (lev T (n+1)).prim:=(lZ T (n+1)).2.2.2;have p:Ge T (n+1) (lev T (n+1)).post:=by rw[nJ];exact fun s hd h=>Qi kr r s hd h
   exact⟨e,by rw[kK];exact fun s hd h=>Og k2 (fun p=>(S p).unary) p s hd h,p,r⟩
end
section
open Mir
variable{T:List Tokn}{m f:Nat}{s:PS}{E P R U M S:PF}
theorem Dp.outN(hE:DK E)(K:Nat):∀{l:List Tree} {s:PS},Dp f s→Dp f (outN T E K l s).2:=by
 induction K with
 |zero=>exact fun q=>q
 |succ K ih =>
   intro l s q;rw[FK];split
   ·exact ih (hE _ _ (Dp.iteS q (q.expect _).lines))
   ·exact q
theorem Dp.outArgs(q:Dp f s)(hE:DK E):Dp f (outArgs T E s).2:=by
 unfold Go.Proofs.YtkfbldogmgofoaaGreatDoor.outArgs;exact Dp.iteL (q.step.listM hE _) (Dp.outN hE _ q)
theorem Dp.outTo(q:Dp f s)(hM:DK M):Dp f (outTo T M s).2:=by
 unfold Go.Proofs.YtkfbldogmgofoaaGreatDoor.outTo;exact Dp.ite (hM _ _ q.step) (Dp.ite (hM _ _ q.step) q)
theorem Dp.outputM(q:Dp f s)(hE:DK E)(hU:DK U)(op:Txt):Dp f (outputM T E U op s).2:=by
 have k2:=((q.flat true).outArgs (T:=T) hE).outTo (T:=T) (qP (T:=T) hU);rw[jH];unfold outEnd;exact Dp.iteS (k2.flat false).fail (k2.flat false)
theorem Dp.simpleM(q:Dp f s)(hE:DK E)(hU:DK U):Dp f (simpleM T E U s).2:=by
 unfold Mir.simpleM;exact Dp.ite (hE _ _ q) (Dp.ite q.step (Dp.ite (Dp.ite q.step (hE _ _ q.step)) (Dp.ite (Dp.ite ((q.step.name _).step.insideM hE _) (q.step.name _)) (Dp.ite (q.step.outputM hE hU _) q.fail))))
theorem Dp.fin(q:Dp f s):Dp f (s.fin T):=by
 unfold PS.fin;exact Dp.iteS q.step (Dp.iteS q (Dp.iteS q.step q.fail))
theorem Dp.bodyM(q:Dp f s)(hS:DK S):Dp f (bodyM T S s).2:=hS _ _ q.lines
theorem Dp.choiceM(q:Dp f s)(hE:DK E)(hS:DK S):Dp f (choiceM T E S s).2:=by
 have k2:=((q.expect (T:=T) [40]).insideM (T:=T) hE [41]).bodyM (T:=T) hS;unfold Mir.choiceM;generalize Mir.insideM T E [41] (s.expect T [40])=x at k2;dsimp only;generalize Mir.bodyM T S x.2=y at k2;have k3:Dp f (if(y.2.lines T).isAt T [[59]]=true then((y.2.lines T).step T).lines T else y.2.lines T):=Dp.iteS k2.lines.step.lines k2.lines;generalize (if(y.2.lines T).isAt T [[59]]=true then((y.2.lines T).step T).lines T else y.2.lines T)=z at k3;exact Dp.ite (k3.step.bodyM hS) (Dp.iteS k3 k3)
theorem Dp.forA(q:Dp f s)(hM:DK M)(e:Txt):Dp f (forA T M e s).2:=by
 unfold Go.Proofs.YtkfbldogmgofoaaGreatDoor.forA;exact Dp.ite q (hM _ _ q)
theorem oG(hE:DK E)(hU:DK U):DK (simpleM T E U):=fun _ _ q=>q.simpleM hE hU
theorem Dp.loopM(q:Dp f s)(hE:DK E)(hU:DK U)(hS:DK S):Dp f (loopM T E U S s).2:=by
 rw[nP];exact Dp.ite ((((q.expect _).name _).step.name _).step.bodyM hS) ((((((((((q.expect _).forA (oG hE hU) _).expect _).lines).forA hE _).expect _).lines).forA (oG hE hU) _).expect _).bodyM hS)
theorem Dp.blockN(hS:DK S)(K:Nat):∀{l:List Tree} {s:PS},Dp f s→Dp f (blockN T S K l s).2:=by
 induction K with
 |zero=>exact fun q=>q
 |succ K ih =>
   intro l s q;rw[vz];exact Dp.iteL (Dp.iteL q.skip.step (ih (hS _ _ q.skip))) q
theorem Dp.blockM(q:Dp f s)(hS:DK S):Dp f (blockM T S s).2:=Dp.blockN hS _ (q.expect _)
theorem Dp.stmtM(q:Dp f s)(hE:DK E)(hU:DK U)(hS:DK S):Dp f (stmtM T E U S s).2:=by
 have k:=q.down (T:=T);rw[kY];refine Dp.up ?_;unfold dF;exact Dp.ite (k.blockM hS) (Dp.ite k.step (Dp.ite (k.step.choiceM hE hS) (Dp.ite (((k.step.expect _).insideM hE _).bodyM hS) (Dp.ite (k.step.loopM hE hU hS) (k.simpleM hE hU).fin))))
theorem yL(T:List Tokn):∀n,DK (stL T n)
 |0=>by unfold stL;exact fun _ _ k=>k
 |n+1=>by rw[stL];exact fun _ s k=>k.stmtM (lU T n).1 (lU T n).2.1 (yL T n)
theorem Dp.parN(K:Nat):∀{l:List Tree} {s:PS},Dp f s→Dp f (parN T K l s).2:=by
 induction K with
 |zero=>exact fun q=>q
 |succ K ih =>
   intro l s q;rw[FM];split
   ·exact ih ((Dp.iteS q (q.expect _).lines).name _).lines
   ·exact q
theorem Dp.itemM(q:Dp f s):Dp f (itemM T s).2:=by
 have B:=yL T 51;have e:=(lU T 51).1 _ _ q;rw[rD];generalize (lev T 51).expr=E at e;generalize stL T 51=S at B;unfold pI;exact Dp.ite (q.step.blockM B) (Dp.ite (q.step.blockM B) (Dp.ite (Dp.blockM (Dp.lines (Dp.expect (Dp.parN _ (Dp.lines (Dp.expect (q.step.name _) _))) _)) B) (Dp.ite (q.blockM B) (Dp.ite (e.blockM B) (Dp.iteS e.fail e)))))
theorem Nc(V:jW T)(hk:KF E)(hD:DK E)(hE:Ge T m E):∀(K:Nat) (l:List Tree) (s:PS),s.deep+m=51→IsEs l→(outN T E K l s).2.err=0→IsEs (outN T E K l s).1
 |0,_,_,_,hl,_=>hl
 |K+1,l,s,hd,hl,h=>by
   rw[FK]at h⊢;split at h
   ·rename_i c;rw[if_pos c];have e1:(E (if l=[]then s else(s.expect T [44]).lines T)).2.err=0:=back (fun q=>q.outN _ _) h;have d1:Dp s.deep (if l=[]then s else(s.expect T [44]).lines T):=Dp.iteS rfl ((Dp.expect (T:=T) rfl _).lines);have d2:=hD _ _ d1;have d1':(if l=[]then s else(s.expect T [44]).lines T).deep=s.deep:=d1;have d2':(E (if l=[]then s else(s.expect T [44]).lines T)).2.deep=s.deep:=d2;exact Nc V hk hD hE K _ _ (by omega) (hl.app (.one (hE _ (by omega) e1))) h
   ·rename_i c;rw[if_neg c];exact hl
theorem IR(V:jW T)(hk:KF E)(hD:DK E)(hE:Ge T m E)(s:PS)(hd:s.deep+m=51)(h:(outArgs T E s).2.err=0):IsEs (outArgs T E s).1:=by
 unfold outArgs at h⊢;have d1:(s.step T).deep=s.deep:=Dp.step (f:=s.deep) rfl;split at h
 ·rename_i c;rw[if_pos c];exact AZ V hk hD hE _ _ (by omega) h
 ·rename_i c;rw[if_neg c];exact Nc V hk hD hE _ _ _ hd .nil h
theorem IV(V:jW T)(hkE:KF E)(hDE:DK E)(hE:Ge T m E)(hkU:KF U)(hDU:DK U)(hU:Ge T m U){op:Txt}(ho:op∈[[112,114,105,110,116],[112,114,105,110,116,102]])(s:PS)(hd:s.deep+m=51)(h:(outputM T E U op s).2.err=0):IsP (outputM T E U op s).1:=by
 rw[jH]at h⊢;dsimp only at h⊢;have d0:=(Dp.outArgs (T:=T) (f:=s.deep) (s:={s with flat:=true}) rfl hDE);have e2:(outTo T (aY T U) (outArgs T E {s with flat:=true}).2).2.err=0:=back (fun q=>q.outEnd _ _) h;have e1:(outArgs T E {s with flat:=true}).2.err=0:=back (fun q=>q.outTo (Gu hkU)) e2;have a:=IR V hkE hDE hE {s with flat:=true} hd e1;have ne:op=[112,114,105,110,116,102]→(outArgs T E {s with flat:=true}).1≠[]:=fun x y=>by
  unfold outEnd at h;rw[if_pos ⟨x,y⟩]at h;exact gW _ h
 generalize outArgs T E {s with flat:=true}=x at h e2 e1 a ne d0;have hc:=QJ hkU hDU hU;have d1:(x.2.step T).deep=s.deep:=Dp.step d0;have key:∀w:Txt,w∈[[116,111],[97,112,112,101,110,100]]→(aY T U (x.2.step T)).2.err=0→IsP (nodeM op (nodeM w [(aY T U (x.2.step T)).1]::x.1)):=fun w hw e=>.print1 ho ne hw (hc _ (by omega) e) a;unfold outTo at e2⊢
 by_cases c1:x.2.isAt T [[62]]=true
 ·rw[if_pos c1]at e2⊢;exact key _ (by decide) e2
 rw[if_neg c1]at e2⊢
 by_cases c2:x.2.isAt T [[62,62]]=true
 ·rw[if_pos c2]at e2⊢;exact key _ (by decide) e2
 rw[if_neg c2];exact .print0 ho ne a
theorem zu(V:jW T)(hkE:KF E)(hDE:DK E)(hE:Ge T m E)(hkU:KF U)(hDU:DK U)(hU:Ge T m U)(s:PS)(hd:s.deep+m=51)(h:(simpleM T E U s).2.err=0):IsP (simpleM T E U s).1:=by
 have d1:(s.step T).deep=s.deep:=Dp.step (f:=s.deep) rfl;unfold simpleM at h⊢;dsimp only at h⊢
 by_cases c1:(s.cur T).k≠7
 ·rw[if_pos c1]at h⊢;exact .expr (hE _ hd h)
 rw[if_neg c1]at h⊢
 by_cases c2:(s.cur T).t=[98,114,101,97,107]∨(s.cur T).t=[99,111,110,116,105,110,117,101]∨(s.cur T).t=[110,101,120,116]
 ·rw[if_pos c2];exact .stop (by simpa using c2)
 rw[if_neg c2]at h⊢
 by_cases c3:(s.cur T).t=[101,120,105,116]∨(s.cur T).t=[114,101,116,117,114,110]
 ·rw[if_pos c3]at h⊢;split at h
  ·rename_i c;rw[if_pos c];exact .out0 (by simpa using c3)
  ·rename_i c;rw[if_neg c];exact .out1 (by simpa using c3) (hE _ (by omega) h)
 rw[if_neg c3]at h⊢
 by_cases c4:(s.cur T).t=[100,101,108,101,116,101]
 ·rw[if_pos c4]at h⊢;have d2:(((s.step T).name T [5]).2.step T).deep=s.deep:=Dp.step (Dp.name d1 _);split at h
  ·rename_i c;rw[if_pos c];have e1:((s.step T).name T [5]).2.err=0:=back (fun q=>q.step.insideM hkE _) h;exact .del1 (lH V (by simp) e1) (kH V hkE hE _ _ (by omega) h)
  ·rename_i c;rw[if_neg c];exact .del0 (lH V (by simp) h)
 rw[if_neg c4]at h⊢
 by_cases c5:(s.cur T).t=[112,114,105,110,116]∨(s.cur T).t=[112,114,105,110,116,102]
 ·rw[if_pos c5]at h⊢;exact IV V hkE hDE hE hkU hDU hU (by simpa using c5) _ (by omega) h
 ·rw[if_neg c5]at h;exact absurd h (gW _)
def Gs(T:List Tokn)(m:Nat)(S:PF):Prop:=∀s,s.deep+m=51→(S s).2.err=0→IsS (S s).1
theorem zQ(hS:Gs T m S):Gs T m (bodyM T S):=fun s hd h=>hS _ (by have:(s.lines T).deep=s.deep:=Dp.lines (f:=s.deep) rfl;omega) h
theorem uV(hS:KF S):KF (bodyM T S):=fun _ _ k=>hS _ _ k.lines
theorem Hr(V:jW T)(hkE:KF E)(hDE:DK E)(hE:Ge T m E)(hkS:KF S)(hDS:DK S)(hS:Gs T m S)(s:PS)(hd:s.deep+m=51)(h:(choiceM T E S s).2.err=0):IsS (choiceM T E S s).1:=by
 have d0:(s.expect T [40]).deep=s.deep:=Dp.expect (f:=s.deep) rfl _;have d1:=Dp.insideM (T:=T) d0 hDE [41];have g1:=kH V hkE hE [41] (s.expect T [40]) (by omega);have hB:=zQ hS;unfold choiceM at h⊢;generalize insideM T E [41] (s.expect T [40])=x at h d1 g1;dsimp only at h⊢;have d2:=d1.bodyM (T:=T) hDS;have g2:=hB x.2 (by have:x.2.deep=s.deep:=d1;omega);have b2:(bodyM T S x.2).2.err=0→x.2.err=0:=fun e=>back (fun q=>uV hkS _ _ q) e;generalize bodyM T S x.2=y at h d2 g2 b2;have d3:Dp s.deep (if(y.2.lines T).isAt T [[59]]=true then((y.2.lines T).step T).lines T else y.2.lines T):=Dp.iteS d2.lines.step.lines d2.lines;have b3:(if(y.2.lines T).isAt T [[59]]=true then((y.2.lines T).step T).lines T else y.2.lines T).err=0→y.2.err=0:=fun e=>back (fun q=>Kp.iteS q.lines.step.lines q.lines) e;generalize (if(y.2.lines T).isAt T [[59]]=true then((y.2.lines T).step T).lines T else y.2.lines T)=z at h d3 b3;have d4:(z.step T).deep=s.deep:=d3.step;split at h
 ·rename_i c;rw[if_pos c];have e3:z.err=0:=back (fun q=>uV hkS _ _ q.step) h;exact .if3 (g1 (b2 (b3 e3))) (g2 (b3 e3)) (hB _ (by omega) h)
 ·rename_i c;rw[if_neg c];have e3:z.err=0:=Classical.byContradiction fun w=>by
   dsimp only at h;rw[if_neg w]at h;exact w h
  exact .if2 (g1 (b2 (b3 e3))) (g2 (b3 e3))
theorem EU{p:Tree→Prop}(hM:∀s,s.deep+m=51→(M s).2.err=0→p (M s).1)(e:Txt)(s:PS)(hd:s.deep+m=51)(h:(forA T M e s).2.err=0):IsN p (forA T M e s).1:=by
 unfold forA at h⊢;split at h
 ·rename_i c;rw[if_pos c];exact .inl rfl
 ·rename_i c;rw[if_neg c];exact .inr (hM _ hd h)
theorem Iq(hE:KF E):KF (simpleM T E U):=fun _ _ k=>k.simpleM hE
theorem PN(V:jW T)(hkE:KF E)(hDE:DK E)(hE:Ge T m E)(hkU:KF U)(hDU:DK U)(hU:Ge T m U)(hkS:KF S)(hDS:DK S)(hS:Gs T m S)(s:PS)(hd:s.deep+m=51)(h:(loopM T E U S s).2.err=0):IsS (loopM T E U S s).1:=by
 have hB:=zQ hS;have kB:=uV (T:=T) hkS;have d0:Dp s.deep (s.expect T [40]):=Dp.expect rfl _;have hs:=zu V hkE hDE hE hkU hDU hU;have ds:=oG (T:=T) hDE hDU;have ks:=Iq (T:=T) (U:=U) hkE;rw[nP]at h⊢;generalize s.expect T [40]=s1 at h d0
 by_cases c:forIn T s1
 ·rw[if_pos c]at h⊢;dsimp only at h⊢;have d1:((PS.name T ((PS.name T s1 [5]).2.step T) [5]).2.step T).deep=s.deep:=((d0.name _).step.name _).step;have e2:(PS.name T ((PS.name T s1 [5]).2.step T) [5]).2.err=0:=back (fun q=>kB _ _ q.step) h;have e1:(PS.name T s1 [5]).2.err=0:=back (fun q=>q.step.name _) e2;exact .forin (lH V (by simp) e1) (lH V (by simp) e2) (hB _ (by omega) h)
 ·rw[if_neg c]at h⊢;dsimp only at h⊢;have da:=d0.forA (T:=T) ds [59];have ga:=EU (T:=T) hs [59] s1 (by have:s1.deep=s.deep:=d0;omega);generalize forA T (simpleM T E U) [59] s1=a at h da ga;have d2:=(da.expect (T:=T) [59]).lines (T:=T);have b2:((a.2.expect T [59]).lines T).err=0→a.2.err=0:=fun e=>back (fun q=>(q.expect _).lines) e;generalize (a.2.expect T [59]).lines T=s2 at h d2 b2;have db:=d2.forA (T:=T) hDE [59];have gb:=EU (T:=T) hE [59] s2 (by have:s2.deep=s.deep:=d2;omega);have bb:(forA T E [59] s2).2.err=0→s2.err=0:=fun e=>back (fun q=>q.forA hkE _) e;generalize forA T E [59] s2=b at h db gb bb;have d3:=(db.expect (T:=T) [59]).lines (T:=T);have b3:((b.2.expect T [59]).lines T).err=0→b.2.err=0:=fun e=>back (fun q=>(q.expect _).lines) e;generalize (b.2.expect T [59]).lines T=s3 at h d3 b3;have dc:=d3.forA (T:=T) ds [41];have gc:=EU (T:=T) hs [41] s3 (by have:s3.deep=s.deep:=d3;omega);have bc:(forA T (simpleM T E U) [41] s3).2.err=0→s3.err=0:=fun e=>back (fun q=>q.forA ks _) e;generalize forA T (simpleM T E U) [41] s3=cc at h dc gc bc;have d4:(cc.2.expect T [41]).deep=s.deep:=dc.expect _;have ec:cc.2.err=0:=back (fun q=>kB _ _ (q.expect _)) h;have eb:=b3 (bc ec);exact .forr (ga (b2 (bb eb))) (gb eb) (gc ec) (hB _ (by omega) h)
theorem BX(hkS:KF S)(hDS:DK S)(hS:Gs T m S):∀(K:Nat) (l:List Tree) (s:PS),s.deep+m=51→IsSs l→(blockN T S K l s).2.err=0→IsSs (blockN T S K l s).1
 |0,_,_,_,hl,_=>hl
 |K+1,l,s,hd,hl,h=>by
   rw[vz]at h⊢;have d1:(s.skip T).deep=s.deep:=Dp.skip (f:=s.deep) rfl
   by_cases c:s.err=0
   ·rw[if_pos c]at h⊢
    by_cases c2:(s.skip T).isAt T [[125]]=true
    ·rw[if_pos c2];exact hl
    ·rw[if_neg c2]at h⊢;have d2:=hDS.eq (s.skip T);have e1:(S (s.skip T)).2.err=0:=back (fun q=>q.blockN _ _) h;exact BX hkS hDS hS K _ _ (by omega) (hl.app (.cons (hS _ (by omega) e1) .nil)) h
   ·rw[if_neg c];exact hl
theorem BU(hkS:KF S)(hDS:DK S)(hS:Gs T m S)(s:PS)(hd:s.deep+m=51)(h:(blockM T S s).2.err=0):∃l,IsSs l∧(blockM T S s).1=nodeM [98,108,111,99,107] l:=by
 have d0:(s.expect T [123]).deep=s.deep:=Dp.expect (f:=s.deep) rfl _;exact⟨_,BX hkS hDS hS (T.length+1) [] (s.expect T [123]) (by omega) .nil h,rfl⟩
theorem QC(V:jW T)(hkE:KF E)(hDE:DK E)(hE:0<m→Ge T m E)(hkU:KF U)(hDU:DK U)(hU:0<m→Ge T m U)(hkS:KF S)(hDS:DK S)(hS:0<m→Gs T m S):Gs T (m+1) (stmtM T E U S):=fun s hd h=>by
 rw[kY]at h⊢;replace h:(dF T E U S (s.down T)).2.err=0:=BF h
 show IsS (dF T E U S (s.down T)).1
 have e1:(s.down T).err=0:=back (fun k=>by
  unfold dF;simp only[k.at,if_false,Bool.false_eq_true];exact(k.simpleM hkE).fin) h
 have dp:=fG e1;have pm:0<m:=by omega
 have hE:=hE pm;have hU:=hU pm;have hS:=hS pm;have d1:(s.down T).deep=s.deep+1:=Dp.down (f:=s.deep) rfl;generalize s.down T=t at h d1;have d2:(t.step T).deep=t.deep:=Dp.step (f:=t.deep) rfl;unfold dF at h⊢
 by_cases c1:t.isAt T [[123]]=true
 ·rw[if_pos c1]at h⊢;obtain⟨l,hl,e⟩:=BU hkS hDS hS t (by omega) h;rw[e];exact .block hl
 rw[if_neg c1]at h⊢
 by_cases c2:t.isAt T [[59]]=true
 ·rw[if_pos c2];exact .empty
 rw[if_neg c2]at h⊢
 by_cases c3:t.isAt T [[105,102]]=true
 ·rw[if_pos c3]at h⊢;exact Hr V hkE hDE hE hkS hDS hS _ (by omega) h
 rw[if_neg c3]at h⊢
 by_cases c4:t.isAt T [[119,104,105,108,101]]=true
 ·rw[if_pos c4]at h⊢;dsimp only at h⊢;have d3:((t.step T).expect T [40]).deep=t.deep:=Dp.expect d2 _;have d4:=Dp.insideM (T:=T) d3 hDE [41];have d4':(insideM T E [41] ((t.step T).expect T [40])).2.deep=t.deep:=d4;have e2:(insideM T E [41] ((t.step T).expect T [40])).2.err=0:=back (fun q=>uV hkS _ _ q) h;exact .whil (kH V hkE hE _ _ (by omega) e2) (zQ hS _ (by omega) h)
 rw[if_neg c4]at h⊢
 by_cases c5:t.isAt T [[102,111,114]]=true
 ·rw[if_pos c5]at h⊢;exact PN V hkE hDE hE hkU hDU hU hkS hDS hS _ (by omega) h
 rw[if_neg c5]at h⊢;exact .simple (zu V hkE hDE hE hkU hDU hU _ (by omega) (back (fun q=>q.fin) h))
theorem sts(V:jW T):∀n,0<n→Gs T n (stL T n)
 |0,h=>absurd h (Nat.lt_irrefl _)
 |n+1,_=>by
   obtain⟨k1,k2,_,_⟩:=lZ T n;obtain⟨d1,d2,_,_⟩:=lU T n;rw[stL];exact QC V k1 d1 (fun p=>(gls V n p).expr) k2 d2 (fun p=>(gls V n p).unary) (DD T n) (yL T n) (sts V n)
theorem Np(V:jW T):∀(K:Nat) (l:List Tree) (s:PS),(∀p∈l,IsPar p)→(parN T K l s).2.err=0→∀p∈(parN T K l s).1,IsPar p
 |0,_,_,hl,_=>hl
 |K+1,l,s,hl,h=>by
   rw[FM]at h⊢;split at h
   ·rename_i c;rw[if_pos c];have e1:(PS.name T (if l=[]then s else(s.expect T [44]).lines T) [5]).2.err=0:=back (fun q=>q.lines.parN _ _) h;refine Np V K _ _ (fun p hp=>?_) h;rcases List.mem_append.1 hp with hp|hp
    ·exact hl p hp
    ·cases List.mem_singleton.1 hp;exact⟨_,_,lH V (by simp) e1,rfl⟩
   ·rename_i c;rw[if_neg c];exact hl
theorem Px(V:jW T)(s:PS)(hd:s.deep=0)(h:(itemM T s).2.err=0):IsI (itemM T s).1:=by
 have hS:=sts V 51 (by decide);have kS:=DD T 51;have dS:=yL T 51;have B:=BU kS dS hS;have hE:=(gls V 51 (by decide)).expr;have kE:=(lZ T 51).1;have dE:=(lU T 51).1;have d1:(s.step T).deep=s.deep:=Dp.step (f:=s.deep) rfl;rw[rD]at h⊢;unfold pI at h⊢
 by_cases c1:s.isAt T [[66,69,71,73,78]]=true
 ·rw[if_pos c1]at h⊢;obtain⟨l,hl,e⟩:=B _ (by omega) h;dsimp only;rw[e];exact .begin (by decide) hl
 rw[if_neg c1]at h⊢
 by_cases c2:s.isAt T [[69,78,68]]=true
 ·rw[if_pos c2]at h⊢;obtain⟨l,hl,e⟩:=B _ (by omega) h;dsimp only;rw[e];exact .begin (by decide) hl
 rw[if_neg c2]at h⊢
 by_cases c3:s.isAt T [[102,117,110,99,116,105,111,110]]=true
 ·rw[if_pos c3]at h⊢;dsimp only at h⊢;have d2:Dp s.deep ((s.step T).name T [5,6]).2:=Dp.name d1 _;have b2:=lH (s:=s.step T) (ks:=[5,6]) V (by simp);generalize (s.step T).name T [5,6]=x at h d2 b2;have d3:=Dp.parN (T:=T) (T.length+1) (l:=[]) ((d2.expect (T:=T) [40]).lines (T:=T));have g3:=Np V (T.length+1) [] ((x.2.expect T [40]).lines T) (by simp);have b3:(parN T (T.length+1) [] ((x.2.expect T [40]).lines T)).2.err=0→x.2.err=0:=fun e=>back (fun q=>(q.expect _).lines.parN _ _) e;generalize parN T (T.length+1) [] ((x.2.expect T [40]).lines T)=y at h d3 g3 b3;have d4:((y.2.expect T [41]).lines T).deep=s.deep:=(d3.expect _).lines;have e3:y.2.err=0:=back (fun q=>(q.expect _).lines.blockM) h;obtain⟨l,hl,e⟩:=B _ (by omega) h;rw[e];exact .func (b2 (b3 e3)) (g3 e3) hl
 rw[if_neg c3]at h⊢
 by_cases c4:s.isAt T [[123]]=true
 ·rw[if_pos c4]at h⊢;obtain⟨l,hl,e⟩:=B _ (by omega) h;dsimp only;rw[e];exact .always hl
 rw[if_neg c4]at h⊢;have dx:=dE.eq s;have gx:=hE s (by omega);generalize (lev T 51).expr s=x at h dx gx
 by_cases c5:x.2.isAt T [[123]]=true
 ·rw[if_pos c5]at h⊢;obtain⟨l,hl,e⟩:=B x.2 (by omega) h;dsimp only;rw[e];exact .rule (gx (back (fun q=>q.blockM) h)) hl
 ·rw[if_neg c5]at h⊢;exact .default (gx (back (fun q=>Kp.iteS q.fail q) h))
theorem Dy(V:jW T):∀(K:Nat) (l:List Tree) (s:PS),s.deep=0→(∀t∈l,IsI t)→(itemsN T K l s).2.err=0→∀t∈(itemsN T K l s).1,IsI t
 |0,_,_,_,hl,_=>hl
 |K+1,l,s,hd,hl,h=>by
   rw[Dz]at h⊢;have d1:(s.skip T).deep=0:=Dp.skip hd
   by_cases c:s.err=0
   ·rw[if_pos c]at h⊢
    by_cases c2:((s.skip T).cur T).k=0
    ·rw[if_pos c2];exact hl
    ·rw[if_neg c2]at h⊢;have d2:(itemM T (s.skip T)).2.deep=0:=Dp.itemM d1;have e1:(itemM T (s.skip T)).2.err=0:=back (fun q=>q.itemsN _ _) h;refine Dy V K _ _ d2 (fun t ht=>?_) h;rcases List.mem_append.1 ht with ht|ht
     ·exact hl t ht
     ·cases List.mem_singleton.1 ht;exact Px V _ d1 e1
   ·rw[if_neg c];exact hl
theorem Nq(V:jW T){t:Tree}(h:nS T=.inl t):∃l,(∀i∈l,IsI i)∧t=nodeM [112,114,111,103,114,97,109] l:=by
 unfold nS at h;dsimp only at h;split at h
 ·cases h
 ·rename_i c;cases h;exact⟨_,Dy V _ _ _ rfl (by simp) (Classical.not_not.1 c),rfl⟩
end
section
open Mir
def NmL(T:List Tokn):Prop:=∀t∈T,(t.k=5∨t.k=6)→t.t≠[]
theorem NmL.add{T:List Tokn}(h:NmL T){t:Tokn}(k:(t.k=5∨t.k=6)→t.t≠[]):NmL (T++[t]):=fun x hx=>by
 rcases List.mem_append.1 hx with hx|hx
 ·exact h x hx
 ·cases List.mem_singleton.1 hx;exact k
theorem NmL.ok{T:List Tokn}(h:NmL T):jW T:=fun i k=>by
 by_cases hi:i<T.length
 ·rw[List.getD_eq_getElem?_getD,List.getElem?_eq_getElem hi]at k⊢;exact h _ (List.getElem_mem hi) k
 ·rw[List.getD_eq_getElem?_getD,List.getElem?_eq_none (by omega)]at k;exact absurd k (by decide)
theorem QE{s:Txt}{i:Nat}(hi:i<s.length)(h:isLet (pk s i)=true):kC s i (past aV s i)≠[]:=by
 have a:=kT (p:=aV) hi (by unfold aV;rw[h];rfl);have b:=jr aV s (i+1);have c:=iL aV (Nat.le_of_lt hi);intro e;have:=congrArg List.length e;rw[kC,List.length_drop,List.length_take,List.length_nil]at this;omega
theorem PR{ws bs ns:List Txt}{s:Txt}{i j:Nat}{T T':List Tokn}(hi:i<s.length)(hT:NmL T)(h:fK ws bs ns s i T=.inr (j,T')):NmL T':=by
 simp only[fK]at h;split at h
 ·simp only[Sum.inr.injEq,Prod.mk.injEq]at h;obtain⟨rfl,rfl⟩:=h;exact hT
 split at h
 ·simp only[Sum.inr.injEq,Prod.mk.injEq]at h;obtain⟨rfl,rfl⟩:=h;exact hT
 split at h
 ·simp only[Sum.inr.injEq,Prod.mk.injEq]at h;obtain⟨rfl,rfl⟩:=h;exact hT
 split at h
 ·simp only[Sum.inr.injEq,Prod.mk.injEq]at h;obtain⟨rfl,rfl⟩:=h;exact hT.add (by simp)
 split at h
 ·simp only[Sum.inr.injEq,Prod.mk.injEq]at h;obtain⟨rfl,rfl⟩:=h;exact hT.add (by simp)
 split at h
 ·rename_i c;simp only[Sum.inr.injEq,Prod.mk.injEq]at h;obtain⟨rfl,rfl⟩:=h;exact hT.add (fun _=>QE hi c)
 split at h
 ·split at h
  ·cases h
  ·simp only[Sum.inr.injEq,Prod.mk.injEq]at h;obtain⟨rfl,rfl⟩:=h;exact hT.add (by simp)
 split at h
 ·split at h
  ·cases h
  ·simp only[Sum.inr.injEq,Prod.mk.injEq]at h;obtain⟨rfl,rfl⟩:=h;exact hT.add (by simp)
 split at h
 ·cases h
 ·simp only[Sum.inr.injEq,Prod.mk.injEq]at h;obtain⟨rfl,rfl⟩:=h;exact hT.add (by simp)
theorem MC{ws bs ns:List Txt}{s:Txt}:∀(k i:Nat) (T U:List Tokn),NmL T→kL ws bs ns s k i T=.inr U→NmL U
 |0,_,_,_,_,h=>by simp[kL]at h
 |k+1,i,T,U,hT,h=>by
   rw[kL]at h;split at h
   ·simp only[Sum.inr.injEq]at h;subst h;exact hT.add (by simp)
   ·rename_i c;split at h
    ·cases h
    ·rename_i i' T' e;exact MC k i' T' U (PR (by omega) hT e) h
theorem PL{ws bs ns:List Txt}{s:Txt}{k:Nat}{U:List Tokn}(h:kL ws bs ns s k 0 []=.inr U):jW U:=(MC k 0 [] U (by unfold NmL;simp) h).ok
end
section
open Mir
def dH:List Txt:=[[118,97,114],[105,110,100,101,120],[105,110],[110,97,109,101],[102,111,114,105,110],[99,97,108,108],[102,117,110,99],[112,97,114,97,109]]
def fC:List Txt:=[[98,114,101,97,107],[99,111,110,116,105,110,117,101],[114,101,116,117,114,110],[110,101,120,116]]
def WT(n:Tree):Prop:=(n.op∈dH→n.text≠[])∧(n.op∈fC→n.text=[])∧(n.op=[102,117,110,99]→∀x∈n.kids.dropLast,x.text≠[])
inductive Any:Tree→Prop
 |e {t:Tree}:IsE t→Any t
 |p {t:Tree}:IsP t→Any t
 |s {t:Tree}:IsS t→Any t
 |i {t:Tree}:IsI t→Any t
 |par {t:Tree}:IsPar t→Any t
 |name {u:Txt} {b:Nat}:u≠[]→Any (.nd [110,97,109,101] u b [])
 |to {w:Txt} {e:Tree}:w∈[[116,111],[97,112,112,101,110,100]]→IsE e→Any (nodeM w [e])
 |block {l:List Tree}:IsSs l→Any (nodeM [98,108,111,99,107] l)
 |leaf {o:Txt}:o∈[[97,108,119,97,121,115],[100,101,102,97,117,108,116],[110,111,110,101]]→Any (nodeM o [])
theorem dV{o t:Txt}{a:Nat}{l:List Tree}(h:o∉dH∧o∉fC):WT (.nd o t a l):=
 ⟨fun x=>absurd x h.1,fun x=>absurd x h.2,fun x=>absurd (by rw[show o=[102,117,110,99]from x];decide) h.1⟩
theorem yj{o t:Txt}{a:Nat}{l:List Tree}(h:o∉fC∧o≠[102,117,110,99])(ht:t≠[]):WT (.nd o t a l):=
 ⟨fun _=>ht,fun x=>absurd x h.1,fun x=>absurd x h.2⟩
theorem IsEs.all{l:List Tree}(h:IsEs l):∀k∈l,Any k:=by
 induction l with
 |nil=>simp
 |cons x l ih =>
   cases h with
   |cons a b =>
     intro k hk;rcases List.mem_cons.1 hk with rfl|hk
     ·exact .e a
     ·exact ih b k hk
theorem IsSs.all{l:List Tree}(h:IsSs l):∀k∈l,Any k:=by
 induction l with
 |nil=>simp
 |cons x l ih =>
   cases h with
   |cons a b =>
     intro k hk;rcases List.mem_cons.1 hk with rfl|hk
     ·exact .s a
     ·exact ih b k hk
theorem all1{x:Tree}(a:Any x):∀k∈[x],Any k:=by simp[a]
theorem all2{x y:Tree}(a:Any x)(b:Any y):∀k∈[x,y],Any k:=by simp[a,b]
theorem Q9{x y z:Tree}(a:Any x)(b:Any y)(c:Any z):∀k∈[x,y,z],Any k:=by simp[a,b,c]
theorem Tv{o:Txt}(h:o∈unOps):o∉dH∧o∉fC:=by revert o;decide
theorem P6{o:Txt}(h:o∈binOps):o∉dH∧o∉fC:=by revert o;decide
theorem P7{o:Txt}(h:o∈incOps):o∉dH∧o∉fC:=by revert o;decide
theorem P9{o:Txt}(h:o∈[[110,117,109],[115,116,114],[114,101]]):o∉dH∧o∉fC:=by revert o;decide
theorem GR{o:Txt}(h:o∈[[112,114,105,110,116],[112,114,105,110,116,102]]):o∉dH∧o∉fC:=by revert o;decide
theorem Tu{o:Txt}(h:o∈[[116,111],[97,112,112,101,110,100]]):o∉dH∧o∉fC:=by revert o;decide
theorem MZ{o:Txt}(h:o∈[[97,108,119,97,121,115],[100,101,102,97,117,108,116],[110,111,110,101]]):o∉dH∧o∉fC:=by revert o;decide
theorem PZ{o:Txt}(h:o∈[[98,101,103,105,110],[101,110,100]]):o∉dH∧o∉fC:=by revert o;decide
theorem Na{o:Txt}(h:o∈[[98,114,101,97,107],[99,111,110,116,105,110,117,101],[110,101,120,116]]):o∉dH:=by revert o;decide
theorem GU{o:Txt}(h:o∈[[101,120,105,116],[114,101,116,117,114,110]]):o∉dH:=by revert o;decide
theorem IsE.any{t:Tree}(h:IsE t):WT t∧∀k∈t.kids,Any k:=by
 cases h with
 |lit h=>exact⟨dV (P9 h),by simp[Tree.kids]⟩
 |var h=>exact⟨yj (by decide) h,by simp[Tree.kids]⟩
 |index h e=>exact⟨yj (by decide) h,all1 (.e e)⟩
 |field e=>exact⟨dV (by decide),all1 (.e e)⟩
 |builtin _ _ _ l=>exact⟨dV (by decide),l.all⟩
 |split u _ e l=>exact⟨dV (by decide),fun k hk=>by
   rcases List.mem_cons.1 hk with rfl|hk
   ·exact .e e
   rcases List.mem_cons.1 hk with rfl|hk
   ·exact .name u
   ·exact l.all k hk⟩
 |call h l=>exact⟨yj (by decide) h,l.all⟩
 |inc o _ e=>exact⟨dV (P7 o),all1 (.e e)⟩
 |un o e=>exact⟨dV (Tv o),all1 (.e e)⟩
 |bin o e f=>exact⟨dV (P6 o),all2 (.e e) (.e f)⟩
 |isin h e=>exact⟨yj (by decide) h,all1 (.e e)⟩
 |cond e f g=>exact⟨dV (by decide),Q9 (.e e) (.e f) (.e g)⟩
 |assign _ _ e f=>exact⟨dV (by decide),all2 (.e e) (.e f)⟩
theorem BJ{o:Txt}{a:Nat}{l:List Tree}(h:o∉dH):WT (.nd o [] a l):=
 ⟨fun x=>absurd x h,fun _=>rfl,fun x=>absurd (by rw[show o=[102,117,110,99]from x];decide) h⟩
theorem IsP.any{t:Tree}(h:IsP t):WT t∧∀k∈t.kids,Any k:=by
 cases h with
 |expr e=>exact⟨dV (by decide),all1 (.e e)⟩
 |stop o=>exact⟨BJ (Na o),by simp[Tree.kids]⟩
 |out0 o=>exact⟨BJ (GU o),by simp[Tree.kids]⟩
 |out1 o e=>exact⟨BJ (GU o),all1 (.e e)⟩
 |del1 t e=>exact⟨dV (by decide),all1 (.e (.index t e))⟩
 |del0 t=>exact⟨dV (by decide),all1 (.name t)⟩
 |print0 o _ l=>exact⟨dV (GR o),fun k hk=>by
   rcases List.mem_cons.1 hk with rfl|hk
   ·exact .leaf (by decide)
   ·exact l.all k hk⟩
 |print1 o _ w e l=>exact⟨dV (GR o),fun k hk=>by
   rcases List.mem_cons.1 hk with rfl|hk
   ·exact .to w e
   ·exact l.all k hk⟩
theorem IsN.any{p:Tree→Prop}{t:Tree}(h:IsN p t)(hp:p t→Any t):Any t:=by
 rcases h with rfl|h
 ·exact .leaf (by decide)
 ·exact hp h
theorem IsS.any{t:Tree}(h:IsS t):WT t∧∀k∈t.kids,Any k:=by
 cases h with
 |simple p=>exact p.any
 |empty=>exact⟨dV (by decide),by simp[Tree.kids,nodeM]⟩
 |block l=>exact⟨dV (by decide),l.all⟩
 |if2 e s=>exact⟨dV (by decide),all2 (.e e) (.s s)⟩
 |if3 e s r=>exact⟨dV (by decide),Q9 (.e e) (.s s) (.s r)⟩
 |whil e s=>exact⟨dV (by decide),all2 (.e e) (.s s)⟩
 |forr a b c s=>exact⟨dV (by decide),fun k hk=>by
   rcases List.mem_cons.1 hk with rfl|hk
   ·exact a.any .p
   ·exact Q9 (b.any .e) (c.any .p) (.s s) k hk⟩
 |forin t u s=>exact⟨yj (by decide) t,all2 (.name u) (.s s)⟩
theorem IsPar.any{t:Tree}(h:IsPar t):WT t∧∀k∈t.kids,Any k:=by
 obtain⟨u,a,hu,rfl⟩:=h;exact⟨yj (by decide) hu,by simp[Tree.kids]⟩
theorem IsI.any{t:Tree}(h:IsI t):WT t∧∀k∈t.kids,Any k:=by
 cases h with
 |begin o l=>exact⟨dV (PZ o),all1 (.block l)⟩
 |func t ps l =>
   refine⟨⟨fun _=>t,fun x=>absurd (show [102,117,110,99]∈fC from x) (by decide),fun _ x hx=>?_⟩,fun k hk=>?_⟩
   ·simp only[Tree.kids,List.dropLast_concat]at hx;obtain⟨u,a,hu,rfl⟩:=ps x hx;exact hu
   ·rcases List.mem_append.1 hk with hk|hk
    ·exact .par (ps k hk)
    ·exact all1 (.block l) k hk
 |always l=>exact⟨dV (by decide),all2 (.leaf (by decide)) (.block l)⟩
 |rule e l=>exact⟨dV (by decide),all2 (.e e) (.block l)⟩
 |default e=>exact⟨dV (by decide),all2 (.e e) (.leaf (by decide))⟩
theorem Any.any{t:Tree}(h:Any t):WT t∧∀k∈t.kids,Any k:=by
 cases h with
 |e h=>exact h.any
 |p h=>exact h.any
 |s h=>exact h.any
 |i h=>exact h.any
 |par h=>exact h.any
 |name h=>exact⟨yj (by decide) h,by simp[Tree.kids]⟩
 |to w e=>exact⟨dV (Tu w),all1 (.e e)⟩
 |block l=>exact⟨dV (by decide),l.all⟩
 |leaf o=>exact⟨dV (MZ o),by simp[Tree.kids,nodeM]⟩
mutual
theorem Any.wt:∀(t:Tree),Any t→∀n∈nodes t,WT n
 |.nd o t a l,h,n,hn=>by
   unfold nodes at hn;rcases List.mem_cons.1 hn with rfl|hn
   ·exact h.any.1
   ·exact Any.wts l h.any.2 n hn
theorem Any.wts:∀(l:List Tree),(∀k∈l,Any k)→∀n∈aJ l,WT n
 |[],_,n,hn=>by simp[aJ]at hn
 |k::l,h,n,hn=>by
   unfold aJ at hn;rcases List.mem_append.1 hn with hn|hn
   ·exact Any.wt k (h k (by simp)) n hn
   ·exact Any.wts l (fun x hx=>h x (by simp[hx])) n hn
end
def GoodR(N:List Tree)(r:RSt):Prop:=r.order.Nodup∧(r.err=0∨∃n∈N,n.at'=r.bad∧(r.err=11∧n.text≠[]∨r.err=9∧n.text=[]))
variable{N:List Tree}{r:RSt}{F:List RFn}{A:Sym→Bool}{fn:Option Nat}
theorem GoodR.fail(g:GoodR N r){a e:Nat}(h:∃n∈N,n.at'=a∧(e=11∧n.text≠[]∨e=9∧n.text=[])):GoodR N (r.fail a e):=by
 unfold RSt.fail;split
 ·exact⟨g.1,.inr h⟩
 ·exact g
theorem GoodR.name(g:GoodR N r){t:Txt}{a:Nat}(b:Bool)(h:∃n∈N,n.at'=a∧n.text≠[]):GoodR N (rJ F A fn t a b r):=by
 obtain⟨n,hn,ha,ht⟩:=h;have f:=g.fail (a:=a) (e:=11) ⟨n,hn,ha,.inl ⟨rfl,ht⟩⟩;unfold rJ;split
 ·exact f
 ·dsimp only;have g1:GoodR N (if A (symOf F fn t)≠b∨b=true∧(symOf F fn t).1=none∧t∈special then r.fail a 11 else r):=by split;exact f;exact g
  generalize (if A (symOf F fn t)≠b∨b=true∧(symOf F fn t).1=none∧t∈special then r.fail a 11 else r)=r1 at g1;split
  ·rename_i c;refine⟨?_,g1.2⟩
   show(r1.order++[t]).Nodup
   rw[List.nodup_append];exact⟨g1.1,by simp,fun x hx y hy=>by simp at hy;subst hy;exact fun e=>c.2 (e ▸ hx)⟩
  ·exact g1
theorem rQ(t:Tree):t∈nodes t:=by cases t;unfold nodes;simp
theorem wV{l:List Tree}{t n:Tree}(h:t∈l)(hn:n∈nodes t):n∈aJ l:=by
 induction l with
 |nil=>cases h
 |cons k l ih =>
   unfold aJ;rcases List.mem_cons.1 h with rfl|h
   ·exact List.mem_append.2 (.inl hn)
   ·exact List.mem_append.2 (.inr (ih h))
mutual
theorem jO(W:∀n∈N,WT n):∀(t:Tree) (p:Pl) (r:RSt),(∀n∈nodes t,n∈N)→GoodR N r→GoodR N (jd F A fn t p r)
 |.nd o t a l,p,r,hN,g=>by
   have h0:Tree.nd o t a l∈N:=hN _ (by unfold nodes;simp);have w:=W _ h0;have hl:∀n∈aJ l,n∈N:=fun n hn=>hN n (by unfold nodes;simp[hn]);have nm:o∈dH→∃n∈N,n.at'=a∧n.text≠[]:=fun h=>⟨_,h0,rfl,w.1 h⟩;have br:o∈fC→∃n∈N,n.at'=a∧((9:Nat)=11∧n.text≠[]∨(9:Nat)=9∧n.text=[]):=fun h=>⟨_,h0,rfl,.inr ⟨rfl,w.2.1 h⟩⟩;have K:=fun(p:Pl) (r:RSt)=>wL W l p r hl;unfold jd
   by_cases c0:r.err≠0
   ·rw[if_pos c0];exact g
   rw[if_neg c0]
   by_cases c1:o=[118,97,114]
   ·rw[if_pos c1];exact K _ _ (g.name _ (nm (by rw[c1];decide)))
   rw[if_neg c1]
   by_cases c2:arrOp o
   ·rw[if_pos c2];exact K _ _ (g.name _ (nm (by rcases c2 with c|c|c<;>(rw[c];decide))))
   rw[if_neg c2]
   by_cases c3:o=[102,111,114,105,110]
   ·rw[if_pos c3];exact K _ _ (g.name _ (nm (by rw[c3];decide)))
   rw[if_neg c3]
   by_cases c4:o=[119,104,105,108,101]∨o=[102,111,114]
   ·rw[if_pos c4];exact K _ _ g
   rw[if_neg c4]
   by_cases c5:o=[99,97,108,108]
   ·rw[if_pos c5];obtain⟨n,hn,ha,ht⟩:=nm (by rw[c5];decide);have f:=g.fail (a:=a) (e:=11) ⟨n,hn,ha,.inl ⟨rfl,ht⟩⟩;split
    ·exact f
    ·split
     ·exact f
     ·exact pU W _ l _ _ hl ⟨n,hn,ha,ht⟩ g
   rw[if_neg c5]
   by_cases c6:o=[98,114,101,97,107]∨o=[99,111,110,116,105,110,117,101]
   ·rw[if_pos c6];refine K _ _ ?_;split
    ·exact g
    ·exact g.fail (br (by rcases c6 with c|c<;>(rw[c];decide)))
   rw[if_neg c6]
   by_cases c7:o=[114,101,116,117,114,110]
   ·rw[if_pos c7];refine K _ _ ?_;split
    ·exact g
    ·exact g.fail (br (by rw[c7];decide))
   rw[if_neg c7]
   by_cases c8:o=[110,101,120,116]
   ·rw[if_pos c8];refine K _ _ ?_;split
    ·exact g
    ·exact g.fail (br (by rw[c8];decide))
   rw[if_neg c8];exact K _ _ g
theorem wL(W:∀n∈N,WT n):∀(l:List Tree) (p:Pl) (r:RSt),(∀n∈aJ l,n∈N)→GoodR N r→GoodR N (iY F A fn l p r)
 |[],_,_,_,g=>g
 |k::l,p,r,hN,g=>by
   unfold iY;exact wL W l _ _ (fun n hn=>hN n (by unfold aJ;simp[hn])) (jO W k _ _ (fun n hn=>hN n (by unfold aJ;simp[hn])) g)
theorem pU(W:∀n∈N,WT n){k a:Nat}:∀(ps:List Txt) (l:List Tree) (p:Pl) (r:RSt),(∀n∈aJ l,n∈N)→(∃n∈N,n.at'=a∧n.text≠[])→GoodR N r→GoodR N (jy F A fn k a ps l p r)
 |_,[],_,_,_,_,g=>by unfold jy;exact g
 |ps,x::l,p,r,hN,ha,g=>by
   have hx:∀n∈nodes x,n∈N:=fun n hn=>hN n (by unfold aJ;simp[hn]);have hl:∀n∈aJ l,n∈N:=fun n hn=>hN n (by unfold aJ;simp[hn]);unfold jy;split
   ·exact pU W _ l _ _ hl ha (jO W x _ _ hx g)
   split
   ·obtain⟨n,hn,e,ht⟩:=ha;exact g.fail ⟨n,hn,e,.inl ⟨rfl,ht⟩⟩
   ·rename_i c;have cx:x.op=[118,97,114]:=Classical.not_not.1 c;exact pU W _ l _ _ hl ha (g.name _ ⟨x,hx _ (rQ x),rfl,(W _ (hx _ (rQ x))).1 (by rw[cx];decide)⟩)
end
theorem xh:∀(l:List Tree) (d:List Txt) (r:RSt),(∀x∈l,x∈N∧x.text≠[])→GoodR N r→GoodR N (mf F d l r)
 |[],_,_,_,g=>by unfold mf;exact g
 |x::l,d,r,h,g=>by
   unfold mf;refine xh l _ _ (fun y hy=>h y (by simp[hy])) ?_;split
   ·exact g.fail ⟨x,(h x (by simp)).1,rfl,.inl ⟨rfl,(h x (by simp)).2⟩⟩
   ·exact g
theorem Gv{t k n:Tree}(h:k∈t.kids)(hn:n∈nodes k):n∈nodes t:=by
 cases t;unfold nodes;exact List.mem_cons_of_mem _ (wV h hn)
def FOk(N:List Tree)(F:List RFn):Prop:=∀f∈F,∀n∈nodes f.body,n∈N
theorem Fb(W:∀n∈N,WT n)(hF:FOk N F){t:Tree}{b:Nat}(hN:∀n∈nodes t,n∈N)(g:GoodR N r):GoodR N (wJ F A t b r):=by
 have ht:=hN _ (rQ t);unfold wJ;split
 ·exact jO W t _ _ hN g
 ·rename_i c;have c:t.op=[102,117,110,99]:=Classical.not_not.1 c;split
  ·exact g.fail ⟨t,ht,rfl,.inl ⟨rfl,(W t ht).1 (by rw[c];decide)⟩⟩
  ·rename_i c2;have c2:dZ F t.text=some b:=Classical.not_not.1 c2;have hb:b<F.length:=by
    unfold dZ at c2;exact(List.findIdx?_eq_some_iff_getElem.1 c2).1
   refine jO W _ _ _ (hF _ ?_) (xh _ _ _ (fun x hx=>⟨hN _ (Gv (List.dropLast_subset _ hx) (rQ x)),(W t ht).2.2 c x hx⟩) g);rw[List.getD_eq_getElem?_getD,List.getElem?_eq_getElem hb];exact List.getElem_mem hb
theorem uw(W:∀n∈N,WT n)(hF:FOk N F):∀(l:List Tree) (b:Nat) (r:RSt),(∀n∈aJ l,n∈N)→GoodR N r→GoodR N (nC F A l b r)
 |[],_,_,_,g=>g
 |t::l,b,r,h,g=>uw W hF l _ _ (fun n hn=>h n (by unfold aJ;simp[hn])) (Fb W hF (fun n hn=>h n (by unfold aJ;simp[hn])) g)
theorem pR{l:List Tree}(h:∀i∈l,IsI i):GoodR (aJ l) (aU A l):=by
 have W:=Any.wts l (fun k hk=>.i (h k hk));refine uw W ?_ l 0 _ (fun n hn=>hn) ⟨by simp,.inl rfl⟩;intro f hf n hn;unfold ai at hf;obtain⟨t,ht,rfl⟩:=List.mem_map.1 hf;have c:=List.mem_filter.1 ht;refine wV c.1 (Gv (k:=t.kids.getLastD .zero) ?_ hn);have ne:t.kids≠[]:=by
  have o:t.op=[102,117,110,99]:=of_decide_eq_true c.2;cases h t c.1 with
  |begin q=>simp only[nodeM,Tree.op]at o;subst o;exact absurd q (by decide)
  |func=>simp[Tree.kids]
  |always=>exact absurd o (by simp[nodeM,Tree.op])
  |rule=>exact absurd o (by simp[nodeM,Tree.op])
  |default=>exact absurd o (by simp[nodeM,Tree.op])
 rw[List.getLastD_eq_getLast?,List.getLast?_eq_some_getLast ne];exact List.getLast_mem ne
end
section
open Mir
variable{T:List Tokn}{m c d:Nat}{s s' s'':PS}{E P R U M S:PF}
def Lt(c:Nat)(s s':PS):Prop:=s'.err=0→s.err=0∧s.i+c≤s'.i
def Bd(c:Nat)(s:PS)(x:Tree × PS):Prop:=x.2.err=0→s.err=0∧tsz x.1+c+16*s.i≤16*x.2.i
def Bl(n c:Nat)(s:PS)(x:List Tree × PS):Prop:=x.2.err=0→s.err=0∧dh x.1+c+16*s.i≤n+16*x.2.i
theorem Lt.refl:Lt 0 s s:=fun h=>⟨h,Nat.le_refl _⟩
theorem Lt.trans(a:Lt c s s')(b:Lt d s' s''):Lt (c+d) s s'':=fun h=>by
 obtain⟨b1,b2⟩:=b h;obtain⟨a1,a2⟩:=a b1;exact⟨a1,by omega⟩
theorem Lt.le(a:Lt c s s')(h:d≤c):Lt d s s':=fun e=>⟨(a e).1,by have:=(a e).2;omega⟩
theorem aX{o t:Txt}{a:Nat}{l:List Tree}:tsz (.nd o t a l)=dh l+1:=by rw[tsz]
theorem aB:dh []=0:=by rw[dh]
theorem ak{k:Tree}{l:List Tree}:dh (k::l)=tsz k+dh l+1:=by rw[dh]
theorem jK{l m:List Tree}:dh (l++m)=dh l+dh m:=by
 induction l with
 |nil=>simp[aB]
 |cons x l ih=>rw[List.cons_append,ak,ak,ih];omega
theorem Lt.step0:Lt 0 s (s.step T):=by
 unfold PS.step;split
 ·exact fun h=>⟨h,by show s.i+0≤s.i+1;omega⟩
 ·exact Lt.refl
theorem Lt.fail(c:Nat):Lt c s (s.fail T):=fun h=>absurd h (gW s)
theorem Lt.linesN:∀(K:Nat) {s:PS},Lt 0 s (linesN T K s)
 |0,_=>Lt.refl
 |K+1,s=>by
   rw[Mir.linesN];split
   ·exact Lt.step0.trans (Lt.linesN K)
   ·exact Lt.refl
theorem Lt.lines:Lt 0 s (s.lines T):=Lt.linesN _
theorem Lt.skipN:∀(K:Nat) {s:PS},Lt 0 s (skipN T K s)
 |0,_=>Lt.refl
 |K+1,s=>by
   rw[Mir.skipN];split
   ·exact Lt.step0.trans (Lt.skipN K)
   ·exact Lt.refl
theorem Lt.skip:Lt 0 s (s.skip T):=Lt.skipN _
theorem Lt.down:Lt 0 s (s.down T):=by
 unfold PS.down;split
 ·exact fun h=>by cases h
 ·exact fun h=>⟨h,Nat.le_refl _⟩
theorem Lt.wrong{a e:Nat}{q:Prop}[Decidable q](he:e≠0):Lt 0 s (s.wrong a q e):=by
 unfold PS.wrong;split
 ·exact fun h=>absurd h he
 ·exact Lt.refl
theorem Lt.ite{p:Prop}[Decidable p]{a b:PS}(ha:Lt c s a)(hb:Lt c s b):Lt c s (if p then a else b):=by split;exact ha;exact hb
def fB(T:List Tokn):Prop:=(T.getD (T.length-1) tkz).k=0
theorem Lt.step1(W:fB T)(h:(s.cur T).k≠0):Lt 1 s (s.step T):=by
 have e:=iK h;rw[JU e]at h;have h1:s.i<T.length:=Classical.byContradiction fun x=>h (by rw[List.getD_eq_getElem?_getD,List.getElem?_eq_none (by omega)];rfl);have h2:s.i≠T.length-1:=fun x=>h (by rw[x];exact W);unfold PS.step;rw[if_pos ⟨e,by omega⟩];exact fun _=>⟨e,Nat.le_refl _⟩
theorem Lt.at1(W:fB T){l:List Txt}(h:s.isAt T l=true):Lt 1 s (s.step T):=Lt.step1 W (by rcases at_k h with e|e<;>omega)
theorem Lt.expect(W:fB T)(x:Txt):Lt 1 s (s.expect T x):=by
 unfold PS.expect;split
 ·rename_i c;exact Lt.at1 W c
 ·exact Lt.fail _
theorem Lt.name(W:fB T){ks:List Nat}(h0:0∉ks):Lt 1 s (s.name T ks).2:=by
 unfold PS.name;split
 ·rename_i c;exact Lt.step1 W fun e=>h0 (e ▸ c)
 ·exact Lt.fail _
theorem Lt.flat{b:Bool}:Lt 0 s {s with flat:=b}:=fun h=>⟨h,Nat.le_refl _⟩
def BE(T:List Tokn)(m:Nat)(M:PF):Prop:=∀s,s.deep+m=51→Bd 8 s (M s)
theorem Bd.from{x:Tree × PS}{e:Nat}(a:Lt d s s')(b:Bd c s' x)(h:e≤c+16*d):Bd e s x:=fun h=>by
 obtain⟨b1,b2⟩:=b h;obtain⟨a1,a2⟩:=a b1;exact⟨a1,by omega⟩
theorem Gw(W:fB T)(hk:KF M)(hD:DK M)(hM:BE T m M)(e:Txt):∀(K:Nat) (l:List Tree) (s:PS),s.deep+m=51→Bl (dh l) 0 s (listN T M e K l s)
 |0,_,_,_=>by have _:=W;exact fun h=>⟨h,Nat.le_refl _⟩
 |K+1,l,s,hd=>fun h=>by
   rw[Gy]at h⊢;split at h
   ·rename_i c;rw[if_pos c];have e1:(M (if l=[]then s else(s.expect T [44]).lines T)).2.err=0:=back (fun q=>q.lines.listN e K _) h;have d1:Dp s.deep (if l=[]then s else(s.expect T [44]).lines T):=Dp.iteS rfl ((Dp.expect (T:=T) rfl _).lines);have d2:=(hD _ _ d1).lines (T:=T);have d1':(if l=[]then s else(s.expect T [44]).lines T).deep=s.deep:=d1;have d2':(PS.lines T (M (if l=[]then s else(s.expect T [44]).lines T)).2).deep=s.deep:=d2;obtain⟨r1,r2⟩:=Gw W hk hD hM e K _ _ (by omega) h;obtain⟨r3,r4⟩:=Lt.lines r1;obtain⟨r5,r6⟩:=hM _ (by omega) r3;obtain⟨r7,r8⟩:=(Lt.ite Lt.refl ((Lt.expect W _).trans Lt.lines |>.le (by omega)):Lt 0 s (if l=[]then s else(s.expect T [44]).lines T)) r5;rw[jK,ak,aB]at r2;exact⟨r7,by omega⟩
   ·rename_i c;rw[if_neg c];exact⟨h,Nat.le_refl _⟩
theorem AY(W:fB T)(hk:KF M)(hD:DK M)(hM:BE T m M)(e:Txt)(s:PS)(hd:s.deep+m=51):Bl 0 16 s (listM T M e s):=fun h=>by
 unfold listM at h⊢;dsimp only at h⊢;have d:(PS.lines T {s with flat:=false}).deep=s.deep:=Dp.lines (f:=s.deep) rfl;obtain⟨r1,r2⟩:=(Lt.expect W e) h;obtain⟨r3,r4⟩:=Gw W hk hD hM e _ _ _ (by omega) r1;obtain⟨r5,r6⟩:=(Lt.flat (s:=s) (b:=false)).trans (Lt.lines (T:=T)) r3;rw[aB]at r4;exact⟨r5,by show _≤0+16*(PS.expect T _ e).i;omega⟩
theorem kG(W:fB T)(hM:BE T m M)(e:Txt)(s:PS)(hd:s.deep+m=51):Bd 24 s (insideM T M e s):=fun h=>by
 unfold insideM at h⊢;dsimp only at h⊢;have d:(PS.lines T {s with flat:=false}).deep=s.deep:=Dp.lines (f:=s.deep) rfl;obtain⟨r1,r2⟩:=(Lt.lines.trans (Lt.expect W e)) h;obtain⟨r3,r4⟩:=hM _ (by omega) r1;obtain⟨r5,r6⟩:=(Lt.flat (s:=s) (b:=false)).trans (Lt.lines (T:=T)) r3;exact⟨r5,by show _≤16*(PS.expect T _ e).i;omega⟩
theorem Oc{l:List Tree}{i:Nat}{t:Tree}(h:i<l.length)(e:tsz t=tsz (l.getD i .zero)):dh (l.set i t)=dh l:=by
 induction l generalizing i with
 |nil=>cases h
 |cons x l ih =>
   cases i with
   |zero=>rw[List.set_cons_zero,ak,ak,e];rfl
   |succ i=>rw[List.set_cons_succ,ak,ak,ih (by simpa using h) e]
theorem JA{t:Tokn}{l:List Tree}:Lt 0 s (biPost t l s).2∧((biPost t l s).2.err=0→dh (biPost t l s).1≤dh l+8):=by
 have nw:∀{a e:Nat} {q:Prop} [Decidable q],e≠0→(s.wrong a q e).err=0→¬q:=fun {a e q} _ he h x=>by
  have s0:=((Lt.wrong he:Lt 0 s (s.wrong a q e)) h).1;unfold PS.wrong at h;rw[if_pos ⟨x,s0⟩]at h;exact he h
 unfold biPost;dsimp only;split
 ·exact⟨Lt.wrong (by decide),fun _=>by show dh l≤_;omega⟩
 split
 ·exact⟨Lt.wrong (by decide),fun _=>by show dh l≤_;omega⟩
 split
 ·refine⟨Lt.wrong (by decide),fun h=>?_⟩;have w:=nw (by decide) h;dsimp only at h⊢;rw[if_pos h,Oc (by omega) (by cases l.getD 1 .zero;simp[Tree.withOp,aX])];omega
 split
 ·refine⟨Lt.wrong (by decide),fun h=>?_⟩;dsimp only;split
  ·rw[jK,ak,aB,nodeM,aX,ak,aB,aX,aB];omega
  ·omega
 split
 ·exact⟨Lt.wrong (by decide),fun _=>by show dh l≤_;omega⟩
 split
 ·exact⟨Lt.wrong (by decide),fun _=>by show dh l≤_;omega⟩
 split
 ·exact⟨Lt.wrong (by decide),fun _=>by show dh l≤_;omega⟩
 split
 ·exact⟨(Lt.wrong (by decide)).trans (Lt.wrong (by decide)),fun _=>by show dh l≤_;omega⟩
 ·exact⟨Lt.wrong (by decide),fun _=>by show dh l≤_;omega⟩
theorem Ez(W:fB T)(hk:KF M)(hD:DK M)(hM:BE T m M)(s:PS)(hd:s.deep+m=51)(h0:(s.cur T).k≠0):Bd 8 s (builtinM T M s):=fun h=>by
 unfold builtinM at h⊢;split at h
 ·rename_i c;rw[if_pos c];obtain⟨r1,r2⟩:=Lt.step1 W h0 h;exact⟨r1,by unfold aN;dsimp only;rw[aX,aB];omega⟩
 ·rename_i c;rw[if_neg c];dsimp only at h⊢;have d:((s.step T).expect T [40]).deep=s.deep:=Dp.expect (f:=s.deep) (Dp.step rfl) _;obtain⟨b1,b2⟩:=JA (s:=(listM T M [41] ((s.step T).expect T [40])).2) (t:=s.cur T) (l:=(listM T M [41] ((s.step T).expect T [40])).1);have b3:=b2 h;obtain⟨r1,r2⟩:=b1 h;obtain⟨r3,r4⟩:=AY W hk hD hM _ _ (by omega) r1;obtain⟨r5,r6⟩:=(Lt.step1 W h0).trans (Lt.expect W _) r3;exact⟨r5,by unfold aN;rw[aX];omega⟩
theorem sW(W:fB T)(h0:(s.cur T).k≠0){o t:Txt}{a:Nat}:Bd 8 s (.nd o t a [],s.step T):=fun h=>by
 obtain⟨r1,r2⟩:=Lt.step1 W h0 h;exact⟨r1,by dsimp only;rw[aX,aB];omega⟩
theorem gY{e:Nat}{x:Tree × PS}(b:Bd c s x)(h:e+2≤c){o t:Txt}{a:Nat}:Bd e s (.nd o t a [x.1],x.2):=fun h=>by
 obtain⟨r1,r2⟩:=b h;exact⟨r1,by dsimp only;rw[aX,ak,aB];omega⟩
theorem Qj(W:fB T)(hk:KF E)(hkP:KF P)(hkR:KF R)(hD:DK E)(hE:BE T (m+1) E)(hP:0<m→BE T m P)(hR:0<m→BE T m R)(s:PS)(hd:s.deep+(m+1)=51):Bd 8 s (primM T E P R s):=fun h=>by
 have d1:(s.step T).deep=s.deep:=Dp.step (f:=s.deep) rfl;unfold primM at h⊢;dsimp only at h⊢
 by_cases c2:(s.cur T).k=2
 ·rw[if_pos c2]at h⊢;exact sW W (by omega) h
 rw[if_neg c2]at h⊢
 by_cases c3:(s.cur T).k=3
 ·rw[if_pos c3]at h⊢;exact sW W (by omega) h
 rw[if_neg c3]at h⊢
 by_cases c4:(s.cur T).k=4
 ·rw[if_pos c4]at h⊢;split at h
  ·exact absurd (Lt.step0 h).1 (gW _)
  ·rename_i cr;rw[if_neg cr];exact sW W (by omega) h
 rw[if_neg c4]at h⊢
 by_cases c5:(s.cur T).k=5
 ·rw[if_pos c5]at h⊢;split at h
  ·rename_i c;rw[if_pos c];have d2:((s.step T).step T).deep=s.deep:=Dp.step (f:=s.deep) (Dp.step rfl);exact gY (Bd.from ((Lt.step1 W (by omega)).trans (Lt.at1 W c)) (kG W hE _ _ (by omega)) (Nat.le_refl _)) (by omega) h
  ·rename_i c;rw[if_neg c];exact sW W (by omega) h
 rw[if_neg c5]at h⊢
 by_cases c6:(s.cur T).k=6
 ·rw[if_pos c6]at h⊢;have d2:((s.step T).expect T [40]).deep=s.deep:=Dp.expect (f:=s.deep) (Dp.step rfl) _;obtain⟨r3,r4⟩:=AY W hk hD hE _ _ (by omega) h;obtain⟨r5,r6⟩:=(Lt.step1 W (by omega)).trans (Lt.expect W _) r3;exact⟨r5,by unfold aN;dsimp only;rw[aX];omega⟩
 rw[if_neg c6]at h⊢
 by_cases c9:(s.cur T).k=9
 ·rw[if_pos c9]at h⊢;exact Ez W hk hD hE s hd (by omega) h
 rw[if_neg c9]at h⊢
 by_cases cp:s.isAt T [[40]]=true
 ·rw[if_pos cp]at h⊢;exact Bd.from (Lt.at1 W cp) (kG W hE _ _ (by omega)) (by omega) h
 rw[if_neg cp]at h⊢
 by_cases cd:s.isAt T [[36]]=true
 ·rw[if_pos cd]at h⊢;have d3:((s.step T).down T).deep=s.deep+1:=Dp.down (f:=s.deep) (Dp.step rfl);have l3:=(Lt.at1 W cd).trans (Lt.down (T:=T));split at h
  ·rename_i c;rw[if_pos c];have e1:((s.step T).down T).err=0:=back (fun q=>hkP _ _ q) h;have:=fG e1;exact gY (Bd.from l3 (hP (by omega) _ (by omega)) (Nat.le_refl _)) (by omega) h
  ·rename_i c;rw[if_neg c];have e1:((s.step T).down T).err=0:=back (fun q=>hkR _ _ q) h;have:=fG e1;exact gY (Bd.from l3 (hR (by omega) _ (by omega)) (Nat.le_refl _)) (by omega) h
 ·rw[if_neg cd]at h;exact absurd h (gW s)
theorem Qh(W:fB T)(hk:KF R)(hR:BE T m R)(s:PS)(hd:s.deep+m=51):Bd 8 s (postM T R s):=fun h=>by
 unfold postM at h⊢;dsimp only at h⊢;have d1:(s.step T).deep=s.deep:=Dp.step (f:=s.deep) rfl;have key:∀o:Txt,Lt 1 s (s.step T)→(if(R (s.step T)).1.isPlace=true then(nodeM o [(R (s.step T)).1],(R (s.step T)).2)else(.zero,(R (s.step T)).2.fail T)).2.err=0 →
   s.err=0∧tsz (if(R (s.step T)).1.isPlace=true then(nodeM o [(R (s.step T)).1],(R (s.step T)).2)else(.zero,(R (s.step T)).2.fail T)).1+8+16*s.i≤16*(if(R (s.step T)).1.isPlace=true then(nodeM o [(R (s.step T)).1],(R (s.step T)).2)else(.zero,(R (s.step T)).2.fail T)).2.i:=fun o l e=>by
  split at e
  ·rename_i c;rw[if_pos c];exact gY (Bd.from l (hR _ (by omega)) (Nat.le_refl _)) (by omega) e
  ·exact absurd e (gW _)
 by_cases c1:s.isAt T [[43,43]]=true
 ·rw[if_pos c1]at h⊢;exact key _ (Lt.at1 W c1) h
 rw[if_neg c1]at h⊢
 by_cases c2:s.isAt T [[45,45]]=true
 ·rw[if_pos c2]at h⊢;exact key _ (Lt.at1 W c2) h
 rw[if_neg c2]at h⊢;have g:=hR s hd;have key2:∀{o:Txt} {l:List Txt},(R s).2.isAt T l=true→((R s).2.step T).err=0→s.err=0∧tsz (nodeM o [(R s).1])+8+16*s.i≤16*((R s).2.step T).i:=fun {o l} ha e=>by
  obtain⟨r1,r2⟩:=Lt.at1 W ha e;obtain⟨r3,r4⟩:=g r1;exact⟨r3,by rw[nodeM,aX,ak,aB];omega⟩
 split at h
 ·rename_i c;rw[if_pos c];exact g h
 rename_i c;rw[if_neg c];split at h
 ·rename_i c3;rw[if_pos c3];exact key2 c3 h
 rename_i c3;rw[if_neg c3];split at h
 ·rename_i c4;rw[if_pos c4];exact key2 c4 h
 ·rename_i c4;rw[if_neg c4];exact g h
theorem Oe(W:fB T)(hkU:KF U)(hU:0<m→BE T m U)(hP:BE T (m+1) P)(s:PS)(hd:s.deep+(m+1)=51):Bd 8 s (unaryM T U P s):=fun h=>by
 have d1:(s.step T).deep=s.deep:=Dp.step (f:=s.deep) rfl;have d3:((s.step T).down T).deep=s.deep+1:=Dp.down (f:=s.deep) (Dp.step rfl);have key:∀{o:Txt} {l:List Txt},s.isAt T l=true→(U ((s.step T).down T)).2.err=0→s.err=0∧tsz (nodeM o [(U ((s.step T).down T)).1])+8+16*s.i≤16*(U ((s.step T).down T)).2.i:=fun {o l} ha e=>by
  have:=fG (back (fun q=>hkU _ _ q) e);exact gY (Bd.from ((Lt.at1 W ha).trans (Lt.down (T:=T))) (hU (by omega) _ (by omega)) (Nat.le_refl _)) (by omega) e
 unfold unaryM at h⊢;dsimp only at h⊢;split at h
 ·rename_i c;rw[if_pos c];exact key c h
 rename_i c1;rw[if_neg c1];split at h
 ·rename_i c;rw[if_pos c];exact key c h
 rename_i c2;rw[if_neg c2];split at h
 ·rename_i c;rw[if_pos c];exact key c h
 rename_i c3;rw[if_neg c3];exact hP _ hd h
theorem Cf(W:fB T)(hk:KF M)(hD:DK M)(hM:BE T m M)(ln:Bool){ops:List (Txt × Txt)}:∀(K:Nat) (t:Tree) (s:PS),s.deep+m=51→(chainN T M ln ops K t s).2.err=0→s.err=0∧tsz (chainN T M ln ops K t s).1+16*s.i≤tsz t+16*(chainN T M ln ops K t s).2.i
 |0,_,_,_,h=>⟨h,Nat.le_refl _⟩
 |K+1,t,s,hd,h=>by
   rw[Cj]at h⊢
   by_cases c:(s.cur T).k=8
   ·rw[if_pos c]at h⊢;cases ho':ops.lookup (s.cur T).t with
    |none=>rw[ho']at h;exact⟨h,Nat.le_refl _⟩
    |some op =>
      rw[ho']at h;dsimp only at h⊢;have d1:Dp s.deep (if ln=true then(s.step T).lines T else s.step T):=Dp.iteS (Dp.step rfl).lines (Dp.step rfl);have d1':(if ln=true then(s.step T).lines T else s.step T).deep=s.deep:=d1;have d2:=hD.eq (if ln=true then(s.step T).lines T else s.step T);have l1:Lt 1 s (if ln=true then(s.step T).lines T else s.step T):=Lt.ite ((Lt.step1 W (by omega)).trans Lt.lines) (Lt.step1 W (by omega));obtain⟨r1,r2⟩:=Cf W hk hD hM ln K _ _ (by omega) h;obtain⟨r3,r4⟩:=hM _ (by omega) r1;obtain⟨r5,r6⟩:=l1 r3;rw[nodeM,aX,ak,ak,aB]at r2;refine⟨r5,?_⟩;unfold nodeM;omega
   ·rw[if_neg c]at h⊢;exact⟨h,Nat.le_refl _⟩
theorem qJ(W:fB T)(hk:KF M)(hD:DK M)(hM:BE T m M)(ln:Bool){ops:List (Txt × Txt)}:BE T m (dN T M ln ops):=fun s hd h=>by
 unfold dN at h⊢;dsimp only at h⊢;have d:=hD.eq s;obtain⟨r1,r2⟩:=Cf W hk hD hM ln _ _ _ (by omega) h;obtain⟨r3,r4⟩:=hM _ hd r1;exact⟨r3,by omega⟩
theorem JM(W:fB T)(hk:KF M)(hD:DK M)(hM:BE T m M):∀(K:Nat) (t:Tree) (s:PS),s.deep+m=51→(catN T M K t s).2.err=0→s.err=0∧tsz (catN T M K t s).1+16*s.i≤tsz t+16*(catN T M K t s).2.i
 |0,_,_,_,h=>⟨h,Nat.le_refl _⟩
 |K+1,t,s,hd,h=>by
   rw[JP]at h⊢;split at h
   ·rename_i c;rw[if_pos c];have d:=hD.eq s;obtain⟨r1,r2⟩:=JM W hk hD hM K _ _ (by omega) h;obtain⟨r3,r4⟩:=hM _ hd r1;rw[nodeM,aX,ak,ak,aB]at r2;refine⟨r3,?_⟩;unfold nodeM;omega
   ·rename_i c;rw[if_neg c];exact⟨h,Nat.le_refl _⟩
theorem QI(W:fB T)(hk:KF U)(hD:DK U)(hU:BE T m U):BE T m (aY T U):=fun s hd h=>by
 have a1:BE T m (rH T U):=by unfold rH;exact qJ W hk hD hU false
 have a2:BE T m (gB T U):=by unfold gB;exact qJ W (Fj hk) (EJ hD) a1 false
 unfold aY at h⊢;dsimp only at h⊢;have d:=(Ac (T:=T) hD).eq s;obtain⟨r1,r2⟩:=JM W (Ff hk) (Ac hD) a2 _ _ _ (by omega) h;obtain⟨r3,r4⟩:=a2 _ hd r1;exact⟨r3,by omega⟩
theorem UR(W:fB T)(hk:KF U)(hD:DK U)(hU:BE T m U):BE T m (uQ T U):=fun s hd h=>by
 have hc:=QI W hk hD hU;rw[lK]at h⊢;have g:=hc s hd;have d:=(qP (T:=T) hD).eq s;generalize aY T U s=x at h g d;rw[xI]at h⊢
 by_cases c:(x.2.cur T).k=8∧¬((x.2.cur T).t=[62]∧x.2.flat=true)
 ·rw[if_pos c]at h⊢;cases ho:relOps.lookup (x.2.cur T).t with
  |none=>rw[ho]at h;exact g h
  |some op =>
    rw[ho]at h;dsimp only at h⊢;have d2:(x.2.step T).deep=x.2.deep:=Dp.step (f:=x.2.deep) rfl;obtain⟨r1,r2⟩:=hc _ (by omega) h;obtain⟨r3,r4⟩:=Lt.step1 W (by omega) r1;obtain⟨r5,r6⟩:=g r3;exact⟨r5,by rw[nodeM,aX,ak,ak,aB];omega⟩
 ·rw[if_neg c]at h⊢;exact g h
theorem QO(W:fB T):∀(K:Nat) (t:Tree) (s:PS),(inN T K t s).2.err=0→s.err=0∧tsz (inN T K t s).1+16*s.i≤tsz t+16*(inN T K t s).2.i
 |0,_,_,h=>⟨h,Nat.le_refl _⟩
 |K+1,t,s,h=>by
   rw[QQ]at h⊢;split at h
   ·rename_i c;rw[if_pos c];obtain⟨r1,r2⟩:=QO W K _ _ h;obtain⟨r3,r4⟩:=(Lt.at1 W c).trans (Lt.name W (ks:=[5]) (by simp)) r1;rw[aN,aX,ak,aB]at r2;refine⟨r3,?_⟩;unfold aN;omega
   ·rename_i c;rw[if_neg c];exact⟨h,Nat.le_refl _⟩
theorem Vr(W:fB T)(hk:KF U)(hD:DK U)(hU:BE T m U):BE T m (orM T U):=by
 have a5:BE T m (eY T U):=by unfold eY;exact qJ W (Fp hk) (EK hD) (UR W hk hD hU) false
 have a6:BE T m (inM T U):=fun s hd h=>by
  rw[AL]at h⊢;obtain⟨r1,r2⟩:=QO W _ _ _ h;obtain⟨r3,r4⟩:=a5 _ hd r1;exact⟨r3,by omega⟩
 have a7:BE T m (Mir.andM T U):=by unfold Mir.andM;exact qJ W (LZ hk) (Gg hD) a6 true
 unfold Mir.orM;exact qJ W (Fg hk) (JV hD) a7 true
theorem O6(W:fB T)(hkE:KF E)(hDE:DK E)(hE:0<m→BE T m E)(hk:KF U)(hD:DK U)(hU:0<m→BE T m U):BE T (m+1) (mW T E U):=fun s hd h=>by
 rw[jD]at h⊢;replace h:(exprStep T E (orM T U (s.down T))).2.err=0:=BF h;have e2:(orM T U (s.down T)).2.err=0:=vW h;have e1:(s.down T).err=0:=back (fun q=>L8 hk _ _ q) e2;have dp:=fG e1;have pm:0<m:=by omega
 have hE:=hE pm;have hO:=Vr W hk hD (hU pm);have d1:(s.down T).deep=s.deep+1:=Dp.down (f:=s.deep) rfl;have d2:=(JW (T:=T) hD).eq (s.down T);have g:=Bd.from (Lt.down (T:=T)) (hO (s.down T) (by omega)) (Nat.le_refl _);generalize orM T U (s.down T)=x at h e2 g d2
 show s.err=0∧tsz (exprStep T E x).1+8+16*s.i≤16*(exprStep T E x).2.i
 have d3:((x.2.step T).lines T).deep=x.2.deep:=Dp.lines (f:=x.2.deep) (Dp.step rfl);rw[vX]at h⊢
 by_cases c1:x.2.isAt T [[63]]=true
 ·rw[if_pos c1]at h⊢;dsimp only at h⊢;have d4:Dp x.2.deep ((((E ((x.2.step T).lines T)).2.lines T).expect T [58]).lines T):=(((hDE _ _ d3).lines).expect _).lines;have d4':((((E ((x.2.step T).lines T)).2.lines T).expect T [58]).lines T).deep=x.2.deep:=d4;obtain⟨r1,r2⟩:=hE _ (by omega) h;obtain⟨r3,r4⟩:=(Lt.lines.trans (Lt.expect W _)).trans Lt.lines r1;obtain⟨r5,r6⟩:=hE _ (by omega) r3;obtain⟨r7,r8⟩:=(Lt.at1 W c1).trans Lt.lines r5;obtain⟨r9,r10⟩:=g r7;exact⟨r9,by rw[nodeM,aX,ak,ak,ak,aB];omega⟩
 rw[if_neg c1]at h⊢
 by_cases c2:x.1.isPlace=true∧(x.2.cur T).k=8∧(x.2.cur T).t∈assignOps
 ·rw[if_pos c2]at h⊢;obtain⟨r1,r2⟩:=hE _ (by omega) h;obtain⟨r3,r4⟩:=(Lt.step1 W (by omega)).trans Lt.lines r1;obtain⟨r5,r6⟩:=g r3;exact⟨r5,by dsimp only;rw[aX,ak,ak,aB];omega⟩
 ·rw[if_neg c2]at h⊢;exact g h
structure BLv(T:List Tokn)(n:Nat):Prop where
 expr:BE T n (lev T n).expr
 unary:BE T n (lev T n).unary
 post:BE T n (lev T n).post
 prim:BE T n (lev T n).prim
theorem bls(W:fB T):∀n,0<n→BLv T n
 |0,h=>absurd h (Nat.lt_irrefl _)
 |n+1,_=>by
   have S:0<n→BLv T n:=bls W n;obtain⟨k1,k2,k3,k4⟩:=lZ T n;obtain⟨d1,d2,d3,d4⟩:=lU T n;have ke:KF (lev T (n+1)).expr:=(lZ T (n+1)).1;have de:DK (lev T (n+1)).expr:=(lU T (n+1)).1;have e:BE T (n+1) (lev T (n+1)).expr:=by rw[nI];exact O6 W k1 d1 (fun p=>(S p).expr) k2 d2 (fun p=>(S p).unary)
   have r:BE T (n+1) (lev T (n+1)).prim:=by rw[nK];exact fun s hd=>Qj W ke k3 k4 de e (fun p=>(S p).post) (fun p=>(S p).prim) s hd
   have kr:KF (lev T (n+1)).prim:=(lZ T (n+1)).2.2.2;have p:BE T (n+1) (lev T (n+1)).post:=by rw[nJ];exact fun s hd=>Qh W kr r s hd
   exact⟨e,by rw[kK];exact fun s hd=>Oe W k2 (fun p=>(S p).unary) p s hd,p,r⟩
end
section
open Mir
variable{T:List Tokn}{m c d:Nat}{s s' s'':PS}{E P R U M S:PF}
def BS(T:List Tokn)(m:Nat)(M:PF):Prop:=∀s,s.deep+m=51→Bd 4 s (M s)
theorem Nb(W:fB T)(hk:KF E)(hD:DK E)(hE:BE T m E):∀(K:Nat) (l:List Tree) (s:PS),s.deep+m=51→Bl (dh l) 0 s (outN T E K l s)
 |0,_,_,_=>fun h=>⟨h,Nat.le_refl _⟩
 |K+1,l,s,hd=>fun h=>by
   rw[FK]at h⊢;split at h
   ·rename_i c;rw[if_pos c];have e1:(E (if l=[]then s else(s.expect T [44]).lines T)).2.err=0:=back (fun q=>q.outN _ _) h;have d1:Dp s.deep (if l=[]then s else(s.expect T [44]).lines T):=Dp.iteS rfl ((Dp.expect (T:=T) rfl _).lines);have d2:=hD _ _ d1;have d1':(if l=[]then s else(s.expect T [44]).lines T).deep=s.deep:=d1;have d2':(E (if l=[]then s else(s.expect T [44]).lines T)).2.deep=s.deep:=d2;obtain⟨r1,r2⟩:=Nb W hk hD hE K _ _ (by omega) h;obtain⟨r5,r6⟩:=hE _ (by omega) r1;obtain⟨r7,r8⟩:=(Lt.ite Lt.refl ((Lt.expect W _).trans Lt.lines |>.le (by omega)):Lt 0 s (if l=[]then s else(s.expect T [44]).lines T)) r5;rw[jK,ak,aB]at r2;exact⟨r7,by omega⟩
   ·rename_i c;rw[if_neg c];exact⟨h,Nat.le_refl _⟩
theorem IQ(W:fB T)(hk:KF E)(hD:DK E)(hE:BE T m E)(s:PS)(hd:s.deep+m=51):Bl 0 0 s (outArgs T E s):=fun h=>by
 unfold outArgs at h⊢;have d1:(s.step T).deep=s.deep:=Dp.step (f:=s.deep) rfl;split at h
 ·rename_i c;rw[if_pos c];obtain⟨r1,r2⟩:=AY W hk hD hE _ _ (by omega) h;obtain⟨r3,r4⟩:=Lt.step0 r1;exact⟨r3,by omega⟩
 ·rename_i c;rw[if_neg c];have:=Nb W hk hD hE _ _ _ hd h;rwa[aB]at this
theorem IU(W:fB T)(hkE:KF E)(hDE:DK E)(hE:BE T m E)(hkU:KF U)(hDU:DK U)(hU:BE T m U)(op:Txt)(s:PS)(hd:s.deep+m=51)(h:(outputM T E U op s).2.err=0):
  s.err=0∧tsz (outputM T E U op s).1+16*s.i≤3+16*(outputM T E U op s).2.i:=by
 rw[jH]at h⊢;dsimp only at h⊢;have d0:=(Dp.outArgs (T:=T) (f:=s.deep) (s:={s with flat:=true}) rfl hDE);have a:=IQ W hkE hDE hE {s with flat:=true} hd;have e3:(outTo T (aY T U) (outArgs T E {s with flat:=true}).2).2.err=0∧(outEnd T op (outArgs T E {s with flat:=true}).1 (outTo T (aY T U) (outArgs T E {s with flat:=true}).2).2).i=(outTo T (aY T U) (outArgs T E {s with flat:=true}).2).2.i:=by
  unfold outEnd at h⊢;split at h
  ·exact absurd h (gW _)
  ·rename_i c;rw[if_neg c];exact⟨h,rfl⟩
 rw[e3.2];have e2:=e3.1;clear e3 h;generalize outArgs T E {s with flat:=true}=x at e2 a d0;have hc:=QI W hkU hDU hU;have d1:(x.2.step T).deep=s.deep:=Dp.step d0;have key:∀{w:Txt} {l:List Txt},x.2.isAt T l=true→(aY T U (x.2.step T)).2.err=0→s.err=0∧tsz (nodeM op (nodeM w [(aY T U (x.2.step T)).1]::x.1))+16*s.i≤3+16*(aY T U (x.2.step T)).2.i:=fun {w l} ha e=>by
  obtain⟨r1,r2⟩:=hc _ (by omega) e;obtain⟨r3,r4⟩:=Lt.at1 W ha r1;obtain⟨r5,r6⟩:=a r3;refine⟨r5,?_⟩;rw[nodeM,aX,ak,nodeM,aX,ak,aB];have:({s with flat:=true}:PS).i=s.i:=rfl;omega
 unfold outTo at e2⊢
 by_cases c1:x.2.isAt T [[62]]=true
 ·rw[if_pos c1]at e2⊢;exact key c1 e2
 rw[if_neg c1]at e2⊢
 by_cases c2:x.2.isAt T [[62,62]]=true
 ·rw[if_pos c2]at e2⊢;exact key c2 e2
 rw[if_neg c2]at e2⊢;obtain⟨r5,r6⟩:=a e2;refine⟨r5,?_⟩;rw[nodeM,aX,ak,nodeM,aX,aB];have:({s with flat:=true}:PS).i=s.i:=rfl;dsimp only;omega
theorem zt(W:fB T)(hkE:KF E)(hDE:DK E)(hE:BE T m E)(hkU:KF U)(hDU:DK U)(hU:BE T m U)(s:PS)(hd:s.deep+m=51):Bd 4 s (simpleM T E U s):=fun h=>by
 have d1:(s.step T).deep=s.deep:=Dp.step (f:=s.deep) rfl;unfold simpleM at h⊢;dsimp only at h⊢
 by_cases c1:(s.cur T).k≠7
 ·rw[if_pos c1]at h⊢;exact gY (hE _ hd) (by omega) h
 rw[if_neg c1]at h⊢;have k0:(s.cur T).k≠0:=by omega
 by_cases c2:(s.cur T).t=[98,114,101,97,107]∨(s.cur T).t=[99,111,110,116,105,110,117,101]∨(s.cur T).t=[110,101,120,116]
 ·rw[if_pos c2]at h⊢;obtain⟨r1,r2⟩:=sW (o:=(s.cur T).t) (t:=[]) (a:=(s.cur T).a) W k0 h;exact⟨r1,by omega⟩
 rw[if_neg c2]at h⊢
 by_cases c3:(s.cur T).t=[101,120,105,116]∨(s.cur T).t=[114,101,116,117,114,110]
 ·rw[if_pos c3]at h⊢;split at h
  ·rename_i c;rw[if_pos c];obtain⟨r1,r2⟩:=sW (o:=(s.cur T).t) (t:=[]) (a:=(s.cur T).a) W k0 h;exact⟨r1,by omega⟩
  ·rename_i c;rw[if_neg c];exact gY (Bd.from (Lt.step1 W k0) (hE _ (by omega)) (Nat.le_refl _)) (by omega) h
 rw[if_neg c3]at h⊢
 by_cases c4:(s.cur T).t=[100,101,108,101,116,101]
 ·rw[if_pos c4]at h⊢;have d2:(((s.step T).name T [5]).2.step T).deep=s.deep:=Dp.step (Dp.name d1 _);have l2:=(Lt.step1 W k0).trans (Lt.name W (ks:=[5]) (by simp));split at h
  ·rename_i c;rw[if_pos c];exact gY (c:=20) (gY (c:=24) (o:=[105,110,100,101,120]) (t:=((s.step T).name T [5]).1.t) (a:=((s.step T).name T [5]).1.a) (Bd.from (l2.trans Lt.step0) (kG W hE _ _ (by omega)) (by omega)) (by omega)) (by omega) h
  ·rename_i c;rw[if_neg c];obtain⟨r1,r2⟩:=l2 h;exact⟨r1,by rw[nodeM,aX,ak,aB,aN,aX,aB];dsimp only;omega⟩
 rw[if_neg c4]at h⊢
 by_cases c5:(s.cur T).t=[112,114,105,110,116]∨(s.cur T).t=[112,114,105,110,116,102]
 ·rw[if_pos c5]at h⊢;obtain⟨r1,r2⟩:=IU W hkE hDE hE hkU hDU hU _ _ (by omega) h;obtain⟨r3,r4⟩:=Lt.step1 W k0 r1;exact⟨r3,by omega⟩
 ·rw[if_neg c5]at h;exact absurd h (gW _)
theorem zO(hS:BS T m S):BS T m (bodyM T S):=fun s hd=>Bd.from Lt.lines (hS _ (by have:(s.lines T).deep=s.deep:=Dp.lines (f:=s.deep) rfl;omega)) (Nat.le_refl _)
theorem Hq(W:fB T)(hkE:KF E)(hDE:DK E)(hE:BE T m E)(hkS:KF S)(hDS:DK S)(hS:BS T m S)(s:PS)(hd:s.deep+m=51):Bd 4 s (choiceM T E S s):=fun h=>by
 have d0:(s.expect T [40]).deep=s.deep:=Dp.expect (f:=s.deep) rfl _;have d1:=Dp.insideM (T:=T) d0 hDE [41];have g1:=kG W hE [41] (s.expect T [40]) (by omega);have l0:=Lt.expect W (s:=s) [40];have hB:=zO hS;unfold choiceM at h⊢;generalize insideM T E [41] (s.expect T [40])=x at h d1 g1;dsimp only at h⊢;have d2:=d1.bodyM (T:=T) hDS;have g2:=hB x.2 (by have:x.2.deep=s.deep:=d1;omega);generalize bodyM T S x.2=y at h d2 g2;have d3:Dp s.deep (if(y.2.lines T).isAt T [[59]]=true then((y.2.lines T).step T).lines T else y.2.lines T):=Dp.iteS d2.lines.step.lines d2.lines;have l3:Lt 0 y.2 (if(y.2.lines T).isAt T [[59]]=true then((y.2.lines T).step T).lines T else y.2.lines T):=Lt.ite ((Lt.lines.trans Lt.step0).trans Lt.lines) Lt.lines;generalize (if(y.2.lines T).isAt T [[59]]=true then((y.2.lines T).step T).lines T else y.2.lines T)=z at h d3 l3;have d4:(z.step T).deep=s.deep:=d3.step;split at h
 ·rename_i c;rw[if_pos c];obtain⟨r1,r2⟩:=hB _ (by omega) h;obtain⟨r3,r4⟩:=Lt.at1 W c r1;obtain⟨r5,r6⟩:=l3 r3;obtain⟨r7,r8⟩:=g2 r5;obtain⟨r9,r10⟩:=g1 r7;obtain⟨r11,r12⟩:=l0 r9;exact⟨r11,by rw[nodeM,aX,ak,ak,ak,aB];dsimp only;omega⟩
 ·rename_i c;rw[if_neg c];have e3:z.err=0:=Classical.byContradiction fun w=>by
   dsimp only at h;rw[if_neg w]at h;exact w h
  obtain⟨r5,r6⟩:=l3 e3;obtain⟨r7,r8⟩:=g2 r5;obtain⟨r9,r10⟩:=g1 r7;obtain⟨r11,r12⟩:=l0 r9;refine⟨r11,?_⟩;dsimp only;rw[if_pos e3,nodeM,aX,ak,ak,aB];dsimp only;omega
theorem ET(hM:∀s,s.deep+m=51→Bd 4 s (M s))(e:Txt)(s:PS)(hd:s.deep+m=51)(h:(forA T M e s).2.err=0):s.err=0∧tsz (forA T M e s).1+16*s.i≤1+16*(forA T M e s).2.i:=by
 unfold forA at h⊢;split at h
 ·rename_i c;rw[if_pos c];exact⟨h,by rw[nodeM,aX,aB];dsimp only;omega⟩
 ·rename_i c;rw[if_neg c];obtain⟨r1,r2⟩:=hM _ hd h;exact⟨r1,by omega⟩
theorem BE.toS(hE:BE T m E):∀s,s.deep+m=51→Bd 4 s (E s):=fun s hd h=>by obtain⟨r1,r2⟩:=hE s hd h;exact⟨r1,by omega⟩
theorem PM(W:fB T)(hkE:KF E)(hDE:DK E)(hE:BE T m E)(hkU:KF U)(hDU:DK U)(hU:BE T m U)(hkS:KF S)(hDS:DK S)(hS:BS T m S)(s:PS)(hd:s.deep+m=51):Bd 4 s (loopM T E U S s):=fun h=>by
 have hB:=zO hS;have d0:Dp s.deep (s.expect T [40]):=Dp.expect rfl _;have l0:=Lt.expect W (s:=s) [40];have hs:=zt W hkE hDE hE hkU hDU hU;have ds:=oG (T:=T) hDE hDU;rw[nP]at h⊢;generalize s.expect T [40]=s1 at h d0 l0
 by_cases c:forIn T s1
 ·rw[if_pos c]at h⊢;dsimp only at h⊢;have d1:((PS.name T ((PS.name T s1 [5]).2.step T) [5]).2.step T).deep=s.deep:=((d0.name _).step.name _).step;obtain⟨r1,r2⟩:=hB _ (by omega) h;obtain⟨r3,r4⟩:=(((l0.trans (Lt.name W (ks:=[5]) (by simp))).trans Lt.step0).trans (Lt.name W (ks:=[5]) (by simp))).trans (Lt.step0 (T:=T)) r1;exact⟨r3,by rw[aN,aX,ak,ak,aB,aN,aX,aB];omega⟩
 ·rw[if_neg c]at h⊢;dsimp only at h⊢;have da:=d0.forA (T:=T) ds [59];have ga:=ET (T:=T) hs [59] s1 (by have:s1.deep=s.deep:=d0;omega);generalize forA T (simpleM T E U) [59] s1=a at h da ga;have d2:=(da.expect (T:=T) [59]).lines (T:=T);have l2:=(Lt.expect W (s:=a.2) [59]).trans (Lt.lines (T:=T));generalize (a.2.expect T [59]).lines T=s2 at h d2 l2;have db:=d2.forA (T:=T) hDE [59];have gb:=ET (T:=T) (BE.toS hE) [59] s2 (by have:s2.deep=s.deep:=d2;omega);generalize forA T E [59] s2=b at h db gb;have d3:=(db.expect (T:=T) [59]).lines (T:=T);have l3:=(Lt.expect W (s:=b.2) [59]).trans (Lt.lines (T:=T));generalize (b.2.expect T [59]).lines T=s3 at h d3 l3;have dc:=d3.forA (T:=T) ds [41];have gc:=ET (T:=T) hs [41] s3 (by have:s3.deep=s.deep:=d3;omega);generalize forA T (simpleM T E U) [41] s3=cc at h dc gc;have d4:(cc.2.expect T [41]).deep=s.deep:=dc.expect _;obtain⟨r1,r2⟩:=hB _ (by omega) h;obtain⟨r3,r4⟩:=Lt.expect W _ r1;obtain⟨r5,r6⟩:=gc r3;obtain⟨r7,r8⟩:=l3 r5;obtain⟨r9,r10⟩:=gb r7;obtain⟨r11,r12⟩:=l2 r9;obtain⟨r13,r14⟩:=ga r11;obtain⟨r15,r16⟩:=l0 r13;exact⟨r15,by rw[nodeM,aX,ak,ak,ak,ak,aB];omega⟩
theorem BV(W:fB T)(hkS:KF S)(hDS:DK S)(hS:BS T m S):∀(K:Nat) (l:List Tree) (s:PS),s.deep+m=51→Bl (dh l) 0 s (blockN T S K l s)
 |0,_,_,_=>fun h=>⟨h,Nat.le_refl _⟩
 |K+1,l,s,hd=>fun h=>by
   rw[vz]at h⊢;have d1:(s.skip T).deep=s.deep:=Dp.skip (f:=s.deep) rfl
   by_cases c:s.err=0
   ·rw[if_pos c]at h⊢
    by_cases c2:(s.skip T).isAt T [[125]]=true
    ·rw[if_pos c2]at h⊢;obtain⟨r1,r2⟩:=(Lt.skip.trans Lt.step0) h;exact⟨r1,by dsimp only;omega⟩
    ·rw[if_neg c2]at h⊢;have d2:=hDS.eq (s.skip T);obtain⟨r1,r2⟩:=BV W hkS hDS hS K _ _ (by omega) h;obtain⟨r3,r4⟩:=hS _ (by omega) r1;obtain⟨r5,r6⟩:=Lt.skip r3;rw[jK,ak,aB]at r2;exact⟨r5,by omega⟩
   ·rw[if_neg c]at h⊢;exact⟨h,Nat.le_refl _⟩
theorem BR(W:fB T)(hkS:KF S)(hDS:DK S)(hS:BS T m S)(s:PS)(hd:s.deep+m=51):Bd 8 s (blockM T S s):=fun h=>by
 have d0:(s.expect T [123]).deep=s.deep:=Dp.expect (f:=s.deep) rfl _;unfold blockM at h⊢;dsimp only at h⊢;obtain⟨r1,r2⟩:=BV W hkS hDS hS (T.length+1) [] (s.expect T [123]) (by omega) h;obtain⟨r3,r4⟩:=Lt.expect W _ r1;rw[aB]at r2;exact⟨r3,by rw[nodeM,aX];omega⟩
theorem QB(W:fB T)(hkE:KF E)(hDE:DK E)(hE:0<m→BE T m E)(hkU:KF U)(hDU:DK U)(hU:0<m→BE T m U)(hkS:KF S)(hDS:DK S)(hS:0<m→BS T m S):BS T (m+1) (stmtM T E U S):=fun s hd h=>by
 rw[kY]at h⊢;replace h:(dF T E U S (s.down T)).2.err=0:=BF h
 show s.err=0∧tsz (dF T E U S (s.down T)).1+4+16*s.i≤16*(dF T E U S (s.down T)).2.i
 have e1:(s.down T).err=0:=back (fun k=>by
  unfold dF;simp only[k.at,if_false,Bool.false_eq_true];exact(k.simpleM hkE).fin) h
 have dp:=fG e1;have pm:0<m:=by omega
 have hE:=hE pm;have hU:=hU pm;have hS:=hS pm;have d1:(s.down T).deep=s.deep+1:=Dp.down (f:=s.deep) rfl;have l0:=Lt.down (T:=T) (s:=s);generalize s.down T=t at h d1 l0;have key:Bd 4 t (dF T E U S t)→s.err=0∧tsz (dF T E U S t).1+4+16*s.i≤16*(dF T E U S t).2.i:=fun b=>Bd.from l0 b (Nat.le_refl _) h;refine key fun h=>?_;clear key l0;have d2:(t.step T).deep=t.deep:=Dp.step (f:=t.deep) rfl;unfold dF at h⊢
 by_cases c1:t.isAt T [[123]]=true
 ·rw[if_pos c1]at h⊢;obtain⟨r1,r2⟩:=BR W hkS hDS hS t (by omega) h;exact⟨r1,by omega⟩
 rw[if_neg c1]at h⊢
 by_cases c2:t.isAt T [[59]]=true
 ·rw[if_pos c2]at h⊢;obtain⟨r1,r2⟩:=Lt.at1 W c2 h;exact⟨r1,by rw[nodeM,aX,aB];dsimp only;omega⟩
 rw[if_neg c2]at h⊢
 by_cases c3:t.isAt T [[105,102]]=true
 ·rw[if_pos c3]at h⊢;exact Bd.from Lt.step0 (Hq W hkE hDE hE hkS hDS hS _ (by omega)) (Nat.le_refl _) h
 rw[if_neg c3]at h⊢
 by_cases c4:t.isAt T [[119,104,105,108,101]]=true
 ·rw[if_pos c4]at h⊢;dsimp only at h⊢;have d3:((t.step T).expect T [40]).deep=t.deep:=Dp.expect d2 _;have d4:=Dp.insideM (T:=T) d3 hDE [41];have d4':(insideM T E [41] ((t.step T).expect T [40])).2.deep=t.deep:=d4;obtain⟨r1,r2⟩:=zO hS _ (by omega) h;obtain⟨r3,r4⟩:=kG W hE _ _ (by omega) r1;obtain⟨r5,r6⟩:=(Lt.step0.trans (Lt.expect W _)) r3;exact⟨r5,by rw[nodeM,aX,ak,ak,aB];omega⟩
 rw[if_neg c4]at h⊢
 by_cases c5:t.isAt T [[102,111,114]]=true
 ·rw[if_pos c5]at h⊢;exact Bd.from Lt.step0 (PM W hkE hDE hE hkU hDU hU hkS hDS hS _ (by omega)) (Nat.le_refl _) h
 rw[if_neg c5]at h⊢;have lf:Lt 0 (simpleM T E U t).2 ((simpleM T E U t).2.fin T):=by
  unfold PS.fin;exact Lt.ite Lt.step0 (Lt.ite Lt.refl (Lt.ite Lt.step0 (Lt.fail _)))
 obtain⟨r1,r2⟩:=lf h;obtain⟨r3,r4⟩:=zt W hkE hDE hE hkU hDU hU _ (by omega) r1;exact⟨r3,by dsimp only;omega⟩
theorem bst(W:fB T):∀n,0<n→BS T n (stL T n)
 |0,h=>absurd h (Nat.lt_irrefl _)
 |n+1,_=>by
   obtain⟨k1,k2,_,_⟩:=lZ T n;obtain⟨d1,d2,_,_⟩:=lU T n;rw[stL];exact QB W k1 d1 (fun p=>(bls W n p).expr) k2 d2 (fun p=>(bls W n p).unary) (DD T n) (yL T n) (bst W n)
theorem Nl(W:fB T):∀(K:Nat) (l:List Tree) (s:PS),Bl (dh l) 0 s (parN T K l s)
 |0,_,_=>fun h=>⟨h,Nat.le_refl _⟩
 |K+1,l,s=>fun h=>by
   rw[FM]at h⊢;split at h
   ·rename_i c;rw[if_pos c];obtain⟨r1,r2⟩:=Nl W K _ _ h;obtain⟨r3,r4⟩:=Lt.lines r1;obtain⟨r5,r6⟩:=(Lt.name W (ks:=[5]) (by simp)) r3;obtain⟨r7,r8⟩:=(Lt.ite Lt.refl ((Lt.expect W _).trans Lt.lines |>.le (by omega)):Lt 0 s (if l=[]then s else(s.expect T [44]).lines T)) r5;rw[jK,ak,aB,aN,aX,aB]at r2;exact⟨r7,by unfold aN;omega⟩
   ·rename_i c;rw[if_neg c];exact⟨h,Nat.le_refl _⟩
theorem Pv(W:fB T)(s:PS)(hd:s.deep=0):Bd 1 s (itemM T s):=fun h=>by
 have hS:=bst W 51 (by decide);have kS:=DD T 51;have dS:=yL T 51;have B:=BR W kS dS hS;have hE:=(bls W 51 (by decide)).expr;have kE:=(lZ T 51).1;have dE:=(lU T 51).1;have d1:(s.step T).deep=s.deep:=Dp.step (f:=s.deep) rfl;rw[rD]at h⊢;unfold pI at h⊢
 by_cases c1:s.isAt T [[66,69,71,73,78]]=true
 ·rw[if_pos c1]at h⊢;exact gY (Bd.from (Lt.at1 W c1) (B _ (by omega)) (Nat.le_refl _)) (by omega) h
 rw[if_neg c1]at h⊢
 by_cases c2:s.isAt T [[69,78,68]]=true
 ·rw[if_pos c2]at h⊢;exact gY (Bd.from (Lt.at1 W c2) (B _ (by omega)) (Nat.le_refl _)) (by omega) h
 rw[if_neg c2]at h⊢
 by_cases c3:s.isAt T [[102,117,110,99,116,105,111,110]]=true
 ·rw[if_pos c3]at h⊢;dsimp only at h⊢;have d2:Dp s.deep ((s.step T).name T [5,6]).2:=Dp.name d1 _;have l2:=(Lt.at1 W c3).trans (Lt.name W (ks:=[5,6]) (by simp));generalize (s.step T).name T [5,6]=x at h d2 l2;have d3:=Dp.parN (T:=T) (T.length+1) (l:=[]) ((d2.expect (T:=T) [40]).lines (T:=T));have g3:=Nl W (T.length+1) [] ((x.2.expect T [40]).lines T);generalize parN T (T.length+1) [] ((x.2.expect T [40]).lines T)=y at h d3 g3;have d4:((y.2.expect T [41]).lines T).deep=s.deep:=(d3.expect _).lines;obtain⟨r1,r2⟩:=B _ (by omega) h;obtain⟨r3,r4⟩:=(Lt.expect W _).trans Lt.lines r1;obtain⟨r5,r6⟩:=g3 r3;obtain⟨r7,r8⟩:=(Lt.expect W _).trans Lt.lines r5;obtain⟨r9,r10⟩:=l2 r7;rw[aB]at r6;exact⟨r9,by rw[aN,aX,jK,ak,aB];omega⟩
 rw[if_neg c3]at h⊢
 by_cases c4:s.isAt T [[123]]=true
 ·rw[if_pos c4]at h⊢;obtain⟨r1,r2⟩:=B _ (by omega) h;exact⟨r1,by dsimp only;rw[nodeM,aX,ak,ak,aB,nodeM,aX,aB];omega⟩
 rw[if_neg c4]at h⊢;have dx:=dE.eq s;have gx:=hE s (by omega);generalize (lev T 51).expr s=x at h dx gx
 by_cases c5:x.2.isAt T [[123]]=true
 ·rw[if_pos c5]at h⊢;obtain⟨r1,r2⟩:=B x.2 (by omega) h;obtain⟨r3,r4⟩:=gx r1;exact⟨r3,by dsimp only;rw[nodeM,aX,ak,ak,aB];omega⟩
 ·rw[if_neg c5]at h⊢;dsimp only at h⊢;split at h
  ·exact absurd h (gW _)
  ·rename_i cz;rw[if_neg cz];obtain⟨r3,r4⟩:=gx h;exact⟨r3,by rw[nodeM,aX,ak,ak,aB,nodeM,aX,aB];omega⟩
theorem Dx(W:fB T):∀(K:Nat) (l:List Tree) (s:PS),s.deep=0→Bl (dh l) 0 s (itemsN T K l s)
 |0,_,_,_=>fun h=>⟨h,Nat.le_refl _⟩
 |K+1,l,s,hd=>fun h=>by
   rw[Dz]at h⊢;have d1:(s.skip T).deep=0:=Dp.skip hd
   by_cases c:s.err=0
   ·rw[if_pos c]at h⊢
    by_cases c2:((s.skip T).cur T).k=0
    ·rw[if_pos c2]at h⊢;obtain⟨r1,r2⟩:=Lt.skip h;exact⟨r1,by dsimp only;omega⟩
    ·rw[if_neg c2]at h⊢;have d2:(itemM T (s.skip T)).2.deep=0:=Dp.itemM d1;obtain⟨r1,r2⟩:=Dx W K _ _ d2 h;obtain⟨r3,r4⟩:=Pv W _ d1 r1;obtain⟨r5,r6⟩:=Lt.skip r3;rw[jK,ak,aB]at r2;exact⟨r5,by omega⟩
   ·rw[if_neg c]at h⊢;exact⟨h,Nat.le_refl _⟩
end
section
open Mir
variable{h g:H}{p q:Nat}{Q:V→H→Prop}{m:Int}{F:List RFn}{items:List Tree}
theorem uA{src:Txt}{t:Tree}(hs:src.length≤4000)(h:dM src=.inl t):∃items,t=nodeM [112,114,111,103,114,97,109] items∧(∀i∈items,IsI i)∧dh items≤16*src.length+16:=by
 unfold dM at h;split at h
 ·cases h
 ·rename_i T l;obtain⟨W,tpos,tlen⟩:=AV hs l;obtain⟨_,hb,_⟩:=Fv _ 0 [] T (Nat.zero_le _) (Nat.le_refl _) (fun t ht=>by cases ht) l;have V:=PL l;obtain⟨items,h1,h2⟩:=Nq V h;refine⟨items,h2,h1,?_⟩;have f:=qj W (wK W) (T.length+1) (l:=[]) (s:=ps0) ⟨tpos,.inl rfl,Nat.zero_le _,fun _=>Nat.zero_le _⟩ ⟨fun _=>rfl,Nat.zero_le _⟩;have hm:nS T=if(itemsN T (T.length+1) [] ps0).2.err≠0 then .inr ((itemsN T (T.length+1) [] ps0).2.bad,(itemsN T (T.length+1) [] ps0).2.err)else .inl (nodeM [112,114,111,103,114,97,109] (itemsN T (T.length+1) [] ps0).1):=rfl
  rw[hm]at h;split at h
  ·cases h
  ·rename_i c;have e:(itemsN T (T.length+1) [] ps0).1=items:=by
    have:=Sum.inl.inj h;rw[h2]at this;unfold nodeM at this;injection this
   obtain⟨_,b⟩:=Dx W.last (T.length+1) [] ps0 rfl (Classical.not_not.1 c);rw[e,aB]at b;have:=f.ok.lt;omega
theorem IsI.kids_ne{i:Tree}(h:IsI i)(o:i.op=[102,117,110,99]):i.kids≠[]:=by
 cases h with
 |begin q=>simp only[nodeM,Tree.op]at o;subst o;exact absurd q (by decide)
 |func=>simp[Tree.kids]
 |always=>exact absurd o (by simp[nodeM,Tree.op])
 |rule=>exact absurd o (by simp[nodeM,Tree.op])
 |default=>exact absurd o (by simp[nodeM,Tree.op])
def fO(F:List RFn)(items:List Tree):Nat→List Sym→List Sym
 |0,l=>l
 |n+1,l=>fO F items n (pass F items (l,false)).1
theorem rG:∀(n:Nat) (l:List Sym),(∀s∈l,ArrS F items s)→∀s∈fO F items n l,ArrS F items s
 |0,_,h=>h
 |n+1,l,h=>rG n _ (xq h)
theorem yU{n:Nat}(h:pass F items (fO F items n [],false)=(fO F items n [],false))(s:Sym):s∈fO F items n []↔ArrS F items s:=
 ⟨rG n [] (by simp) s,fun z=>uC h z⟩
theorem ig{A B:List Sym}(h:∀s,s∈A↔s∈B):aU (fun s=>decide (s∈A)) items=aU (fun s=>decide (s∈B)) items:=by
 congr 1;funext s;exact decide_eq_decide.2 (h s)
theorem words_R:Words (hR m):=⟨⟨rfl,rfl⟩,⟨rfl,rfl⟩,rfl,rfl⟩
theorem _root_.Mir.Sub.add'{h h':H}(s:Sub h h'){b:Nat}(hb:h' b=none){o:AObj}:Sub h (hadd h' b o):=s.put (s.none hb)
theorem QR{src:Txt}(hs:Sub (hR m) h)(hl:src.length≤4000)(hp:dM src=.inl (nodeM [112,114,111,103,114,97,109] items))
  (hq1:∀(A:List Sym) (h':H),(∀s,s∈A↔ArrS (ai items) items s)→Sub h h'→(aU (fun s=>decide (s∈A)) items).err≠0→Q (.tup [.nilptr,.int .i64 (aU (fun s=>decide (s∈A)) items).bad,.int .i64 (aU (fun s=>decide (s∈A)) items).err]) h')
  (hq2:∀(A:List Sym) (h':H) (ib q':Nat),(∀s,s∈A↔ArrS (ai items) items s)→Sub h h'→(aU (fun s=>decide (s∈A)) items).err=0→InfoV h' ib q' A (ai items) (aU (fun s=>decide (s∈A)) items).order→Q (.tup [.ptr ib 0,.int .i64 0,.int .i64 0]) h'):
  AC pg (.fn 20) [.str src] h Q:=by
 obtain⟨items',e,hI,hsz⟩:=uA hl hp;obtain rfl:items=items':=by unfold nodeM at e;injection e
 refine AC.fn' (g:=g20) rfl (by simp only[List.length_cons,List.length_nil,g20];decide) ?_;simp only[g20,Mir.Ab.all];refine W0 ?_;refine BL (words_R.sub hs) (mm:=m) (hs _ _ rfl) hl (fun a e h1 hp1 s1=>by rw[hp]at hp1;cases hp1) fun t v p h1 hp1 s1 hv=>?_;rw[hp]at hp1;obtain rfl:=Sum.inl.inj hp1;obtain⟨kv,rfl,kb⟩:=hv.inv;have kf:=kb.flat;refine W1 kf ?_;intro b hb;have kb2:KidsV (fun _=>none) h1 p items kv:=KidsV.move (fun c o _ _ hc=>⟨rfl,hc⟩) kb;have s2:=s1.add' (o:=.cells [.str (nodeM [112,114,111,103,114,97,109] items).op,.str (nodeM [112,114,111,103,114,97,109] items).text,.int .i64 (nodeM [112,114,111,103,114,97,109] items).at',kv] false) hb;have kb3:=kb2.mono (aF (o:=.cells [.str (nodeM [112,114,111,103,114,97,109] items).op,.str (nodeM [112,114,111,103,114,97,109] items).text,.int .i64 (nodeM [112,114,111,103,114,97,109] items).at',kv] false) hb);have c1:hadd h1 b (.cells [.str (nodeM [112,114,111,103,114,97,109] items).op,.str (nodeM [112,114,111,103,114,97,109] items).text,.int .i64 (nodeM [112,114,111,103,114,97,109] items).at',kv] false) b=_:=ah;refine W1 kf ?_;generalize hadd h1 b _=g1 at s2 kb3 c1⊢;have eo:(nodeM [112,114,111,103,114,97,109] items).op=[112,114,111,103,114,97,109]:=rfl;refine W3 c1 eo kf ?_;refine xK (.inl kb3) (by omega) (fun i hi c=>(hI i hi).kids_ne c) ⟨s2 _ _ (hs _ _ rfl),s2 _ _ (hs _ _ rfl)⟩ (fun A h2 hA s3 he=>?_) (fun A h2 ib q' hA s3 he I=>?_)
 ·refine W0 ?_;exact⟨_,Sub.refl,hq1 A _ hA (fun x o hx=>s3 _ _ (s2 _ _ hx)) he⟩
 ·refine W0 ?_;exact⟨_,Sub.refl,hq2 A _ ib q' hA (fun x o hx=>s3 _ _ (s2 _ _ hx)) he I⟩
end
section
open Mir
variable{h g:H}{p q:Nat}{Q:V→H→Prop}{m:Int}{F:List RFn}{items:List Tree}
def Bo:Txt:=[102,117,110,99,116,105,111,110,32,102,40,97,41,123,97,91,49,93,61,49,125,32,66,69,71,73,78,123,102,40,120,41,59,112,114,105,110,116,32,120,91,49,93,125]
def Bq:Txt:=[102,117,110,99,116,105,111,110,32,102,40,97,41,123,97,91,49,93,61,49,125,32,66,69,71,73,78,123,102,40,120,41,59,112,114,105,110,116,32,120,125]
def AP:Tree→Bool
 |.nd o t a _=>decide (o=[112,114,111,103,114,97,109])&&decide (t=[])&&decide (a=0)
theorem yQ{t:Tree}(h:AP t=true):t=nodeM [112,114,111,103,114,97,109] t.kids:=by
 obtain⟨o,x,a,l⟩:=t;unfold AP at h;simp only[Bool.and_eq_true,decide_eq_true_eq]at h;obtain⟨⟨rfl,rfl⟩,rfl⟩:=h;rfl
def Ur:Tree ⊕ (Nat × Nat)→Bool
 |.inr _=>false
 | .inl t=>AP t&&decide (pass (ai t.kids) t.kids (fO (ai t.kids) t.kids 3 [],false)=(fO (ai t.kids) t.kids 3 [],false))
   && decide ((aU (fun s=>decide (s∈fO (ai t.kids) t.kids 3 [])) t.kids).err=0)&&decide ((aU (fun s=>decide (s∈fO (ai t.kids) t.kids 3 [])) t.kids).order=[[120]])
   && decide ((ai t.kids).map RFn.ps=[[[97]]])&&decide ((some 0,[97])∈fO (ai t.kids) t.kids 3 [])&&decide ((none,[120])∈fO (ai t.kids) t.kids 3 [])
def Us:Tree ⊕ (Nat × Nat)→Bool
 |.inr _=>false
 | .inl t=>AP t&&decide (pass (ai t.kids) t.kids (fO (ai t.kids) t.kids 3 [],false)=(fO (ai t.kids) t.kids 3 [],false))
   && decide ((aU (fun s=>decide (s∈fO (ai t.kids) t.kids 3 [])) t.kids).err=11)&&decide ((aU (fun s=>decide (s∈fO (ai t.kids) t.kids 3 [])) t.kids).bad=39)
theorem Un:∃(l:List Tree) (L:List Sym),dM Bo=.inl (nodeM [112,114,111,103,114,97,109] l)∧(∀s,s∈L↔ArrS (ai l) l s)∧(aU (fun s=>decide (s∈L)) l).err=0∧(aU (fun s=>decide (s∈L)) l).order=[[120]]∧(ai l).map RFn.ps=[[[97]]]∧(some 0,[97])∈L∧(none,[120])∈L:=by
 have e:Ur (dM Bo)=true:=by decide +kernel
 generalize dM Bo=r at e;cases r with
 |inr x=>cases e
 |inl t =>
   unfold Ur at e;simp only[Bool.and_eq_true,decide_eq_true_eq]at e;obtain⟨⟨⟨⟨⟨⟨e1,e2⟩,e3⟩,e4⟩,e5⟩,e6⟩,e7⟩:=e;exact⟨t.kids,_,congrArg Sum.inl (yQ e1),yU e2,e3,e4,e5,e6,e7⟩
theorem Uo:∃(l:List Tree) (L:List Sym),dM Bq=.inl (nodeM [112,114,111,103,114,97,109] l)∧(∀s,s∈L↔ArrS (ai l) l s)∧(aU (fun s=>decide (s∈L)) l).err=11∧(aU (fun s=>decide (s∈L)) l).bad=39:=by
 have e:Us (dM Bq)=true:=by decide +kernel
 generalize dM Bq=r at e;cases r with
 |inr x=>cases e
 |inl t =>
   unfold Us at e;simp only[Bool.and_eq_true,decide_eq_true_eq]at e;obtain⟨⟨⟨e1,e2⟩,e3⟩,e4⟩:=e;exact⟨t.kids,_,congrArg Sum.inl (yQ e1),yU e2,e3,e4⟩
theorem lq(hs:Sub (hR m) h)(hq:∀h',Sub h h'→Q (.bool true) h'):AC pg (.fn 15) [] h Q:=by
 obtain⟨l1,L1,p1,m1,e1,o1,f1,x1,y1⟩:=Un;obtain⟨l2,L2,p2,m2,e2,b2⟩:=Uo;refine AC.fn' (g:=g15) rfl (by simp only[List.length_cons,List.length_nil,g15];decide) ?_;simp only[g15,Mir.Ab.all];refine W0 ?_;refine QR (src:=Bo) hs (by decide) p1 (fun A h1 hA s1 he=>absurd he (by rw[ig (B:=L1) fun s=>(hA s).trans (m1 s).symm,e1];simp)) (fun A h1 ib q1 hA s1 he I=>?_);have hAL:∀s,s∈A↔s∈L1:=fun s=>(hA s).trans (m1 s).symm;rw[ig hAL,o1]at I;obtain⟨fb,rows,gv,av,i1,i2,i3,i4,i5⟩:=I.obj;have hF:(ai l1).length=1:=by have:=congrArg List.length f1;simpa using this
 have hne:ai l1≠[]:=fun e=>by rw[e]at hF;cases hF
 rw[if_neg hne,hF]at i1;have i2:=i2 hne;refine W0 ?_;have sR:Sub (hR m) h1:=fun x o hx=>s1 _ _ (hs _ _ hx);refine QR (src:=Bq) sR (by decide) p2 (fun A' h2 hA' s2 he=>?_) (fun A' h2 ib' q2 hA' s2 he I=>absurd he (by rw[ig (B:=L2) fun s=>(hA' s).trans (m2 s).symm,e2];decide));rw[ig (B:=L2) fun s=>(hA' s).trans (m2 s).symm,e2,b2];have j1:=s2 _ _ i1;have j2:=s2 _ _ i2;have hrl:rows.length=1:=by have:=congrArg List.length i3.fs;rw[List.length_map,hF]at this;exact this
 have hps:rows[0].f.ps=[[97]]:=by
  have h1:rows[0].f=(ai l1)[0]:=by have:=i3.fs;simp[← this]
  have h2:(ai l1)[0].ps=[[97]]:=by
   have:=congrArg (fun l=>l[0]?) f1;simp only[List.getElem?_map,List.getElem?_eq_getElem (show 0<(ai l1).length by omega),Option.map_some,List.getElem?_cons_zero,Option.some.injEq]at this;exact this
  rw[h1,h2]
 have av0:=i3.done 0 (by omega) (by omega);rw[hps]at av0;have hcs:rowsC rows=rows[0].cs:=by
  have:=oQ (l:=rows) (i:=0) (by omega);rw[Nat.zero_mul,List.drop_zero,List.take_of_length_le (by rw[tJ];omega)]at this;exact this
 rw[hcs]at j2;unfold FRow.cs at j2;rcases av0 with⟨e,_⟩|⟨ab,_,eav,cav⟩
 ·cases e
 rcases i4 with⟨e,_⟩|⟨gb,_,_,_,egv,cgv⟩
 ·cases e
 rcases i5 with⟨e,_⟩|⟨bb,_,ebv,cbv⟩
 ·cases e
 have d1:decide ((some 0,[97])∈A)=true:=decide_eq_true ((hAL _).2 x1);have d2:decide ((none,[120])∈A)=true:=decide_eq_true ((hAL _).2 y1);have k1:=s2 _ _ cav;have k2:=s2 _ _ cgv;have k3:=s2 _ _ cbv;simp only[List.map_cons,List.map_nil,List.length_cons,List.length_nil,d1,d2]at k1 k2 k3 eav egv ebv;rw[eav]at j2;rw[egv,ebv]at j1;refine W5 j1 j2 k1 k2 k3 ?_;exact⟨_,Sub.refl,hq _ fun x o hx=>s2 _ _ (s1 _ _ hx)⟩
end
section
open Mir
variable{h g:H}{p q:Nat}{Q:V→H→Prop}{m:Int}{F:List RFn}{items:List Tree}
def hit(a e:Nat)(n:Tree):Bool:=decide (n.at'=a)&&(decide (e=11)&&decide (n.text≠[])||decide (e=9)&&decide (n.text=[]))
theorem KE{l:List Tree}{f:Tree→Bool}{x:Bool}:l.foldl (fun x n=>x||f n) x=(x||l.any f):=by
 induction l generalizing x with
 |nil=>simp
 |cons n l ih=>rw[List.foldl_cons,ih,List.any_cons,Bool.or_assoc]
theorem QN{h:H}{a b c:Nat}(n1:a≠b)(n2:a≠c)(n3:b≠c){x x' y y' z z':AObj}:hadd (hadd (hadd (hadd (hadd (hadd h a x) b y) c z) a x') b y') c z'=hadd (hadd (hadd h a x') b y') c z':=by
 funext d
 by_cases e:d=c
 ·subst e;rw[ah,ah]
 ·rw[ae e,ae e]
  by_cases e2:d=b
  ·subst e2;rw[ah,ah]
  ·rw[ae e2,ae e2]
   by_cases e3:d=a
   ·subst e3;rw[ah,ah]
   ·rw[ae e3,ae e3,ae e,ae e2,ae e3]
theorem LM{c:Nat}{o:AObj}(h:hR m c=some o):∃cs ro,o=.cells cs ro:=by
 unfold hR at h
 repeat' split at h
 all_goals first|(cases h;exact⟨_,_,rfl⟩)|cases h
set_option maxHeartbeats 1000000 in
theorem Jk(s:Txt)(hq:∀h',Q (.bool true) h'):AC pg (.fn 3) [.str s] (hR m) Q:=by
 refine AC.fn' (g:=g3) rfl (by simp only[List.length_cons,List.length_nil,g3];decide) ?_;simp only[g3,Mir.Ab.all];refine W0 ?_;intro b2 hb2;have s0:=aF (o:=AObj.cells [V.bool false] false) hb2;have c2:hadd (hR m) b2 (AObj.cells [V.bool false] false) b2=_:=ah;generalize hadd (hR m) b2 (AObj.cells [V.bool false] false)=g0 at s0 c2⊢;refine W0 ?_;refine PH s 400 ?_;obtain⟨r,hr⟩:∃r,r=s.take 400:=⟨_,rfl⟩;have lr:r.length≤400:=by rw[hr,List.length_take];omega
 rw[← hr];refine W0 ?_;refine BL (words_R.sub s0) (mm:=m) (s0 _ _ rfl) (by omega) (fun a e h1 hp s1=>?_) fun t v p h1 hp s1 hv=>?_
 ·have e0:e≠0:=by have:=(DX (by omega) hp).1;omega
  have c2:=s1 _ _ c2;refine W0 ?_;intro b hb;refine W1 e0 ?_;have n2:b2≠b:=af hb c2;refine lq (m:=m) (fun x o hx=>aF hb _ _ (s1 _ _ (s0 _ _ hx))) fun h2 s2=>?_;have d2:=s2 _ _ ((ae n2).trans c2);refine W1 d2 ?_;exact⟨_,Sub.refl,hq _⟩
 ·obtain⟨items,rfl,hI,hsz⟩:=uA (by omega) hp;obtain⟨kv,rfl,kb⟩:=hv.inv;have kf:=kb.flat;have eo:(nodeM [112,114,111,103,114,97,109] items).op=[112,114,111,103,114,97,109]:=rfl;have et:(nodeM [112,114,111,103,114,97,109] items).text=[]:=rfl;have ea:((nodeM [112,114,111,103,114,97,109] items).at':Int)=0:=rfl;have kb2:KidsV (fun _=>none) h1 p items kv:=KidsV.move (fun c o _ _ hc=>⟨rfl,hc⟩) kb;rw[eo,et,ea];refine W1 kf ?_;intro b3 hb3;have s2:=aF (o:=AObj.cells [V.str [112,114,111,103,114,97,109],V.str [],V.int .i64 0,kv] false) hb3;have c3:hadd h1 b3 (AObj.cells [V.str [112,114,111,103,114,97,109],V.str [],V.int .i64 0,kv] false) b3=_:=ah;have kb3:=kb2.mono s2;have d2:=s2 _ _ (s1 _ _ c2);have sR:Sub (hR m) (hadd h1 b3 (AObj.cells [V.str [112,114,111,103,114,97,109],V.str [],V.int .i64 0,kv] false)):=fun x o hx=>s2 _ _ (s1 _ _ (s0 _ _ hx));refine W1 kf ?_;generalize hadd h1 b3 _=g1 at s2 c3 kb3 d2 sR⊢;refine W1 c3 ?_;refine xK (a:=0) (.inl kb3) (by omega) (fun i hi c=>(hI i hi).kids_ne c) ⟨sR _ _ rfl,sR _ _ rfl⟩ (fun A h2 hA s3 he=>?_) (fun A h2 ib q' hA s3 he I=>?_)
  ·have good:=(pR (A:=fun s=>decide (s∈A)) hI).2;generalize aU (fun s=>decide (s∈A)) items=R at he good;rcases good with z|⟨n0,hn0,ha0,hte⟩
   ·exact absurd z he
   refine W0 ?_;intro b6 hb6;refine W0 ?_;intro b7 hb7;refine W0 ?_;intro b8 hb8;have n67:b6≠b7:=fun e=>by rw[e,ah]at hb7;cases hb7
   have hb7':h2 b7=none:=by rw[ae (Ne.symm n67)]at hb7;exact hb7
   have n78:b7≠b8:=fun e=>by rw[← e,ah]at hb8;cases hb8
   rw[ae (Ne.symm n78)]at hb8;have n68:b6≠b8:=fun e=>by rw[← e,ah]at hb8;cases hb8
   have hb8':h2 b8=none:=by rw[ae (Ne.symm n68)]at hb8;exact hb8
   refine W1 lY ?_;rw[QN n67 n68 n78];have k6:hadd (hadd (hadd h2 b6 (AObj.cells [V.nilptr] false)) b7 (AObj.cells [V.int .i64 R.bad] false)) b8 (AObj.cells [V.int .i64 R.err] false) b6=_:=(ae n68).trans ((ae n67).trans ah);have k7:hadd (hadd (hadd h2 b6 (AObj.cells [V.nilptr] false)) b7 (AObj.cells [V.int .i64 R.bad] false)) b8 (AObj.cells [V.int .i64 R.err] false) b7=_:=(ae n78).trans ah;have k8:hadd (hadd (hadd h2 b6 (AObj.cells [V.nilptr] false)) b7 (AObj.cells [V.int .i64 R.bad] false)) b8 (AObj.cells [V.int .i64 R.err] false) b8=_:=ah;have s23:Sub h2 (hadd (hadd (hadd h2 b6 (AObj.cells [V.nilptr] false)) b7 (AObj.cells [V.int .i64 R.bad] false)) b8 (AObj.cells [V.int .i64 R.err] false)):=fun c o hc=>by
    rw[ae (af hb8' hc),ae (af hb7' hc),ae (af hb6 hc)];exact hc
   generalize hadd (hadd (hadd h2 b6 (AObj.cells [V.nilptr] false)) b7 (AObj.cells [V.int .i64 R.bad] false)) b8 (AObj.cells [V.int .i64 R.err] false)=h3 at k6 k7 k8 s23⊢;have k3:=s23 _ _ (s3 _ _ c3);have k2:=s23 _ _ (s3 _ _ d2);have sR3:Sub (hR m) h3:=fun x o hx=>s23 _ _ (s3 _ _ (sR _ _ hx));have kb4:=kb3.mono fun c o hc=>s23 _ _ (s3 _ _ hc);refine W1 k3 ?_;refine Jv rfl (by simp[kf,V.flat];exact kf) fun h4 ba hba _ _ e4=>?_;have s34:=aF (o:=AObj.cells [V.str [112,114,111,103,114,97,109],V.str [],V.int .i64 0,kv] false) hba;have ca:hadd h3 ba (AObj.cells [V.str [112,114,111,103,114,97,109],V.str [],V.int .i64 0,kv] false) ba=_:=ah;rw[← e4]at s34 ca;clear e4;refine W0 ?_;intro lp hlp;generalize hL:AObj.loop _ [34,35] _ _ _ _=L;have s45:=aF (o:=L) hlp;have cl:hadd h4 lp L lp=_:=ah;have k6:=s45 _ _ (s34 _ _ k6);have k7:=s45 _ _ (s34 _ _ k7);have k8:=s45 _ _ (s34 _ _ k8);have k2:=s45 _ _ (s34 _ _ k2);have ca:=s45 _ _ ca;have kb5:=kb4.mono fun c o hc=>s45 _ _ (s34 _ _ hc);have sR5:Sub (hR m) (hadd h4 lp L):=fun x o hx=>s45 _ _ (s34 _ _ (sR3 _ _ hx));generalize hadd h4 lp L=h5 at k6 k7 k8 k2 ca kb5 sR5 cl⊢;refine AC.fn' (g:=g33) rfl (by simp only[List.length_cons,List.length_nil,g33];decide) ?_;simp only[g33,Mir.Ab.all];refine W1 ca ?_;have hszp:tsz (nodeM [112,114,111,103,114,97,109] items)≤7000:=by unfold nodeM;rw[tsz];omega
   refine BH (q:=p) (fun x n=>x||hit R.bad R.err n) (fun g x h=>x=false∧Sub h5 g∧Sub g h) (fun _ h=>(∃o,h lp=some o∧∃T ps as' bd,o=.loop T ps as' bd .done (some .ret))∧h b2=some (.cells [.bool true] false)) (nodes (nodeM [112,114,111,103,114,97,109] items)) (fun r=>r.2.2) (fun r hb=>⟨r.1,fun c o hc=>by rw[ae (af (aW r.2.2 hb) (r.2.1 _ _ hc))];exact r.2.1 _ _ hc,eH r.2.2⟩) (fun r r' s=>⟨r'.1,r.2.1,fun c o hc=>r'.2.2 _ _ (s _ _ hc)⟩) (fun _ f _=>f)
    ?_ _ _ (Nat.lt_succ_self _) (fun m hm=>hm) h5 false _ h5 0 _ (by omega) ⟨rfl,Sub.refl,Sub.refl⟩ (.mk kb5) (fun h6 R6=>?_) (fun h6 S6=>?_)
   ·intro g7 x t v7 deep h7 Q7 hdp hR7 hv7 ht7 hq7 hs7;obtain⟨rfl,s57,s77⟩:=hR7;have cl7:=s77 _ _ (s57 _ _ cl);refine AC.round (cl7.trans (by rw[← hL])) rfl ?_;obtain⟨kv7,rfl,kb7⟩:=hv7.inv;have kf7:=kb7.flat;refine W1 kf7 ?_;intro b10 hb10;have n10:lp≠b10:=af hb10 cl7;have jl:hadd h7 b10 (AObj.cells [V.str t.op,V.str t.text,V.int .i64 t.at',kv7] false) lp=_:=(ae n10).trans (cl7.trans (congrArg some hL.symm));refine W3 lY kf7 jl ?_;generalize hM:AObj.loop _ [34,35] _ _ LSt.busy _=M;have hc8:∀c cs ro,h5 c=some (.cells cs ro)→hadd (hadd h7 b10 (AObj.cells [V.str t.op,V.str t.text,V.int .i64 t.at',kv7] false)) lp M c=some (.cells cs ro):=fun c cs ro hc=>by
     have hc7:=s77 _ _ (s57 _ _ hc);have n1:c≠lp:=fun e=>by rw[e,cl,← hL]at hc;cases hc
     rw[ae n1,ae (af hb10 hc7)];exact hc7
    have j10:hadd (hadd h7 b10 (AObj.cells [V.str t.op,V.str t.text,V.int .i64 t.at',kv7] false)) lp M b10=_:=(ae (Ne.symm n10)).trans ah;have jM:hadd (hadd h7 b10 (AObj.cells [V.str t.op,V.str t.text,V.int .i64 t.at',kv7] false)) lp M lp=_:=ah;have s78:∀L',(hL:L'=L)→Sub g7 (hadd (hadd (hadd h7 b10 (AObj.cells [V.str t.op,V.str t.text,V.int .i64 t.at',kv7] false)) lp M) lp L'):=fun L' hL' c o hc=>by
     subst hL'
     by_cases e:c=lp
     ·subst e;rw[ah,← hc,s57 _ _ cl]
     ·rw[ae e,ae e,ae (af hb10 (s77 _ _ hc))];exact s77 _ _ hc
    have j7:=hc8 _ _ _ k7;have j8:=hc8 _ _ _ k8;have j6:=hc8 _ _ _ k6;have j2:=hc8 _ _ _ k2;have jR:Sub (hR m) (hadd (hadd h7 b10 (AObj.cells [V.str t.op,V.str t.text,V.int .i64 t.at',kv7] false)) lp M):=fun c o hc=>by
     have hc5:=sR5 _ _ hc
     by_cases e:c=lp
     ·rw[e,cl]at hc5;obtain⟨cs,ro,rfl⟩:=LM hc;rw[← hL]at hc5;cases hc5
     ·rw[ae e,ae (af hb10 (s77 _ _ (s57 _ _ hc5)))];exact s77 _ _ (s57 _ _ hc5)
    generalize hadd (hadd h7 b10 (AObj.cells [V.str t.op,V.str t.text,V.int .i64 t.at',kv7] false)) lp M=h8 at j10 jM s78 j7 j8 j6 j2 jR⊢;clear hc8;have fin1:hit R.bad R.err t=false→∀h9,h9=hadd h8 lp L→Q7 (.bool true) h9:=fun e h9 e9=>by
     subst e9;exact hq7 _ ⟨by rw[e];rfl,s57,s78 L rfl⟩
    have fin2:∀(h9:H) (T:Tm) (ps:List Nat) (as' bd:IC),h9 lp=some (.loop T ps as' bd .done (some .ret))→h9 b2=some (.cells [.bool true] false)→Q7 (.bool false) h9:=fun h9 T ps as' bd x y=>hs7 _ ⟨⟨_,x,_,_,_,_,rfl⟩,y⟩
    by_cases h1:t.at'=R.bad
    case neg =>
     have e0:hit R.bad R.err t=false:=by unfold hit;rw[decide_eq_false h1];rfl
     have h1':¬(t.at':Int)=(R.bad:Int):=by omega
     have jM':=jM.trans (congrArg some hM.symm);refine W4 j10 j7 h1' jM' ?_;exact⟨_,Sub.refl,fin1 e0 _ (by rw[hL])⟩
    have jM':=jM.trans (congrArg some hM.symm);have nbl:b2≠lp:=fun e=>by rw[e,jM,← hM]at j2;cases j2
    have h1':(t.at':Int)=(R.bad:Int):=by omega
    rcases hte with⟨x,y⟩|⟨x,y⟩
    ·have j8':h8 b8=some (.cells [.int .i64 11] false):=by rw[j8,x];rfl
     by_cases h2:t.text=[]
     ·have e0:hit R.bad R.err t=false:=by unfold hit;simp[x,h2]
      refine W6 j10 j7 j8' h1' h2 jM' ?_;exact⟨_,Sub.refl,fin1 e0 _ (by rw[hL])⟩
     ·refine W5 j10 j7 j8' h1' h2 ?_;refine lq jR fun h9 s9=>?_;have i6:=s9 _ _ j6;have i2:=s9 _ _ j2;have iM:=s9 _ _ jM';refine W5 i6 i2 iM nbl (Ne.symm nbl) ?_;exact⟨_,Sub.refl,fin2 _ _ _ _ _ ah ((ae nbl).trans ah)⟩
    ·have j8':h8 b8=some (.cells [.int .i64 9] false):=by rw[j8,x];rfl
     by_cases h2:t.text=[]
     ·refine W5 j10 j7 j8' h1' h2 ?_;refine lq jR fun h9 s9=>?_;have i6:=s9 _ _ j6;have i2:=s9 _ _ j2;have iM:=s9 _ _ jM';refine W5 i6 i2 iM nbl (Ne.symm nbl) ?_;exact⟨_,Sub.refl,fin2 _ _ _ _ _ ah ((ae nbl).trans ah)⟩
     ·have e0:hit R.bad R.err t=false:=by unfold hit;simp[x,h2]
      refine W6 j10 j7 j8' h1' h2 jM' ?_;exact⟨_,Sub.refl,fin1 e0 _ (by rw[hL])⟩
   ·exfalso;have:=R6.1;rw[KE,Bool.false_or]at this;rw[List.any_eq_false]at this;refine this n0 (by unfold nodeM;rw[nodes];exact List.mem_cons_of_mem _ hn0) ?_;unfold hit;simp only[ha0,decide_true,Bool.true_and];rcases hte with⟨x,y⟩|⟨x,y⟩<;>simp[x,y]
   ·obtain⟨⟨o,e1,T,ps,as',bd,e2⟩,e3⟩:=S6;subst e2;refine W1 e1 ?_;have nb:b2≠lp:=fun e=>by rw[e,e1]at e3;cases e3
    have e4:hset h6 lp none b2=_:=(if_neg nb).trans e3;refine⟨_,Sub.refl,?_⟩;refine W2 e1 e4 ?_;exact⟨_,Sub.refl,hq _⟩
  ·have good:=(pR (A:=fun s=>decide (s∈A)) hI).1;generalize aU (fun s=>decide (s∈A)) items=R at he good I;obtain⟨fb,rows,gv,av,i1,i2,i3,i4,i5⟩:=I.obj;have lg:=i4.ll;have la:llE av=some (.int .i64 R.order.length):=by
    rcases i5 with⟨e,rfl⟩|⟨b,_,rfl,_⟩
    ·rw[List.map_eq_nil_iff]at e;rw[e];rfl
    ·rw[Gz,List.length_map]
   generalize hs0:(if ai items=[]then V.nilsl else .sl fb 0 7 (ai items).length)=s0v at i1;refine W0 ?_;intro b6 hb6;refine W0 ?_;intro b7 hb7;refine W0 ?_;intro b8 hb8;have n67:b6≠b7:=fun e=>by rw[e,ah]at hb7;cases hb7
   have hb7':h2 b7=none:=by rw[ae (Ne.symm n67)]at hb7;exact hb7
   have n78:b7≠b8:=fun e=>by rw[← e,ah]at hb8;cases hb8
   rw[ae (Ne.symm n78)]at hb8;have n68:b6≠b8:=fun e=>by rw[← e,ah]at hb8;cases hb8
   have hb8':h2 b8=none:=by rw[ae (Ne.symm n68)]at hb8;exact hb8
   refine W1 lY ?_;rw[QN n67 n68 n78];have k6:hadd (hadd (hadd h2 b6 (AObj.cells [V.ptr ib 0] false)) b7 (AObj.cells [V.int .i64 0] false)) b8 (AObj.cells [V.int .i64 0] false) b6=_:=(ae n68).trans ((ae n67).trans ah);have s23:Sub h2 (hadd (hadd (hadd h2 b6 (AObj.cells [V.ptr ib 0] false)) b7 (AObj.cells [V.int .i64 0] false)) b8 (AObj.cells [V.int .i64 0] false)):=fun c o hc=>by
    rw[ae (af hb8' hc),ae (af hb7' hc),ae (af hb6 hc)];exact hc
   generalize hadd (hadd (hadd h2 b6 (AObj.cells [V.ptr ib 0] false)) b7 (AObj.cells [V.int .i64 0] false)) b8 (AObj.cells [V.int .i64 0] false)=h3 at k6 s23⊢;have k2:=s23 _ _ (s3 _ _ d2);have sR3:Sub (hR m) h3:=fun x o hx=>s23 _ _ (s3 _ _ (sR _ _ hx));have i1:=s23 _ _ i1;have i4:=i4.mono s23;have hon:=I.len;refine W4 k6 i1 lg la ?_;refine E.loopX AC.mono (fun(i:Nat) a' h'=>i≤R.order.length∧h'=h3∧a'.d=[]∧a'.t 2=.ptr b2 0∧a'.t 6=.ptr b6 0∧a'.t 82=.int .i64 R.order.length∧a'.t 83=.int .i64 i) (fun i=>R.order.length-i) 0 ?_ ?_
   ·exact⟨Nat.zero_le _,rfl,rfl,rfl,rfl,rfl,rfl⟩
   ·rintro i ⟨ta,ds⟩ h4 ⟨hi,rfl,hd,t2,t6,t82,t83⟩;dsimp only at hd t2 t6 t82 t83;subst hd
    by_cases ci:i<R.order.length
    ·have i4':=i4;rcases i4' with⟨e,_⟩|⟨gb,_,_,_,egv,cgv⟩
     ·rw[e]at ci;cases ci
     subst egv;refine W6 t2 t6 t82 t83 k6 i1 ?_;refine E.loopX AC.mono (fun(j:Nat) a' h'=>j≤i∧h'=h4∧a'.d=[]∧a'.t 2=.ptr b2 0∧a'.t 6=.ptr b6 0∧a'.t 11=.int .i64 i∧a'.t 82=.int .i64 R.order.length∧a'.t 83=.int .i64 i∧a'.t 92=.int .i64 i∧a'.t 93=.int .i64 j) (fun j=>i-j) 0 ?_ ?_
     ·exact⟨Nat.zero_le _,rfl,rfl,t2,t6,rfl,t82,t83,rfl,rfl⟩
     ·rintro j ⟨tb,ds⟩ h5 ⟨hj,rfl,hd,t2,t6,t11,t82,t83,t92,t93⟩;dsimp only at hd t2 t6 t11 t82 t83 t92 t93;subst hd
      by_cases cj:j<i
      ·have p1:(List.map V.str R.order)[i]?=some (V.str R.order[i]):=by rw[List.getElem?_map,List.getElem?_eq_getElem ci];rfl
       have p2:(List.map V.str R.order)[j]?=some (V.str R.order[j]):=by rw[List.getElem?_map,List.getElem?_eq_getElem (by omega)];rfl
       have hne:(R.order[i]=R.order[j])=False:=eq_false fun e=>by
        exact List.pairwise_iff_getElem.1 good j i (by omega) ci cj e.symm
       refine W8 t2 t6 t11 t82 t83 t92 t93 (An2 k6 (An2 i1 (An2 cgv (An2 p1 (An2 p2 hne))))) ?_;exact⟨j+1,by omega,cj,by simp⟩
      ·have:j=i:=by omega
       subst this;refine W7 t2 t6 t11 t82 t83 t92 t93 ?_;exact⟨j+1,by omega,ci,by simp⟩
    ·have:i=R.order.length:=by omega
     subst this;refine W2 t82 t83 ?_;refine lq sR3 fun h5 s5=>?_;have e2:=s5 _ _ k2;refine W2 t2 e2 ?_;exact⟨_,Sub.refl,hq _⟩
end
section
open Mir Go.ChangeShapes Go.WideShapes Go.ChangeAt Go.RowKit
open Go.ChangeMaps (open_string shut_string)
set_option maxRecDepth 100000 in
theorem qx(os:Os)(started:os.Started)(H:Type)(enc:TypeId × Value→H):
  ReturnsInHanded {} Tryz.checked os 3 .any (fun w args=>(Rows.resolveToldSpec.pre enc Tryz.prog Tryz.f3 Rows.resolveToldRow.domain false w args∧laidMet Tryz.prog wP w)∧sizedMet enc Tryz.prog Tryz.f3 (OpenSpec.ofChange Rows.resolveToldSpec) false w args) (Rows.resolveToldSpec.post enc Tryz.prog Tryz.f3 false true false false):=by
 refine yz (C:=Tryz.checked) (X:=fun w _=>laidMet Tryz.prog wP w) (fun _ _ _ hh h=>h.of_heap hh) Tryz.own started (by kernel_rfl) Tryz.func3
  (ChangeSpec.witness_shaped (enc:=enc) (C:=Tryz.checked) (os:=os) (X:=fun w _=>laidMet Tryz.prog wP w) false (wM os) #[.string ⟨#[]⟩] 8 rfl (World.shaped_of_RefB (by kernel_rfl) (by kernel_rfl)) (by kernel_rfl) (by kernel_rfl) (by kernel_rfl) (wO os _)) ?_
 intro W base args ds gs before hval0 hW hcnd hLd hsh;obtain⟨L0,L1,L2,L3,m,S⟩:=Uf hLd hsh;have hval:∀(j:Nat) t v,Tryz.f3.params[j]?=some t→args[j]?=some v→Value.okWide Tryz.prog W .any base t v:=hval0;have hW':=hW;obtain⟨p,q,hA0,hV,rfl,hfz,hnd⟩:=hW;have hA:DataW.TrodAll enc Tryz.prog W 0 (fun _=>true) true Tryz.f3.params.toList args.toList ds p:=hA0;rw[Tryz.params3]at hA hval;obtain⟨v0,d0,rfl,rfl,h0⟩:=trodAll_one hA;obtain⟨rfl,rfl⟩:=trodVars_none hV;obtain⟨s0,rfl,rfl,rfl,w0⟩:=open_string Tryz.underlying9 (hval 0 9 v0 rfl rfl) h0;clear hA0 hval0;simp only[List.append_nil]at hW';have hcalls:=SG (f:=3) rfl (args:=[.str s0.data.toList]) (args':=[.string s0]) (.cons (by have:=VR.str (μ:=muR L0 L1 L2 L3) s0.data.toList;simpa using this) .nil) UD (Jk _ (fun _=>rfl)) (Oy S);refine hcalls.mono fun e W' ⟨he,hb⟩=>?_;subst he;exact⟨_,rfl,yC hW' (fun _ _ _=>trodAll_mk1 (shut_bool Tryz.underlying4 true)) (fun sp=>trodAll_mk1 (shut_string Tryz.underlying9 w0)) (fun _=>rfl) hb (ok_one (by kernel_rfl) rfl (okWide_bool_mk Tryz.underlying4 true))⟩
theorem rO:Rows.ResolveToldSaid:=
 OpenClaim.holds_of_wide 3 Tryz.f3 rfl rfl rfl rfl rfl rfl rfl ⟨rfl,rfl,rfl,rfl,rfl⟩ rfl rfl rfl rfl rfl (by kernel_rfl) Tryz.func3 (by kernel_rfl)
  (of_decide_eq_true (by kernel_rfl)) (by unfold Func.isWrapper;first|(rw[if_pos (by decide +kernel)];kernel_rfl)|(rw[if_neg (by decide +kernel)];exact⟨rfl,rfl⟩))
  (fun os started H enc _=>qx os started H enc)
theorem resolveToldCard_holds:Rows.ResolveToldCardSaid:=
 Claim7.holds_tied_plain_at .later [] [.widerDeep,.widerDeep,.widerDeep,.widerDeep] true (true,"940a08ca661267cf0838873448a6070153acbc0a0ad72a3c6dd6014d7f7e68da") false
  rO (fun _ h=>by cases h) (by kernel_rfl) (fun _ h=>by cases h) resolveTold_row_tie rfl ⟨rfl,rfl⟩ (by kernel_rfl) rfl
  (fun f fn hf hfn=>by
   obtain rfl:f=3:=Option.some.inj ((show Tryz.prog.funcNamed "scribe/scribelaw14.ResolveTold" = some 3 by kernel_rfl).symm.trans hf) |>.symm;obtain rfl:fn=Tryz.f3:=(Option.some.inj (Tryz.func3.symm.trans hfn)).symm;refine⟨by kernel_rfl,fun j t ht=>?_⟩;rw[Tryz.params3]at ht;have h3:t=9:=by
    rcases j with _|j<;>simp at ht<;>simp[← ht]
   subst h3
   ·exact(show Tryz.prog.wantsStandIn 9=false by kernel_rfl))
  (by kernel_rfl)
end

end Go.Proofs.YtkfbldogmgofoaaGreatDoor
