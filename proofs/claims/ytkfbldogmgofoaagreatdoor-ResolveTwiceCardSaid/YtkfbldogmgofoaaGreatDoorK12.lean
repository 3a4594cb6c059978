/- ResolveTwice: for every input the law's function returns true and its arguments read as before. -/
import Derived.ChangeMaps5
import Derived.ChangeSame
import Derived.ChangeVars
import Derived.HandedShaped
import Derived.JoinedAt
import Derived.JoinedOf
import Derived.LaidLaws
import Derived.Lib.LaidTab
import Derived.ProofKit
import Derived.RowKit
import Derived.RowKit3
import Derived.RowKitTokens
import Derived.SevenTiedAt
import Derived.Shelf.Vars
import Derived.SizedLaws
import Derived.SliceStrings
import Derived.Stop.LaidErr
import Derived.Test.YtkfbldogmgofoaaGreatDoorCards
import Derived.Test.YtkfbldogmgofoaaGreatDoorTie
import Derived.Test.YtkfbldogmgofoaaGreatDoorK11
set_option linter.unusedSimpArgs false
set_option linter.unusedVariables false
namespace Go.Proofs.YtkfbldogmgofoaaGreatDoor
section
open Mir Go.ChangeShapes Go.WideShapes Go.ChangeAt Go.RowKit
theorem yB{H:Type}{enc:TypeId × Value→H}{a:Assume}{C:Checked}{os:Os}{f:FuncId}{fn:Func}{s:ChangeSpec}{conds:List PathCond}{apart fresh handsOn again:Bool}{X:World→Array Value→Prop}
  (hX:∀(w w':World) (args:Array Value),w.heap=w'.heap→X w args→X w' args)
  (own:ownKnob C.prog.godebug=none) (started:os.Started) (noInit:C.prog.inits.idxOf? f=none) (hfn:C.prog.funcs[f]?=some fn)
  (witness:∃(w:World) (tape:Tape) (i:Input),w.os=os∧(w.forCall tape i).Shaped C.prog∧i.vars=[]∧Input.okWide C.prog (w.forCall tape i) .any w.heap.size f i ∧
   ((s.pre enc C.prog fn conds apart (w.forCall tape i).memory i.args∧X (w.forCall tape i).memory i.args)∧sizedMet enc C.prog fn (OpenSpec.ofChange s) apart (w.forCall tape i).memory i.args)∧a.holds C.prog (lone (Frame.enter C.prog f i.args .normal) [] (w.forCall tape i)))
  (contract:∀(W:World) (base:Nat) (args:Array Value) (ds gs:List (DataW H)) (before:List MemPlace),
   (∀(j:Nat) t v,fn.params[j]?=some t→args[j]?=some v→Value.okWide C.prog W .any base t v) →
   DataW.Whole enc C.prog fn.params.toList s.vars apart W args.toList ds gs before →
   conds.all (PathCond.test C.prog ⟨fn.params.toList,ds,s.plain.varTypes C.prog,gs⟩)=true →
   X W args→W.ShapedOpen C.prog →
   Calls C.prog f args W fun e W'=>∃v,e=.returned v∧s.post enc C.prog fn apart fresh handsOn again W args v W'):
  ReturnsInHanded a C os f .any (fun w args=>(s.pre enc C.prog fn conds apart w args∧X w args)∧sizedMet enc C.prog fn (OpenSpec.ofChange s) apart w args) (s.post enc C.prog fn apart fresh handsOn again):=by
 refine returnsInHanded_of_calls own started noInit witness ?_;intro w tape i _ hsh _ hok hpre hholds;obtain⟨_,_,_,fn',hfn',_,_,_,_,hval⟩:=hok;have e:fn'=fn:=Option.some.inj (hfn'.symm.trans hfn);subst e;obtain⟨⟨⟨ds,gs,before,hw,hc⟩,hx⟩,hz⟩:=hpre;have hw':=DataW.Whole.of_heap (w':=w.forCall tape i) (by rfl) hw;refine(contract (w.forCall tape i) w.heap.size i.args ds gs before hval hw' hc (hX _ _ _ (by rfl) hx) hsh).mono fun e W' ⟨v,he,hp⟩=>?_;subst he;exact ChangeSpec.post_blind hp
theorem addr_eq{a:Addr}(h:a.spot=none):a=⟨a.block,a.off,none⟩:=by cases a;simp at h;subst h;rfl
theorem AY{P:Program}{W:World}{n:String}{g:Nat}{cs:Array Value}(hg:P.globalNamed n=some g)(h:W.var? P n=some cs):∃t fr,W.heap[g]?=some (.cells cs t fr):=by
 unfold World.var? at h;rw[hg,Option.bind_some]at h;cases hx:W.heap[g]? with
 |none=>simp[hx]at h
 |some o =>
   cases o with
   |cells c t fr=>simp[hx]at h;subst h;exact⟨t,fr,rfl⟩
   |_=>simp[hx]at h
structure TextsAt(W:World)(g:Nat)(ss:List (List UInt8))(L:Mir.Loc):Prop where
 row:∃c el fr,W.heap[L.B]?=some (.cells c el fr)∧c.size=L.n∧L.s+ss.length≤L.n∧∀i s,ss[i]?=some s→c[L.s+i]?=some (.string ⟨s.toArray⟩)
 var:∃v t fr,W.heap[g]?=some (.cells #[v] t fr)∧v.oneCell'=true∧∀(μ:Mu) (b:Nat),μ b=some L→VR μ (.sl b 0 1 ss.length) v
theorem lF{P:Program}{W:World}{n:String}{ss:List (List UInt8)}{r:List (String × DataW Unit)}{g:Nat}{t e:TypeId}{zero:Array Value}
  (h:laidMet P ((n,.slice (ss.map fun s=>.lit (.string s)) [])::r) W) (hsh:W.ShapedOpen P) (hg:P.globalNamed n=some g) (ht:(P.globals[g]?).map (·.type)=some t) (hu:P.underlying t=some (.slice e)) (he:P.underlying e=some .string) (hce:P.cellsOf e=1)
  (hlt:g<P.globals.size) (h0:((begin P (fun _ _=>0) default).world.heap[g]?).bind Obj.row?=some (zero,t)) (hz:zero.size=1) (hb:P.buildable t=true) (hc:P.cellTypes P.depth t=some [t]) (hss:ss≠[]):∃L,TextsAt W g ss L:=by
 obtain⟨ps,⟨g0,t0,cs0,f0,p0,q0,hg0,ht0,hv0,hd0,_,e0⟩,_,hrows⟩:=h;obtain rfl:=Option.some.inj (hg.symm.trans hg0);obtain rfl:=Option.some.inj (ht.symm.trans ht0);obtain⟨t',fr',hh⟩:=AY hg hv0;rcases open_strings hu he hce hd0 with⟨hcs,hx⟩|⟨a,len,cap,xs,hcs,_,hl,hm,hlen,hx,hcell,hsz⟩
 ·have:=congrArg Prod.fst hx;cases this
 ·simp only[if_true]at hlen;have hx1:=congrArg Prod.fst hx;simp only[DataW.slice.injEq]at hx1;obtain⟨hx1,hx2⟩:=hx1;have hcl:cap=len:=by
   have:=congrArg List.length hx2;simp only[strs,List.length_map,List.length_nil,List.length_drop]at this;omega
  subst hcl;have hxs:xs.map (fun s=>s.data.toList)=ss:=by
   rw[List.take_of_length_le (by omega)]at hx1;have:=congrArg (List.map fun(d:DataW Unit)=>match d with|.lit (.string s)=>s|_=>[]) hx1;simp only[strs,List.map_map]at this;simpa[Function.comp_def]using this.symm
  have hsl:ss.length=xs.length:=by rw[← hxs];simp
  obtain⟨cs,hh2,hs2,hr2⟩:=hsh.1 g zero t hlt h0;rw[hh]at hh2;simp only[Option.some.injEq,Obj.cells.injEq]at hh2;obtain⟨rfl,_,_⟩:=hh2;obtain⟨ts,hts,_,hall⟩:=hr2 hb;rw[hc]at hts;cases hts;have hcs':cs0=#[.slice (some a) cap cap]:=by apply Array.toList_inj.1;rw[hcs]
  subst hcs';obtain⟨u,hu',hok⟩:=hall 0 (.slice (some a) cap cap) rfl;have:u=t:=by simpa using hu'.symm
  subst this;have hsp:a.spot=none:=by
   simp only[Cell.ok,hu,World.has]at hok;exact hok.2.2.2.1
  have hpos:0<xs.length:=by rw[← hsl];exact List.length_pos_iff.2 hss
  have key:∀i,(a.add i)=⟨a.block,a.off+i,none⟩:=fun i=>by
   unfold Addr.add;split
   ·rename_i e;subst e;exact addr_eq hsp
   ·rfl
  have hblk:∃c el fr,W.heap[a.block]?=some (.cells c el fr)∧∀i,i<xs.length→c[a.off+i]?=some (.string (xs.getD i ByteArray.empty)):=by
   have hc0:=hcell 0 hpos;rw[key]at hc0;unfold World.cell? at hc0;split at hc0
   ·rename_i c el fr e;refine⟨c,el,fr,e,fun i hi=>?_⟩;have:=hcell i hi;rw[key]at this;unfold World.cell? at this;simp only[e,Option.isSome_none,Bool.false_eq_true,if_false]at this;exact this
   ·cases hc0
  obtain⟨c,el,fr,hbk,hcs⟩:=hblk;have hend:a.off+xs.length≤c.size:=by
   have:=hcs (xs.length-1) (by omega);have:=(Array.getElem?_eq_some_iff.1 this).1;omega
  refine⟨⟨a.block,a.off,c.size⟩,⟨c,el,fr,hbk,rfl,by show a.off+ss.length≤c.size;omega,fun i s hi=>?_⟩,⟨_,t',fr',hh,rfl,fun μ b hμ=>?_⟩⟩
  ·rw[← hxs,List.getElem?_map]at hi;cases hxi:xs[i]? with
   |none=>rw[hxi]at hi;cases hi
   |some x =>
     rw[hxi,Option.map_some,Option.some.injEq]at hi;have hil:=(List.getElem?_eq_some_iff.1 hxi).1
     show c[a.off+i]?=_
     rw[hcs i hil,List.getD_eq_getElem?_getD,hxi,← hi];simp
  ·rw[addr_eq hsp];have:=VR.sl (μ:=μ) (b:=b) (o:=0) (es:=1) (len:=ss.length) (o':=0) (cap:=cap) hμ (by simp) (by omega) (by simp;omega) (by omega);have e:ss.length=cap:=by omega
   rw[e]at this;rw[e];simpa using this
theorem UT{P:Program}{μ:Mu}{h:H}{w:World}(hfin:∃N,∀b,N≤b→μ b=none)(hglob:∀g,g<P.globals.size→∃n,μ g=some ⟨g,0,n⟩)
  (hat:∀b o,h b=some o→b<1000∧o.ro=true∧∃L x,μ b=some L∧w.heap[L.B]?=some x∧OR P μ L o x):R P μ h w:=by
 refine⟨hfin,fun b o hb=>(hat b o hb).2.2,fun b b' o o' L L' hb hb' hne h1 h2 hro=>?_,hglob,fun b o L x hb hL hx=>⟨fun hB=>?_,fun hW=>?_⟩⟩
 ·rw[(hat b o hb).2.1]at hro;cases hro
 ·have:=(hat b o hb).1;have:=hB.2;omega
 ·have:=(hat b o hb).1;have:=hW.2;omega
theorem Sr{f:Nat}{g:Mir.Fn}(hg:pg.fns f=some g){args:List V}{args':List Value}{μ:Mu}{h:H}{w:World}(hv:VRs μ args args')(hro:∀b o,h b=some o→o.ro=true)
  (hA:AC pg (.fn f) args h fun v _=>v=.bool true) (r:R Tryz.prog μ h w):
  Calls Tryz.prog f args'.toArray w fun e w'=>e=.returned (.bool true)∧Below w.heap.size w w':=by
 refine(JP UC hg hA hv r).mono fun e w' ⟨d,he,v,h',μ',hq,hd,st⟩=>?_;subst hq;rw[hd.bool_inv]at he;refine⟨he,st.os,st.tape,st.output,st.size,fun k hk=>st.kept k hk ?_⟩;rintro⟨b,o,L,hb,hr,_⟩;rw[hro b o hb]at hr;cases hr
theorem Tryz.own:ownKnob Tryz.prog.godebug=none:=by kernel_rfl
section
variable{H:Type}{enc:TypeId × Value→H}{P:Program}
theorem yE{f:Func}{s:ChangeSpec}{apart fresh handsOn again:Bool}{W W':World}{args:Array Value}{v:Value}{ds gs:List (DataW H)}
  (hW:DataW.Whole enc P f.params.toList s.vars apart W args.toList ds gs [])
  (hres:∀(b:Nat) (sp:Nat→Bool) (hd:Bool),DataW.TrodAll enc P W' b sp hd f.resultTypes.toList (v.resultList f.resultTypes.size) (s.fn H (ds++gs)).results [])
  (hargs:∀sp:Nat→Bool,DataW.TrodAll enc P W' 0 sp true f.params.toList args.toList (s.fn H (ds++gs)).args [])
  (hvars:∀sp:Nat→Bool,DataW.TrodVars enc P W' sp s.vars (s.fn H (ds++gs)).vars [])
  (hb:Below W.heap.size W W')
  (hok:∀(j:Nat) (t:TypeId) (r:Value),f.resultTypes[j]?=some t→(v.resultList f.resultTypes.size)[j]?=some r→Value.okWide P W' .any 0 t r):
  s.post enc P f apart fresh handsOn again W args v W':=by
 refine⟨ds,gs,[],[],[],[],hW,hres _ _ _,hargs _,hvars _,hb.frame _,fun _=>?_⟩;refine⟨hok,_,_,([]++[])++[],⟨[]++[],[],trodAll_append (hargs _) (hres _ _ _),hvars _,rfl,?_,?_⟩,?_⟩
 ·intro b off hp;simp at hp
 ·intro _;simp
 ·intro p hp;simp at hp
end
end
section
open Mir Go.ChangeShapes Go.WideShapes Go.ChangeAt Go.RowKit
def specialT:List (List UInt8):=[[78,82],[78,70],[70,83],[79,70,83],[79,82,83],[70,73,76,69,78,65,77,69],[82,83,84,65,82,84],[82,76,69,78,71,84,72]]
abbrev wV:List (String × DataW Unit):=[("scribe/lex.words",Rows.laid_scribe_lex_words),("scribe/lex.builtins",Rows.laid_scribe_lex_builtins),("scribe/lex.banned",Rows.laid_scribe_lex_banned),("scribe/resolve.special",Rows.laid_scribe_resolve_special)]
def BN(l:List (List UInt8)):Array Value:=(l.map fun s=>Value.string ⟨s.toArray⟩).toArray
noncomputable def wS(os:Os):World:=
 let N:=(World.settled Tryz.prog os).heap.size
 let w0:=World.holding Tryz.prog os ⟨#[.cells (BN wordsT) 9,.cells (BN builtinsT) 9,.cells (BN bannedT) 9,.cells (BN specialT) 9],#[],[]⟩
 let put (h:Array Obj) (g:Nat) (cs:Array Value):Array Obj:=h.modify g fun
  |.cells _ t frozen=>.cells cs t frozen
  |o=>o
 let h0:=put w0.heap 1 #[.slice (some ⟨N,0,none⟩) 16 16]
 let h1:=put h0 2 #[.slice (some ⟨N+1,0,none⟩) 13 13]
 let h2:=put h1 3 #[.slice (some ⟨N+2,0,none⟩) 6 6]
 let h3:=put h2 0 #[.slice (some ⟨N+3,0,none⟩) 8 8]
 {w0 with heap:=h3}
theorem wU(os:Os)(args:Array Value):laidMet Tryz.prog wV ((wS os).forCall (fun _ _=>0) ⟨#[],args,[]⟩).memory:=
 laidMet_of_run' 8 (by kernel_rfl) (by kernel_rfl)
structure StartR(W:World)(L0 L1 L2 L3:Mir.Loc)(m:Int):Prop where
 words:TextsAt W 1 wordsT L1
 builtins:TextsAt W 2 builtinsT L2
 banned:TextsAt W 3 bannedT L3
 special:TextsAt W 0 specialT L0
 maxLen:∃t fr,W.heap[4]?=some (.cells #[.int .i64 m] t fr)
theorem TV{W:World}(h:laidMet Tryz.prog wV W)(hsh:W.ShapedOpen Tryz.prog):∃L0 L1 L2 L3 m,StartR W L0 L1 L2 L3 m:=by
 obtain⟨L1,h1⟩:=lF (ss:=wordsT) (g:=1) (t:=37) (e:=9) (zero:=#[.slice none 0 0]) h hsh (by kernel_rfl) (by kernel_rfl) (by kernel_rfl) (by kernel_rfl) (by kernel_rfl) (of_decide_eq_true (by kernel_rfl)) (by kernel_rfl) rfl (by kernel_rfl) (by kernel_rfl) (by decide);obtain⟨L2,h2⟩:=lF (ss:=builtinsT) (g:=2) (t:=37) (e:=9) (zero:=#[.slice none 0 0]) h.tail hsh (by kernel_rfl) (by kernel_rfl) (by kernel_rfl) (by kernel_rfl) (by kernel_rfl) (of_decide_eq_true (by kernel_rfl)) (by kernel_rfl) rfl (by kernel_rfl) (by kernel_rfl) (by decide);obtain⟨L3,h3⟩:=lF (ss:=bannedT) (g:=3) (t:=37) (e:=9) (zero:=#[.slice none 0 0]) h.tail.tail hsh (by kernel_rfl) (by kernel_rfl) (by kernel_rfl) (by kernel_rfl) (by kernel_rfl) (of_decide_eq_true (by kernel_rfl)) (by kernel_rfl) rfl (by kernel_rfl) (by kernel_rfl) (by decide);obtain⟨L0,h0⟩:=lF (ss:=specialT) (g:=0) (t:=37) (e:=9) (zero:=#[.slice none 0 0]) h.tail.tail.tail hsh (by kernel_rfl) (by kernel_rfl) (by kernel_rfl) (by kernel_rfl) (by kernel_rfl) (of_decide_eq_true (by kernel_rfl)) (by kernel_rfl) rfl (by kernel_rfl) (by kernel_rfl) (by decide);obtain⟨m,hm⟩:=cell_of_shapedOpen_int (P:=Tryz.prog) (g:=4) (t:=3) (zero:=#[.int .i64 0]) hsh (of_decide_eq_true (by kernel_rfl)) (by kernel_rfl) rfl (by kernel_rfl) (by kernel_rfl) (by kernel_rfl);obtain⟨cs,hh,hs,_⟩:=hsh.1 4 #[.int .i64 0] 3 (of_decide_eq_true (by kernel_rfl)) (by kernel_rfl);have hcs:cs=#[.int .i64 m]:=by
  unfold World.cell? at hm;simp only[hh,Option.isSome_none,Bool.false_eq_true,if_false]at hm;have hs:cs.size=1:=hs;apply Array.ext_getElem?;intro i;rcases Nat.eq_zero_or_pos i with c|c
  ·subst c;rw[hm];rfl
  ·rw[Array.getElem?_eq_none (by omega),Array.getElem?_eq_none (by simp;omega)]
 subst hcs;exact⟨L0,L1,L2,L3,m,h1,h2,h3,h0,⟨_,_,hh⟩⟩
def hR(m:Int):H:=fun b =>
 if b=1 then some (.cells [.sl 601 0 1 16] true)else if b=2 then some (.cells [.sl 602 0 1 13] true)else if b=3 then some (.cells [.sl 603 0 1 6] true)
 else if b=0 then some (.cells [.sl 600 0 1 8] true)else if b=4 then some (.cells [.int .i64 m] true)
 else if b=601 then some (.cells (wordsT.map .str) true)else if b=602 then some (.cells (builtinsT.map .str) true)else if b=603 then some (.cells (bannedT.map .str) true)else if b=600 then some (.cells (specialT.map .str) true)else none
noncomputable def muR(L0 L1 L2 L3:Mir.Loc):Mu:=fun b=>if b<Tryz.prog.globals.size then some ⟨b,0,1⟩else if b=600 then some L0 else if b=601 then some L1 else if b=602 then some L2 else if b=603 then some L3 else none
theorem vH{W:World}{μ:Mu}{g:Nat}{v:Value}{t:TypeId}{fr:Nat × Nat}{x:V}(h1:v.oneCell'=true)(h2:VR μ x v):OR Tryz.prog μ ⟨g,0,1⟩ (.cells [x] true) (.cells #[v] t fr):=by
 refine⟨_,t,fr,rfl,rfl,by simp,fun i y hy=>?_,fun h=>by cases h⟩;have hi:i=0:=by have:=(List.getElem?_eq_some_iff.1 hy).1;simpa using this
 subst hi;cases hy;exact⟨v,rfl,h2,h1⟩
theorem zO{W:World}{μ:Mu}{g:Nat}{ss:List (List UInt8)}{L:Mir.Loc}(h:TextsAt W g ss L):∃x,W.heap[L.B]?=some x∧OR Tryz.prog μ L (.cells (ss.map .str) true) x:=by
 obtain⟨c,el,fr,h1,h2,h3,h4⟩:=h.row;refine⟨_,h1,c,el,fr,rfl,h2,by rw[List.length_map];exact h3,fun i y hy=>?_,fun h=>by cases h⟩;rw[List.getElem?_map]at hy;cases e:ss[i]? with
 |none=>rw[e]at hy;cases hy
 |some s=>rw[e,Option.map_some,Option.some.injEq]at hy;subst hy;exact⟨_,h4 i s e,.str s,rfl⟩
theorem UR{b:Nat}(h:b<8):b<Tryz.prog.globals.size:=Nat.lt_of_lt_of_le h (of_decide_eq_true (by kernel_rfl))
theorem UQ:Tryz.prog.globals.size≤8:=of_decide_eq_true (by kernel_rfl)
theorem Oy{W:World}{L0 L1 L2 L3:Mir.Loc}{m:Int}(S:StartR W L0 L1 L2 L3 m):R Tryz.prog (muR L0 L1 L2 L3) (hR m) W:=by
 have hG:=UQ;have e0:muR L0 L1 L2 L3 600=some L0:=by unfold muR;rw[if_neg (by omega),if_pos rfl]
 have e1:muR L0 L1 L2 L3 601=some L1:=by unfold muR;rw[if_neg (by omega),if_neg (by omega),if_pos rfl]
 have e2:muR L0 L1 L2 L3 602=some L2:=by unfold muR;rw[if_neg (by omega),if_neg (by omega),if_neg (by omega),if_pos rfl]
 have e3:muR L0 L1 L2 L3 603=some L3:=by unfold muR;rw[if_neg (by omega),if_neg (by omega),if_neg (by omega),if_neg (by omega),if_pos rfl]
 have eg:∀b,b<8→muR L0 L1 L2 L3 b=some ⟨b,0,1⟩:=fun b hb=>by unfold muR;rw[if_pos (UR hb)]
 refine UT ⟨1000,fun b hb=>?_⟩ (fun g hg=>⟨1,by unfold muR;rw[if_pos hg]⟩) fun b o hb=>?_
 ·unfold muR;rw[if_neg (by omega),if_neg (by omega),if_neg (by omega),if_neg (by omega),if_neg (by omega)]
 ·unfold hR at hb;split at hb
  ·rename_i e;subst e;cases hb;obtain⟨v,t,fr,q1,q2,q3⟩:=S.words.var;exact⟨by omega,rfl,_,_,eg _ (by omega),q1,vH (W:=W) q2 (q3 _ _ e1)⟩
  split at hb
  ·rename_i e;subst e;cases hb;obtain⟨v,t,fr,q1,q2,q3⟩:=S.builtins.var;exact⟨by omega,rfl,_,_,eg _ (by omega),q1,vH (W:=W) q2 (q3 _ _ e2)⟩
  split at hb
  ·rename_i e;subst e;cases hb;obtain⟨v,t,fr,q1,q2,q3⟩:=S.banned.var;exact⟨by omega,rfl,_,_,eg _ (by omega),q1,vH (W:=W) q2 (q3 _ _ e3)⟩
  split at hb
  ·rename_i e;subst e;cases hb;obtain⟨v,t,fr,q1,q2,q3⟩:=S.special.var;exact⟨by omega,rfl,_,_,eg _ (by omega),q1,vH (W:=W) q2 (q3 _ _ e0)⟩
  split at hb
  ·rename_i e;subst e;cases hb;obtain⟨t,fr,q1⟩:=S.maxLen;exact⟨by omega,rfl,_,_,eg _ (by omega),q1,vH (W:=W) rfl (.int _ _)⟩
  split at hb
  ·rename_i e;subst e;cases hb;obtain⟨x,q1,q2⟩:=zO (μ:=muR L0 L1 L2 L3) S.words;exact⟨by omega,rfl,_,x,e1,q1,q2⟩
  split at hb
  ·rename_i e;subst e;cases hb;obtain⟨x,q1,q2⟩:=zO (μ:=muR L0 L1 L2 L3) S.builtins;exact⟨by omega,rfl,_,x,e2,q1,q2⟩
  split at hb
  ·rename_i e;subst e;cases hb;obtain⟨x,q1,q2⟩:=zO (μ:=muR L0 L1 L2 L3) S.banned;exact⟨by omega,rfl,_,x,e3,q1,q2⟩
  split at hb
  ·rename_i e;subst e;cases hb;obtain⟨x,q1,q2⟩:=zO (μ:=muR L0 L1 L2 L3) S.special;exact⟨by omega,rfl,_,x,e0,q1,q2⟩
  ·cases hb
theorem Ut{m:Int}:∀b o,hR m b=some o→o.ro=true:=by
 intro b o hb;unfold hR at hb
 repeat' (split at hb)
 all_goals first|(cases hb;rfl)|(cases hb)
end
section
open Mir Go.ChangeShapes Go.WideShapes Go.ChangeAt Go.RowKit
def hP(m:Int):H:=fun b =>
 if b=1 then some (.cells [.sl 601 0 1 16] true)else if b=2 then some (.cells [.sl 602 0 1 13] true)else if b=3 then some (.cells [.sl 603 0 1 6] true)
 else if b=4 then some (.cells [.int .i64 m] true)
 else if b=601 then some (.cells (wordsT.map .str) true)else if b=602 then some (.cells (builtinsT.map .str) true)else if b=603 then some (.cells (bannedT.map .str) true)else none
end
section
open Mir
variable{h:H}{Q:V→H→Prop}{m:Int}
end
end Go.Proofs.YtkfbldogmgofoaaGreatDoor
namespace Mir
section
end
end Mir
namespace Go.Proofs.YtkfbldogmgofoaaGreatDoor
section
open Mir
variable{h0 h1 h:H}{Q:V→H→Prop}{p q:Nat}
end
section
open Mir
theorem back{a b:PS}(f:Kp a a→Kp a b)(e:b.err=0):a.err=0:=Classical.byContradiction fun h=>(f (Kp.refl h)).n e
variable{T T':List Tokn}{N k d n:Nat}{s s':PS}
end
section
open Mir
variable{T T':List Tokn}{N k d n m m':Nat}{s s':PS}{M M':PF}
theorem GN(e:Txt)(K:Nat)(l:List Tree)(s:PS):listN T M e (K+1) l s=if s.err=0∧s.isAt T [e]=false then listN T M e K (l++[(M (if l=[]then s else(s.expect T [44]).lines T)).1]) ((M (if l=[]then s else(s.expect T [44]).lines T)).2.lines T)else(l,s):=by rw[listN]
end
section
open Mir
variable{T T':List Tokn}{N k d n m m':Nat}{s s':PS}{M M' E E' P P' R R' U U':PF}
theorem iy{a e:Nat}(he:e≠0){q:Prop}[Decidable q](e0:s.err=0)(h:(s.wrong a q e).err=0):¬q∧s.wrong a q e=s:=by
 by_cases c:q
 ·unfold PS.wrong at h;rw[if_pos ⟨c,e0⟩]at h;exact absurd h he
 ·exact⟨c,by unfold PS.wrong;rw[if_neg (fun x=>c x.1)]⟩
end
section
open Mir
variable{T T':List Tokn}{N k d n m m':Nat}{s s':PS}{M M' E E' P P' R R' U U':PF}
theorem CV(ln:Bool)(ops:List (Txt × Txt))(K:Nat)(t:Tree)(s:PS):chainN T M ln ops (K+1) t s=if(s.cur T).k=8 then match ops.lookup (s.cur T).t with
   |none=>(t,s)
   |some op=>chainN T M ln ops K (nodeM op [t,(M (if ln then(s.step T).lines T else s.step T)).1]) (M (if ln then(s.step T).lines T else s.step T)).2
  else(t,s):=by rw[chainN];rfl
end
section
open Mir
variable{T T':List Tokn}{N k d n m m':Nat}{s s':PS}{M M' E E' P P' R R' U U':PF}
theorem JS(K:Nat)(t:Tree)(s:PS):catN T M (K+1) t s=if(s.cur T).k∈[2,3,5,6,9]∨s.isAt T [[36],[40]]=true then catN T M K (nodeM [99,97,116] [t,(M s).1]) (M s).2 else(t,s):=by rw[catN]
theorem Kp.relStep{s0:PS}{C:PF}{x:Tree × PS}(q:Kp s0 x.2):Kp s0 (relStep T C x).2:=by
 unfold Go.Proofs.YtkfbldogmgofoaaGreatDoor.relStep;rw[if_neg (by rw[iD q.n];exact fun x=>absurd x.1 (by decide))];exact q
theorem xN(C:PF)(x:Tree × PS):relStep T C x=if(x.2.cur T).k=8∧¬((x.2.cur T).t=[62]∧x.2.flat=true)then match relOps.lookup (x.2.cur T).t with
  |none=>x
  |some op=>(nodeM op [x.1,(C (x.2.step T)).1],(C (x.2.step T)).2)
 else x:=by unfold relStep;rfl
theorem QJ(K:Nat)(t:Tree)(s:PS):inN T (K+1) t s=if s.isAt T [[105,110]]=true then inN T K (aN [105,110] ((s.step T).name T [5]).1 [t]) ((s.step T).name T [5]).2 else(t,s):=by rw[inN]
theorem Kp.exprStep{s0:PS}{x:Tree × PS}(q:Kp s0 x.2):Kp s0 (exprStep T E x).2:=by
 unfold Go.Proofs.YtkfbldogmgofoaaGreatDoor.exprStep;rw[if_neg (by rw[q.at];decide),if_neg (by rw[iD q.n];exact fun x=>absurd x.2.1 (by decide))];exact q
theorem ww(x:Tree × PS):exprStep T E x=if x.2.isAt T [[63]]=true then
   (nodeM [99,111,110,100] [x.1,(E ((x.2.step T).lines T)).1,(E ((((E ((x.2.step T).lines T)).2.lines T).expect T [58]).lines T)).1],(E ((((E ((x.2.step T).lines T)).2.lines T).expect T [58]).lines T)).2)
  else if x.1.isPlace=true∧(x.2.cur T).k=8∧(x.2.cur T).t∈assignOps then(.nd [97,115,115,105,103,110] (x.2.cur T).t 0 [x.1,(E ((x.2.step T).lines T)).1],(E ((x.2.step T).lines T)).2)
  else x:=by unfold exprStep;rfl
theorem wu{x:Tree × PS}(h:(exprStep T E x).2.err=0):x.2.err=0:=back (fun q=>q.exprStep) h
theorem BP{x:PS}(h:x.up.err=0):x.err=0:=h
end
section
open Mir
variable{T:List Tokn}{N n m c:Nat}{s s':PS}{M E P R U:PF}
def Wp(T:List Tokn):Prop:=∀i,(T.getD i tkz).k=7→(T.getD i tkz).t≠[40]∧(T.getD i tkz).t≠[41]
variable(W:TkOk T N)(V:Wp T)
include W V
end
section
open Mir
variable{T:List Tokn}{N n m c:Nat}{s s':PS}{M E P R U:PF}
end
section
open Mir
variable{T T':List Tokn}{N k d n m m':Nat}{s s':PS}{M M' E E' P P' R R' U U':PF}
theorem FT(K:Nat)(l:List Tree)(s:PS):outN T E (K+1) l s=if s.err=0∧s.over T=false∧s.isAt T [[62],[62,62]]=false then
   outN T E K (l++[(E (if l=[]then s else(s.expect T [44]).lines T)).1]) (E (if l=[]then s else(s.expect T [44]).lines T)).2
  else(l,s):=by rw[outN]
end
section
open Mir
variable{T T':List Tokn}{N k d n m m':Nat}{s s':PS}{M M' E E' P P' R R' U U' S S':PF}
theorem Kp.outTo{s0:PS}(q:Kp s0 s)(hU:KF (aX T U)):Kp s0 (outTo T (aX T U) s).2:=by
 unfold Go.Proofs.YtkfbldogmgofoaaGreatDoor.outTo;exact Kp.ite (hU _ _ q.step) (Kp.ite (hU _ _ q.step) q)
theorem Kp.outEnd{s0:PS}(q:Kp s0 s)(op:Txt)(l:List Tree):Kp s0 (outEnd T op l s):=by
 unfold Go.Proofs.YtkfbldogmgofoaaGreatDoor.outEnd;exact Kp.iteS (q.flat false).fail (q.flat false)
end
section
open Mir
variable{T T':List Tokn}{N k d n m m':Nat}{s s':PS}{M M' E E' P P' R R' U U' S S':PF}
end
section
open Mir
variable{T T':List Tokn}{N k d n m m':Nat}{s s':PS}{M M' E E' P P' R R' U U' S S':PF}
theorem Kp.blockN{s0:PS}(q:Kp s0 s)(K:Nat)(l:List Tree):Kp s0 (blockN T S K l s).2:=by
 cases K with
 |zero=>exact q
 |succ K=>rw[Mir.blockN,if_neg q.n];exact q
theorem vK(K:Nat)(l:List Tree)(s:PS):blockN T S (K+1) l s=if s.err=0 then
   if(s.skip T).isAt T [[125]]=true then(l,(s.skip T).step T)else blockN T S K (l++[(S (s.skip T)).1]) (S (s.skip T)).2
  else(l,s):=by rw[blockN]
theorem Kp.forA{s0:PS}(q:Kp s0 s)(hF:KF M)(x:Txt):Kp s0 (forA T M x s).2:=by
 unfold Go.Proofs.YtkfbldogmgofoaaGreatDoor.forA;exact Kp.ite q (hF _ _ q)
end
section
open Mir
variable{T T':List Tokn}{N k d n m m':Nat}{s s':PS}{M M' E E' P P' R R' U U' S S':PF}
theorem FU(K:Nat)(l:List Tree)(s:PS):parN T (K+1) l s=if s.err=0∧s.isAt T [[41]]=false then
   parN T K (l++[aN [112,97,114,97,109] (PS.name T (if l=[]then s else(s.expect T [44]).lines T) [5]).1 []]) ((PS.name T (if l=[]then s else(s.expect T [44]).lines T) [5]).2.lines T)
  else(l,s):=by rw[parN]
end
section
open Mir
variable{T T':List Tokn}{N k n:Nat}{s s':PS}
theorem DJ(K:Nat)(l:List Tree)(s:PS):itemsN T (K+1) l s=if s.err=0 then
   if((s.skip T).cur T).k=0 then(l,s.skip T)else itemsN T K (l++[(itemM T (s.skip T)).1]) (itemM T (s.skip T)).2
  else(l,s):=by rw[itemsN]
end
section
open Mir
def unOps:List Txt:=[[110,111,116],[110,101,103],[112,108,117,115]]
def binOps:List Txt:=[[97,100,100],[115,117,98],[109,117,108],[100,105,118],[109,111,100],[99,97,116],[108,101,115,115],[108,101,115,115,101,113],[101,113,117,97,108],[110,111,116,101,113,117,97,108],[103,114,101,97,116,101,114],[103,114,101,97,116,101,114,101,113],[111,114],[97,110,100],[109,97,116,99,104],[110,111,109,97,116,99,104]]
def incOps:List Txt:=[[112,114,101,105,110,99],[112,114,101,100,101,99],[112,111,115,116,105,110,99],[112,111,115,116,100,101,99]]
def biOk(t:Txt)(n:Nat):Prop:=
 if t=[108,101,110,103,116,104]then n≤1
 else if t=[115,117,98,115,116,114]∨t=[115,112,108,105,116]then n=2∨n=3
 else if t=[115,117,98]∨t=[103,115,117,98]then n=3
 else if t=[105,110,100,101,120]∨t=[109,97,116,99,104]then n=2
 else if t=[115,112,114,105,110,116,102]then 1≤n
 else if t=[114,97,110,100]then n=0
 else n=1
mutual
inductive IsE:Tree→Prop
 |lit {o t:Txt} {a:Nat}:o∈[[110,117,109],[115,116,114],[114,101]]→IsE (.nd o t a [])
 |var {t:Txt} {a:Nat}:t≠[]→IsE (.nd [118,97,114] t a [])
 |index {t:Txt} {a:Nat} {e:Tree}:t≠[]→IsE e→IsE (.nd [105,110,100,101,120] t a [e])
 |field {e:Tree}:IsE e→IsE (nodeM [102,105,101,108,100] [e])
 |builtin {t:Txt} {a:Nat} {l:List Tree}:biOk t l.length→t≠[115,112,108,105,116]→((t=[115,117,98]∨t=[103,115,117,98])→(l.getD 2 .zero).isPlace=true)→IsEs l→IsE (.nd [98,117,105,108,116,105,110] t a l)
 |split {a b:Nat} {u:Txt} {x:Tree} {l:List Tree}:u≠[]→l.length≤1→IsE x→IsEs l→IsE (.nd [98,117,105,108,116,105,110] [115,112,108,105,116] a (x::.nd [110,97,109,101] u b []::l))
 |call {t:Txt} {a:Nat} {l:List Tree}:t≠[]→IsEs l→IsE (.nd [99,97,108,108] t a l)
 |inc {o:Txt} {e:Tree}:o∈incOps→e.isPlace=true→IsE e→IsE (nodeM o [e])
 |un {o:Txt} {e:Tree}:o∈unOps→IsE e→IsE (nodeM o [e])
 |bin {o:Txt} {e f:Tree}:o∈binOps→IsE e→IsE f→IsE (nodeM o [e,f])
 |isin {t:Txt} {a:Nat} {e:Tree}:t≠[]→IsE e→IsE (.nd [105,110] t a [e])
 |cond {e f g:Tree}:IsE e→IsE f→IsE g→IsE (nodeM [99,111,110,100] [e,f,g])
 |assign {t:Txt} {e f:Tree}:t∈assignOps→e.isPlace=true→IsE e→IsE f→IsE (.nd [97,115,115,105,103,110] t 0 [e,f])
inductive IsEs:List Tree→Prop
 |nil:IsEs []
 |cons {e:Tree} {l:List Tree}:IsE e→IsEs l→IsEs (e::l)
end
inductive IsP:Tree→Prop
 |expr {e:Tree}:IsE e→IsP (nodeM [101,120,112,114] [e])
 |stop {o:Txt} {a:Nat}:o∈[[98,114,101,97,107],[99,111,110,116,105,110,117,101],[110,101,120,116]]→IsP (.nd o [] a [])
 |out0 {o:Txt} {a:Nat}:o∈[[101,120,105,116],[114,101,116,117,114,110]]→IsP (.nd o [] a [])
 |out1 {o:Txt} {a:Nat} {e:Tree}:o∈[[101,120,105,116],[114,101,116,117,114,110]]→IsE e→IsP (.nd o [] a [e])
 |del1 {t:Txt} {a:Nat} {e:Tree}:t≠[]→IsE e→IsP (nodeM [100,101,108,101,116,101] [.nd [105,110,100,101,120] t a [e]])
 |del0 {t:Txt} {a:Nat}:t≠[]→IsP (nodeM [100,101,108,101,116,101] [.nd [110,97,109,101] t a []])
 |print0 {o:Txt} {l:List Tree}:o∈[[112,114,105,110,116],[112,114,105,110,116,102]]→(o=[112,114,105,110,116,102]→l≠[])→IsEs l→IsP (nodeM o (nodeM [110,111,110,101] []::l))
 |print1 {o w:Txt} {e:Tree} {l:List Tree}:o∈[[112,114,105,110,116],[112,114,105,110,116,102]]→(o=[112,114,105,110,116,102]→l≠[])→w∈[[116,111],[97,112,112,101,110,100]]→IsE e→IsEs l→IsP (nodeM o (nodeM w [e]::l))
def IsN(p:Tree→Prop)(t:Tree):Prop:=t=nodeM [110,111,110,101] []∨p t
mutual
inductive IsS:Tree→Prop
 |simple {t:Tree}:IsP t→IsS t
 |empty:IsS (nodeM [101,109,112,116,121] [])
 |block {l:List Tree}:IsSs l→IsS (nodeM [98,108,111,99,107] l)
 |if2 {e s:Tree}:IsE e→IsS s→IsS (nodeM [105,102] [e,s])
 |if3 {e s r:Tree}:IsE e→IsS s→IsS r→IsS (nodeM [105,102] [e,s,r])
 |whil {e s:Tree}:IsE e→IsS s→IsS (nodeM [119,104,105,108,101] [e,s])
 |forr {a b c s:Tree}:IsN IsP a→IsN IsE b→IsN IsP c→IsS s→IsS (nodeM [102,111,114] [a,b,c,s])
 |forin {t u:Txt} {a b:Nat} {s:Tree}:t≠[]→u≠[]→IsS s→IsS (.nd [102,111,114,105,110] t a [.nd [110,97,109,101] u b [],s])
inductive IsSs:List Tree→Prop
 |nil:IsSs []
 |cons {s:Tree} {l:List Tree}:IsS s→IsSs l→IsSs (s::l)
end
def IsPar(t:Tree):Prop:=∃u a,u≠[]∧t=.nd [112,97,114,97,109] u a []
inductive IsI:Tree→Prop
 |begin {o:Txt} {l:List Tree}:o∈[[98,101,103,105,110],[101,110,100]]→IsSs l→IsI (nodeM o [nodeM [98,108,111,99,107] l])
 |func {t:Txt} {a:Nat} {ps l:List Tree}:t≠[]→(∀p∈ps,IsPar p)→IsSs l→IsI (.nd [102,117,110,99] t a (ps++[nodeM [98,108,111,99,107] l]))
 |always {l:List Tree}:IsSs l→IsI (nodeM [114,117,108,101] [nodeM [97,108,119,97,121,115] [],nodeM [98,108,111,99,107] l])
 |rule {e:Tree} {l:List Tree}:IsE e→IsSs l→IsI (nodeM [114,117,108,101] [e,nodeM [98,108,111,99,107] l])
 |default {e:Tree}:IsE e→IsI (nodeM [114,117,108,101] [e,nodeM [100,101,102,97,117,108,116] []])
theorem IsEs.app{l m:List Tree}(h:IsEs l)(k:IsEs m):IsEs (l++m):=by
 induction l with
 |nil=>exact k
 |cons x l ih=>cases h with|cons a b=>exact .cons a (ih b)
theorem IsEs.one{e:Tree}(h:IsE e):IsEs [e]:=.cons h .nil
theorem IsSs.app{l m:List Tree}(h:IsSs l)(k:IsSs m):IsSs (l++m):=by
 induction l with
 |nil=>exact k
 |cons x l ih=>cases h with|cons a b=>exact .cons a (ih b)
variable{T:List Tokn}{m:Nat}{s:PS}{E P R U M S:PF}
def jU(T:List Tokn):Prop:=∀i,((T.getD i tkz).k=5∨(T.getD i tkz).k=6)→(T.getD i tkz).t≠[]
def Ge(T:List Tokn)(m:Nat)(M:PF):Prop:=∀s,s.deep+m=51→(M s).2.err=0→IsE (M s).1
theorem fJ{s:PS}(h:(s.down T).err=0):s.deep+1≤50:=by
 unfold PS.down at h;split at h
 ·cases h
 ·rename_i c;have e:s.err=0:=h;omega
theorem DK.eq{M:PF}(d:DK M)(s:PS):(M s).2.deep=s.deep:=d _ _ rfl
theorem EP(V:jU T)(h:(s.cur T).k=5∨(s.cur T).k=6):(s.cur T).t≠[]:=by
 have e:s.err=0:=iM (T:=T) (by rcases h with h|h<;>omega);rw[JX e]at h⊢;exact V _ h
theorem lH(V:jU T){ks:List Nat}(hk:∀k∈ks,k=5∨k=6)(h:(s.name T ks).2.err=0):(s.name T ks).1.t≠[]:=by
 unfold PS.name at h⊢
 by_cases c:(s.cur T).k∈ks
 ·rw[if_pos c];exact EP V (hk _ c)
 ·rw[if_neg c]at h;exact absurd h (by
   unfold PS.fail;split
   ·assumption
   ·split<;>simp)
theorem gY(s:PS):(s.fail T).err≠0:=by
 unfold PS.fail;split
 ·assumption
 ·split<;>simp
theorem O9{a e:List Tree}{j:Nat}:(a++e).getD (a.length+j) .zero=e.getD j .zero:=by
 simp[List.getD_eq_getElem?_getD,List.getElem?_append_right]
variable(V:jU T)
include V
theorem GM(hk:KF M)(hD:DK M)(hM:Ge T m M)(e:Txt):∀(K:Nat) (l:List Tree) (s:PS),s.deep+m=51→IsEs l→(listN T M e K l s).2.err=0→IsEs (listN T M e K l s).1
 |0,_,_,_,hl,_=>by have _:=V;exact hl
 |K+1,l,s,hd,hl,h=>by
   rw[GN]at h⊢;split at h
   ·rename_i c;rw[if_pos c];have e1:(M (if l=[]then s else(s.expect T [44]).lines T)).2.err=0:=back (fun q=>q.lines.listN e K _) h;have d1:Dp s.deep (if l=[]then s else(s.expect T [44]).lines T):=Dp.iteS rfl ((Dp.expect (T:=T) rfl _).lines);have d2:=(hD _ _ d1).lines (T:=T);have d1':(if l=[]then s else(s.expect T [44]).lines T).deep=s.deep:=d1;have d2':(PS.lines T (M (if l=[]then s else(s.expect T [44]).lines T)).2).deep=s.deep:=d2;exact GM hk hD hM e K _ _ (by omega) (hl.app (.one (hM _ (by omega) e1))) h
   ·rename_i c;rw[if_neg c];exact hl
theorem Bj(hk:KF M)(hD:DK M)(hM:Ge T m M)(e:Txt)(s:PS)(hd:s.deep+m=51)(h:(listM T M e s).2.err=0):IsEs (listM T M e s).1:=by
 unfold listM at h⊢;dsimp only at h⊢;have d:(PS.lines T {s with flat:=false}).deep=s.deep:=Dp.lines (f:=s.deep) rfl;exact GM V hk hD hM e _ _ _ (by omega) .nil (back (fun q=>q.expect e) h)
theorem kG(hk:KF M)(hM:Ge T m M)(e:Txt)(s:PS)(hd:s.deep+m=51)(h:(insideM T M e s).2.err=0):IsE (insideM T M e s).1:=by
 have _:=V;unfold insideM at h⊢;dsimp only at h⊢;have d:(PS.lines T {s with flat:=false}).deep=s.deep:=Dp.lines (f:=s.deep) rfl;exact hM _ (by omega) (back (fun q=>q.lines.expect e) h)
theorem IsE.isVar{e:Tree}(h:IsE e)(o:e.op=[118,97,114]):∃u b,u≠[]∧e=.nd [118,97,114] u b []:=by
 have _:=V;cases h with
 |var hu=>exact⟨_,_,hu,rfl⟩
 |lit hl =>
   simp only[Tree.op]at o;subst o;exact absurd hl (by decide)
 |inc hl=>simp only[nodeM,Tree.op]at o;subst o;exact absurd hl (by decide)
 |un hl=>simp only[nodeM,Tree.op]at o;subst o;exact absurd hl (by decide)
 |bin hl=>simp only[nodeM,Tree.op]at o;subst o;exact absurd hl (by decide)
 |_=>exact absurd o (by simp[nodeM,Tree.op])
theorem JD{t:Tokn}{l:List Tree}(hl:IsEs l)(h:(biPost t l s).2.err=0):IsE (aN [98,117,105,108,116,105,110] t (biPost t l s).1):=by
 have e0:s.err=0:=back (fun q=>q.biPost t l) h;unfold aN;unfold biPost at h⊢;dsimp only at h⊢
 by_cases c1:t.t=[108,101,110,103,116,104]
 ·rw[if_pos c1]at h⊢;have w:=(iy (by decide) e0 h).1;exact .builtin (by unfold biOk;rw[if_pos c1];exact Nat.le_of_not_lt w) (by rw[c1];decide) (fun x=>absurd x (by rw[c1];decide)) hl
 rw[if_neg c1]at h⊢
 by_cases c2:t.t=[115,117,98,115,116,114]
 ·rw[if_pos c2]at h⊢;have w:=(iy (by decide) e0 h).1;exact .builtin (by unfold biOk;rw[if_neg c1,if_pos (.inl c2)];dsimp only;omega) (by rw[c2];decide) (fun x=>absurd x (by rw[c2];decide)) hl
 rw[if_neg c2]at h⊢
 by_cases c3:t.t=[115,112,108,105,116]
 ·rw[if_pos c3]at h⊢;dsimp only at h⊢;have w:=(iy (by decide) e0 h).1;rw[if_pos h];rcases l with _|⟨x,_|⟨v,l⟩⟩
  ·exact absurd (.inl (by show 0<2;decide)) w
  ·exact absurd (.inl (by show 1<2;decide)) w
  ·cases hl with|cons hx hr =>
   cases hr with|cons hv hr =>
   have ov:v.op=[118,97,114]:=Classical.byContradiction fun c=>w (.inr (.inr c));obtain⟨u,b,hu,rfl⟩:=IsE.isVar V hv ov;rw[c3];exact .split hu (by simp at w;omega) hx hr
 rw[if_neg c3]at h⊢
 by_cases c4:t.t=[115,117,98]∨t.t=[103,115,117,98]
 ·rw[if_pos c4]at h⊢;have w:=(iy (by decide) e0 h).1;dsimp only
  by_cases c:l.length=2
  ·rw[if_pos c];refine .builtin ?_ c3 (fun _=>?_) (hl.app (.one (.field (.lit (by decide)))))
   ·unfold biOk;rw[if_neg c1,if_neg (by rintro(x|x);exact c2 x;exact c3 x),if_pos c4,List.length_append,c];rfl
   ·have:=O9 (a:=l) (e:=[nodeM [102,105,101,108,100] [.nd [110,117,109] [48] t.a []]]) (j:=0);rw[c]at this;rw[this];rfl
  ·rw[if_neg c];refine .builtin ?_ c3 (fun _=>?_) hl
   ·unfold biOk;rw[if_neg c1,if_neg (by rintro(x|x);exact c2 x;exact c3 x),if_pos c4];omega
   ·cases hp:(l.getD 2 .zero).isPlace
    ·exact absurd (.inr (.inr ⟨by omega,hp⟩)) w
    ·rfl
 rw[if_neg c4]at h⊢;have ns:¬(t.t=[115,117,98,115,116,114]∨t.t=[115,112,108,105,116]):=by rintro(x|x);exact c2 x;exact c3 x
 by_cases c5:t.t=[105,110,100,101,120]∨t.t=[109,97,116,99,104]
 ·rw[if_pos c5]at h⊢;have w:=(iy (by decide) e0 h).1;exact .builtin (by unfold biOk;rw[if_neg c1,if_neg ns,if_neg c4,if_pos c5];dsimp only;omega) c3 (fun x=>absurd x c4) hl
 rw[if_neg c5]at h⊢
 by_cases c6:t.t=[115,112,114,105,110,116,102]
 ·rw[if_pos c6]at h⊢;have w:=(iy (by decide) e0 h).1;exact .builtin (by unfold biOk;rw[if_neg c1,if_neg ns,if_neg c4,if_neg c5,if_pos c6];dsimp only;omega) c3 (fun x=>absurd x c4) hl
 rw[if_neg c6]at h⊢
 by_cases c7:t.t=[114,97,110,100]
 ·rw[if_pos c7]at h⊢;have w:=(iy (by decide) e0 h).1;exact .builtin (by unfold biOk;rw[if_neg c1,if_neg ns,if_neg c4,if_neg c5,if_neg c6,if_pos c7];dsimp only;omega) c3 (fun x=>absurd x c4) hl
 rw[if_neg c7]at h⊢
 by_cases c8:t.t=[115,114,97,110,100]
 ·rw[if_pos c8]at h⊢;dsimp only at h⊢;have h1:(s.wrong t.a (l.length=0) 10).err=0:=back (fun q=>q.wrong _ _ _) h;have w:=(iy (by decide) h1 h).1;exact .builtin (by unfold biOk;rw[if_neg c1,if_neg ns,if_neg c4,if_neg c5,if_neg c6,if_neg c7];omega) c3 (fun x=>absurd x c4) hl
 ·rw[if_neg c8]at h⊢;have w:=(iy (by decide) e0 h).1;exact .builtin (by unfold biOk;rw[if_neg c1,if_neg ns,if_neg c4,if_neg c5,if_neg c6,if_neg c7];dsimp only;omega) c3 (fun x=>absurd x c4) hl
theorem EJ(hk:KF M)(hD:DK M)(hM:Ge T m M)(s:PS)(hd:s.deep+m=51)(h:(builtinM T M s).2.err=0):IsE (builtinM T M s).1:=by
 unfold builtinM at h⊢;split at h
 ·rename_i c;rw[if_pos c];unfold aN;rw[c.1];exact .builtin (by unfold biOk;rw[if_pos rfl];exact Nat.zero_le _) (by decide) (fun x=>absurd x (by decide)) .nil
 ·rename_i c;rw[if_neg c];dsimp only at h⊢;have d:((s.step T).expect T [40]).deep=s.deep:=Dp.expect (f:=s.deep) (Dp.step rfl) _;exact JD V (Bj V hk hD hM _ _ (by omega) (back (fun q=>q.biPost _ _) h)) h
theorem Qd(hk:KF E)(hkP:KF P)(hkR:KF R)(hD:DK E)(hE:Ge T (m+1) E)(hP:0<m→Ge T m P)(hR:0<m→Ge T m R)(s:PS)(hd:s.deep+(m+1)=51)(h:(primM T E P R s).2.err=0):IsE (primM T E P R s).1:=by
 have d1:(s.step T).deep=s.deep:=Dp.step (f:=s.deep) rfl;unfold primM at h⊢;dsimp only at h⊢
 by_cases c2:(s.cur T).k=2
 ·rw[if_pos c2];exact .lit (by decide)
 rw[if_neg c2]at h⊢
 by_cases c3:(s.cur T).k=3
 ·rw[if_pos c3];exact .lit (by decide)
 rw[if_neg c3]at h⊢
 by_cases c4:(s.cur T).k=4
 ·rw[if_pos c4];exact .lit (by decide)
 rw[if_neg c4]at h⊢
 by_cases c5:(s.cur T).k=5
 ·have nm:=EP V (.inl c5);rw[if_pos c5]at h⊢;split at h
  ·rename_i c;rw[if_pos c];have d2:((s.step T).step T).deep=s.deep:=Dp.step (f:=s.deep) (Dp.step rfl);exact .index nm (kG V hk hE _ _ (by omega) h)
  ·rename_i c;rw[if_neg c];exact .var nm
 rw[if_neg c5]at h⊢
 by_cases c6:(s.cur T).k=6
 ·have nm:=EP V (.inr c6);rw[if_pos c6]at h⊢;have d2:((s.step T).expect T [40]).deep=s.deep:=Dp.expect (f:=s.deep) (Dp.step rfl) _;exact .call nm (Bj V hk hD hE _ _ (by omega) h)
 rw[if_neg c6]at h⊢
 by_cases c9:(s.cur T).k=9
 ·rw[if_pos c9]at h⊢;exact EJ V hk hD hE s hd h
 rw[if_neg c9]at h⊢
 by_cases cp:s.isAt T [[40]]=true
 ·rw[if_pos cp]at h⊢;exact kG V hk hE _ _ (by omega) h
 rw[if_neg cp]at h⊢
 by_cases cd:s.isAt T [[36]]=true
 ·rw[if_pos cd]at h⊢;have d3:((s.step T).down T).deep=s.deep+1:=Dp.down (f:=s.deep) (Dp.step rfl);split at h
  ·rename_i c;rw[if_pos c];have e1:((s.step T).down T).err=0:=back (fun q=>hkP _ _ q) h;have:=fJ e1;exact .field (hP (by omega) _ (by omega) h)
  ·rename_i c;rw[if_neg c];have e1:((s.step T).down T).err=0:=back (fun q=>hkR _ _ q) h;have:=fJ e1;exact .field (hR (by omega) _ (by omega) h)
 ·rw[if_neg cd]at h;exact absurd h (gY s)
end
section
open Mir
variable{T:List Tokn}{m:Nat}{s:PS}{E P R U M S:PF}
theorem Qb(hk:KF R)(hR:Ge T m R)(s:PS)(hd:s.deep+m=51)(h:(postM T R s).2.err=0):IsE (postM T R s).1:=by
 unfold postM at h⊢;dsimp only at h⊢;have d1:(s.step T).deep=s.deep:=Dp.step (f:=s.deep) rfl;have key:∀o:Txt,o∈incOps→(if(R (s.step T)).1.isPlace=true then(nodeM o [(R (s.step T)).1],(R (s.step T)).2)else(.zero,(R (s.step T)).2.fail T)).2.err=0 →
   IsE (if(R (s.step T)).1.isPlace=true then(nodeM o [(R (s.step T)).1],(R (s.step T)).2)else(.zero,(R (s.step T)).2.fail T)).1:=fun o ho e=>by
  split at e
  ·rename_i c;rw[if_pos c];exact .inc ho c (hR _ (by omega) e)
  ·exact absurd e (gY _)
 by_cases c1:s.isAt T [[43,43]]=true
 ·rw[if_pos c1]at h⊢;exact key _ (by decide) h
 rw[if_neg c1]at h⊢
 by_cases c2:s.isAt T [[45,45]]=true
 ·rw[if_pos c2]at h⊢;exact key _ (by decide) h
 rw[if_neg c2]at h⊢;have e1:(R s).2.err=0:=back (fun q=>by
  split
  ·exact q
  split
  ·exact q.step
  split
  ·exact q.step
  ·exact q) h
 have g:=hR _ hd e1;split
 ·exact g
 rename_i c;have pl:(R s).1.isPlace=true:=by simpa using c
 split
 ·exact .inc (by decide) pl g
 split
 ·exact .inc (by decide) pl g
 ·exact g
theorem Og(hkU:KF U)(hU:0<m→Ge T m U)(hP:Ge T (m+1) P)(s:PS)(hd:s.deep+(m+1)=51)(h:(unaryM T U P s).2.err=0):IsE (unaryM T U P s).1:=by
 have d3:((s.step T).down T).deep=s.deep+1:=Dp.down (f:=s.deep) (Dp.step rfl);have d1:(s.step T).deep=s.deep:=Dp.step (f:=s.deep) rfl;have key:(U ((s.step T).down T)).2.err=0→IsE (U ((s.step T).down T)).1:=fun e=>by
  have:=fJ (back (fun q=>hkU _ _ q) e);exact hU (by omega) _ (by omega) e
 unfold unaryM at h⊢;dsimp only at h⊢;split at h
 ·rename_i c;rw[if_pos c];exact .un (by decide) (key h)
 rename_i c1;rw[if_neg c1];split at h
 ·rename_i c;rw[if_pos c];exact .un (by decide) (key h)
 rename_i c2;rw[if_neg c2];split at h
 ·rename_i c;rw[if_pos c];exact .un (by decide) (key h)
 rename_i c3;rw[if_neg c3];exact hP _ hd h
theorem CU(hk:KF M)(hD:DK M)(hM:Ge T m M)(ln:Bool){ops:List (Txt × Txt)}(ho:∀x∈ops,x.2∈binOps):∀(K:Nat) (t:Tree) (s:PS),s.deep+m=51→IsE t→(chainN T M ln ops K t s).2.err=0→IsE (chainN T M ln ops K t s).1
 |0,_,_,_,ht,_=>ht
 |K+1,t,s,hd,ht,h=>by
   rw[CV]at h⊢
   by_cases c:(s.cur T).k=8
   ·rw[if_pos c]at h⊢;cases ho':ops.lookup (s.cur T).t with
    |none=>exact ht
    |some op =>
      rw[ho']at h;dsimp only at h⊢;have e1:(M (if ln=true then(s.step T).lines T else s.step T)).2.err=0:=back (fun q=>q.chainN _ _ _ _) h;have hop:op∈binOps:=by
       have:∃x∈ops,x.2=op:=by
        clear h ho;induction ops with
        |nil=>cases ho'
        |cons x l ih =>
          obtain⟨a,b⟩:=x;rw[List.lookup_cons]at ho';split at ho'
          ·cases ho';exact⟨(_,_),List.mem_cons_self ..,rfl⟩
          ·obtain⟨y,hy,e⟩:=ih ho';exact⟨y,by simp[hy],e⟩
       obtain⟨x,hx,e⟩:=this;rw[← e];exact ho x hx
      have d1:Dp s.deep (if ln=true then(s.step T).lines T else s.step T):=Dp.iteS (Dp.step rfl).lines (Dp.step rfl);have d1':(if ln=true then(s.step T).lines T else s.step T).deep=s.deep:=d1;have d2:=hD.eq (if ln=true then(s.step T).lines T else s.step T);exact CU hk hD hM ln ho K _ _ (by omega) (.bin hop ht (hM _ (by omega) e1)) h
   ·rw[if_neg c];exact ht
theorem qU(hk:KF M)(hD:DK M)(hM:Ge T m M)(ln:Bool){ops:List (Txt × Txt)}(ho:∀x∈ops,x.2∈binOps):Ge T m (dO T M ln ops):=fun s hd h=>by
 unfold dO at h⊢;dsimp only at h⊢;have d:=hD.eq s;exact CU hk hD hM ln ho _ _ _ (by omega) (hM _ hd (back (fun q=>q.chainN _ _ _ _) h)) h
theorem JR(hk:KF M)(hD:DK M)(hM:Ge T m M):∀(K:Nat) (t:Tree) (s:PS),s.deep+m=51→IsE t→(catN T M K t s).2.err=0→IsE (catN T M K t s).1
 |0,_,_,_,ht,_=>ht
 |K+1,t,s,hd,ht,h=>by
   rw[JS]at h⊢;split at h
   ·rename_i c;rw[if_pos c];have d:=hD.eq s;exact JR hk hD hM K _ _ (by omega) (.bin (by decide) ht (hM _ hd (back (fun q=>q.catN _ _) h))) h
   ·rename_i c;rw[if_neg c];exact ht
theorem EQ(hU:DK U):DK (rX T U):=by unfold rX;exact iV hU _ _
theorem Ak(hU:DK U):DK (gI T U):=by unfold gI;exact iV (EQ hU) _ _
theorem QD(hk:KF U)(hD:DK U)(hU:Ge T m U):Ge T m (aX T U):=fun s hd h=>by
 have a1:Ge T m (rX T U):=by unfold rX;exact qU hk hD hU false (by decide)
 have a2:Ge T m (gI T U):=by unfold gI;exact qU (FD hk) (EQ hD) a1 false (by decide)
 unfold aX at h⊢;dsimp only at h⊢;have d:=(Ak (T:=T) hD).eq s;exact JR (Fv hk) (Ak hD) a2 _ _ _ (by omega) (a2 _ hd (back (fun q=>q.catN _ _) h)) h
theorem F8{x op:Txt}(h:relOps.lookup x=some op):op∈binOps:=by
 unfold relOps at h;simp only[List.lookup_cons]at h
 repeat' split at h
 all_goals first
  |(cases h;decide)
  |cases h
theorem UI(hk:KF U)(hD:DK U)(hU:Ge T m U):Ge T m (uY T U):=fun s hd h=>by
 have hc:=QD hk hD hU;rw[lL]at h⊢;have e1:(aX T U s).2.err=0:=back (fun q=>q.relStep) h;have g:=hc _ hd e1;have d:=(qZ (T:=T) hD).eq s;generalize aX T U s=x at h e1 g d;rw[xN]at h⊢
 by_cases c:(x.2.cur T).k=8∧¬((x.2.cur T).t=[62]∧x.2.flat=true)
 ·rw[if_pos c]at h⊢;cases ho:relOps.lookup (x.2.cur T).t with
  |none=>exact g
  |some op =>
    rw[ho]at h;dsimp only at h⊢;have d2:(x.2.step T).deep=x.2.deep:=Dp.step (f:=x.2.deep) rfl;exact .bin (F8 ho) g (hc _ (by omega) h)
 ·rw[if_neg c];exact g
theorem QI(V:jU T):∀(K:Nat) (t:Tree) (s:PS),IsE t→(inN T K t s).2.err=0→IsE (inN T K t s).1
 |0,_,_,ht,_=>ht
 |K+1,t,s,ht,h=>by
   rw[QJ]at h⊢;split at h
   ·rename_i c;rw[if_pos c];have e1:((s.step T).name T [5]).2.err=0:=back (fun q=>q.inN _ _) h;exact QI V K _ _ (.isin (lH V (by simp) e1) ht) h
   ·rename_i c;rw[if_neg c];exact ht
theorem JY(hU:DK U):DK (Mir.andM T U):=by unfold Mir.andM;exact iV (Gp hU) _ _
theorem Vh(V:jU T)(hk:KF U)(hD:DK U)(hU:Ge T m U):Ge T m (orM T U):=by
 have a5:Ge T m (fB T U):=by unfold fB;exact qU (FH hk) (ER hD) (UI hk hD hU) false (by decide)
 have a6:Ge T m (inM T U):=fun s hd h=>by
  rw[Ba]at h⊢;exact QI V _ _ _ (a5 _ hd (back (fun q=>q.inN _ _) h)) h
 have a7:Ge T m (Mir.andM T U):=by unfold Mir.andM;exact qU (L6 hk) (Gp hD) a6 true (by decide)
 unfold Mir.orM;exact qU (Fz hk) (JY hD) a7 true (by decide)
theorem O6(V:jU T)(hkE:KF E)(hDE:DK E)(hE:0<m→Ge T m E)(hk:KF U)(hD:DK U)(hU:0<m→Ge T m U):Ge T (m+1) (ny T E U):=fun s hd h=>by
 rw[jD]at h⊢;replace h:(exprStep T E (orM T U (s.down T))).2.err=0:=BP h;have e2:(orM T U (s.down T)).2.err=0:=wu h;have e1:(s.down T).err=0:=back (fun q=>L9 hk _ _ q) e2;have dp:=fJ e1;have pm:0<m:=by omega
 have hE:=hE pm;have hO:=Vh V hk hD (hU pm);have d1:(s.down T).deep=s.deep+1:=Dp.down (f:=s.deep) rfl;have d2:=(JZ (T:=T) hD).eq (s.down T);have g:=hO _ (by omega) e2;generalize orM T U (s.down T)=x at h e2 g d2
 show IsE (exprStep T E x).1
 have d3:((x.2.step T).lines T).deep=x.2.deep:=Dp.lines (f:=x.2.deep) (Dp.step rfl);rw[ww]at h⊢
 by_cases c1:x.2.isAt T [[63]]=true
 ·rw[if_pos c1]at h⊢;dsimp only at h⊢;have a1:(E ((x.2.step T).lines T)).2.err=0:=back (fun q=>hkE _ _ ((q.lines.expect _).lines)) h;have d4:Dp x.2.deep ((((E ((x.2.step T).lines T)).2.lines T).expect T [58]).lines T):=(((hDE _ _ d3).lines).expect _).lines;have d4':((((E ((x.2.step T).lines T)).2.lines T).expect T [58]).lines T).deep=x.2.deep:=d4;exact .cond g (hE _ (by omega) a1) (hE _ (by omega) h)
 rw[if_neg c1]at h⊢
 by_cases c2:x.1.isPlace=true∧(x.2.cur T).k=8∧(x.2.cur T).t∈assignOps
 ·rw[if_pos c2]at h⊢;exact .assign c2.2.2 c2.1 g (hE _ (by omega) h)
 ·rw[if_neg c2];exact g
structure GL(T:List Tokn)(n:Nat):Prop where
 expr:Ge T n (lev T n).expr
 unary:Ge T n (lev T n).unary
 post:Ge T n (lev T n).post
 prim:Ge T n (lev T n).prim
theorem gls(V:jU T):∀n,0<n→GL T n
 |0,h=>absurd h (Nat.lt_irrefl _)
 |n+1,_=>by
   have S:0<n→GL T n:=gls V n;obtain⟨k1,k2,k3,k4⟩:=l9 T n;obtain⟨d1,d2,d3,d4⟩:=lW T n;have ke:KF (lev T (n+1)).expr:=(l9 T (n+1)).1;have de:DK (lev T (n+1)).expr:=(lW T (n+1)).1;have e:Ge T (n+1) (lev T (n+1)).expr:=by rw[nR];exact O6 V k1 d1 (fun p=>(S p).expr) k2 d2 (fun p=>(S p).unary)
   have r:Ge T (n+1) (lev T (n+1)).prim:=by rw[nT];exact fun s hd h=>Qd V ke k3 k4 de e (fun p=>(S p).post) (fun p=>(S p).prim) s hd h
   have kr:KF (lev T (n+1)).prim:=(l9 T (n+1)).2.2.2;have p:Ge T (n+1) (lev T (n+1)).post:=by rw[nS];exact fun s hd h=>Qb kr r s hd h
   exact⟨e,by rw[kJ];exact fun s hd h=>Og k2 (fun p=>(S p).unary) p s hd h,p,r⟩
end
section
open Mir
variable{T:List Tokn}{m f:Nat}{s:PS}{E P R U M S:PF}
theorem Dp.outN(hE:DK E)(K:Nat):∀{l:List Tree} {s:PS},Dp f s→Dp f (outN T E K l s).2:=by
 induction K with
 |zero=>exact fun q=>q
 |succ K ih =>
   intro l s q;rw[FT];split
   ·exact ih (hE _ _ (Dp.iteS q (q.expect _).lines))
   ·exact q
theorem Dp.outArgs(q:Dp f s)(hE:DK E):Dp f (outArgs T E s).2:=by
 unfold Go.Proofs.YtkfbldogmgofoaaGreatDoor.outArgs;exact Dp.iteL (q.step.listM hE _) (Dp.outN hE _ q)
theorem Dp.outTo(q:Dp f s)(hM:DK M):Dp f (outTo T M s).2:=by
 unfold Go.Proofs.YtkfbldogmgofoaaGreatDoor.outTo;exact Dp.ite (hM _ _ q.step) (Dp.ite (hM _ _ q.step) q)
theorem Dp.outputM(q:Dp f s)(hE:DK E)(hU:DK U)(op:Txt):Dp f (outputM T E U op s).2:=by
 have k2:=((q.flat true).outArgs (T:=T) hE).outTo (T:=T) (qZ (T:=T) hU);rw[jH];unfold outEnd;exact Dp.iteS (k2.flat false).fail (k2.flat false)
theorem Dp.simpleM(q:Dp f s)(hE:DK E)(hU:DK U):Dp f (simpleM T E U s).2:=by
 unfold Mir.simpleM;exact Dp.ite (hE _ _ q) (Dp.ite q.step (Dp.ite (Dp.ite q.step (hE _ _ q.step)) (Dp.ite (Dp.ite ((q.step.name _).step.insideM hE _) (q.step.name _)) (Dp.ite (q.step.outputM hE hU _) q.fail))))
theorem Dp.fin(q:Dp f s):Dp f (s.fin T):=by
 unfold PS.fin;exact Dp.iteS q.step (Dp.iteS q (Dp.iteS q.step q.fail))
theorem Dp.bodyM(q:Dp f s)(hS:DK S):Dp f (bodyM T S s).2:=hS _ _ q.lines
theorem Dp.choiceM(q:Dp f s)(hE:DK E)(hS:DK S):Dp f (choiceM T E S s).2:=by
 have k2:=((q.expect (T:=T) [40]).insideM (T:=T) hE [41]).bodyM (T:=T) hS;unfold Mir.choiceM;generalize Mir.insideM T E [41] (s.expect T [40])=x at k2;dsimp only;generalize Mir.bodyM T S x.2=y at k2;have k3:Dp f (if(y.2.lines T).isAt T [[59]]=true then((y.2.lines T).step T).lines T else y.2.lines T):=Dp.iteS k2.lines.step.lines k2.lines;generalize (if(y.2.lines T).isAt T [[59]]=true then((y.2.lines T).step T).lines T else y.2.lines T)=z at k3;exact Dp.ite (k3.step.bodyM hS) (Dp.iteS k3 k3)
theorem Dp.forA(q:Dp f s)(hM:DK M)(e:Txt):Dp f (forA T M e s).2:=by
 unfold Go.Proofs.YtkfbldogmgofoaaGreatDoor.forA;exact Dp.ite q (hM _ _ q)
theorem oM(hE:DK E)(hU:DK U):DK (simpleM T E U):=fun _ _ q=>q.simpleM hE hU
theorem Dp.loopM(q:Dp f s)(hE:DK E)(hU:DK U)(hS:DK S):Dp f (loopM T E U S s).2:=by
 rw[nX];exact Dp.ite ((((q.expect _).name _).step.name _).step.bodyM hS) ((((((((((q.expect _).forA (oM hE hU) _).expect _).lines).forA hE _).expect _).lines).forA (oM hE hU) _).expect _).bodyM hS)
theorem Dp.blockN(hS:DK S)(K:Nat):∀{l:List Tree} {s:PS},Dp f s→Dp f (blockN T S K l s).2:=by
 induction K with
 |zero=>exact fun q=>q
 |succ K ih =>
   intro l s q;rw[vK];exact Dp.iteL (Dp.iteL q.skip.step (ih (hS _ _ q.skip))) q
theorem Dp.blockM(q:Dp f s)(hS:DK S):Dp f (blockM T S s).2:=Dp.blockN hS _ (q.expect _)
theorem Dp.stmtM(q:Dp f s)(hE:DK E)(hU:DK U)(hS:DK S):Dp f (stmtM T E U S s).2:=by
 have k:=q.down (T:=T);rw[kX];refine Dp.up ?_;unfold dF;exact Dp.ite (k.blockM hS) (Dp.ite k.step (Dp.ite (k.step.choiceM hE hS) (Dp.ite (((k.step.expect _).insideM hE _).bodyM hS) (Dp.ite (k.step.loopM hE hU hS) (k.simpleM hE hU).fin))))
theorem yO(T:List Tokn):∀n,DK (stL T n)
 |0=>by unfold stL;exact fun _ _ k=>k
 |n+1=>by rw[stL];exact fun _ s k=>k.stmtM (lW T n).1 (lW T n).2.1 (yO T n)
theorem Dp.parN(K:Nat):∀{l:List Tree} {s:PS},Dp f s→Dp f (parN T K l s).2:=by
 induction K with
 |zero=>exact fun q=>q
 |succ K ih =>
   intro l s q;rw[FU];split
   ·exact ih ((Dp.iteS q (q.expect _).lines).name _).lines
   ·exact q
theorem Dp.itemM(q:Dp f s):Dp f (itemM T s).2:=by
 have B:=yO T 51;have e:=(lW T 51).1 _ _ q;rw[rQ];generalize (lev T 51).expr=E at e;generalize stL T 51=S at B;unfold pX;exact Dp.ite (q.step.blockM B) (Dp.ite (q.step.blockM B) (Dp.ite (Dp.blockM (Dp.lines (Dp.expect (Dp.parN _ (Dp.lines (Dp.expect (q.step.name _) _))) _)) B) (Dp.ite (q.blockM B) (Dp.ite (e.blockM B) (Dp.iteS e.fail e)))))
theorem Nb(V:jU T)(hk:KF E)(hD:DK E)(hE:Ge T m E):∀(K:Nat) (l:List Tree) (s:PS),s.deep+m=51→IsEs l→(outN T E K l s).2.err=0→IsEs (outN T E K l s).1
 |0,_,_,_,hl,_=>hl
 |K+1,l,s,hd,hl,h=>by
   rw[FT]at h⊢;split at h
   ·rename_i c;rw[if_pos c];have e1:(E (if l=[]then s else(s.expect T [44]).lines T)).2.err=0:=back (fun q=>q.outN _ _) h;have d1:Dp s.deep (if l=[]then s else(s.expect T [44]).lines T):=Dp.iteS rfl ((Dp.expect (T:=T) rfl _).lines);have d2:=hD _ _ d1;have d1':(if l=[]then s else(s.expect T [44]).lines T).deep=s.deep:=d1;have d2':(E (if l=[]then s else(s.expect T [44]).lines T)).2.deep=s.deep:=d2;exact Nb V hk hD hE K _ _ (by omega) (hl.app (.one (hE _ (by omega) e1))) h
   ·rename_i c;rw[if_neg c];exact hl
theorem IX(V:jU T)(hk:KF E)(hD:DK E)(hE:Ge T m E)(s:PS)(hd:s.deep+m=51)(h:(outArgs T E s).2.err=0):IsEs (outArgs T E s).1:=by
 unfold outArgs at h⊢;have d1:(s.step T).deep=s.deep:=Dp.step (f:=s.deep) rfl;split at h
 ·rename_i c;rw[if_pos c];exact Bj V hk hD hE _ _ (by omega) h
 ·rename_i c;rw[if_neg c];exact Nb V hk hD hE _ _ _ hd .nil h
theorem IZ(V:jU T)(hkE:KF E)(hDE:DK E)(hE:Ge T m E)(hkU:KF U)(hDU:DK U)(hU:Ge T m U){op:Txt}(ho:op∈[[112,114,105,110,116],[112,114,105,110,116,102]])(s:PS)(hd:s.deep+m=51)(h:(outputM T E U op s).2.err=0):IsP (outputM T E U op s).1:=by
 rw[jH]at h⊢;dsimp only at h⊢;have d0:=(Dp.outArgs (T:=T) (f:=s.deep) (s:={s with flat:=true}) rfl hDE);have e2:(outTo T (aX T U) (outArgs T E {s with flat:=true}).2).2.err=0:=back (fun q=>q.outEnd _ _) h;have e1:(outArgs T E {s with flat:=true}).2.err=0:=back (fun q=>q.outTo (GI hkU)) e2;have a:=IX V hkE hDE hE {s with flat:=true} hd e1;have ne:op=[112,114,105,110,116,102]→(outArgs T E {s with flat:=true}).1≠[]:=fun x y=>by
  unfold outEnd at h;rw[if_pos ⟨x,y⟩]at h;exact gY _ h
 generalize outArgs T E {s with flat:=true}=x at h e2 e1 a ne d0;have hc:=QD hkU hDU hU;have d1:(x.2.step T).deep=s.deep:=Dp.step d0;have key:∀w:Txt,w∈[[116,111],[97,112,112,101,110,100]]→(aX T U (x.2.step T)).2.err=0→IsP (nodeM op (nodeM w [(aX T U (x.2.step T)).1]::x.1)):=fun w hw e=>.print1 ho ne hw (hc _ (by omega) e) a;unfold outTo at e2⊢
 by_cases c1:x.2.isAt T [[62]]=true
 ·rw[if_pos c1]at e2⊢;exact key _ (by decide) e2
 rw[if_neg c1]at e2⊢
 by_cases c2:x.2.isAt T [[62,62]]=true
 ·rw[if_pos c2]at e2⊢;exact key _ (by decide) e2
 rw[if_neg c2];exact .print0 ho ne a
theorem zF(V:jU T)(hkE:KF E)(hDE:DK E)(hE:Ge T m E)(hkU:KF U)(hDU:DK U)(hU:Ge T m U)(s:PS)(hd:s.deep+m=51)(h:(simpleM T E U s).2.err=0):IsP (simpleM T E U s).1:=by
 have d1:(s.step T).deep=s.deep:=Dp.step (f:=s.deep) rfl;unfold simpleM at h⊢;dsimp only at h⊢
 by_cases c1:(s.cur T).k≠7
 ·rw[if_pos c1]at h⊢;exact .expr (hE _ hd h)
 rw[if_neg c1]at h⊢
 by_cases c2:(s.cur T).t=[98,114,101,97,107]∨(s.cur T).t=[99,111,110,116,105,110,117,101]∨(s.cur T).t=[110,101,120,116]
 ·rw[if_pos c2];exact .stop (by simpa using c2)
 rw[if_neg c2]at h⊢
 by_cases c3:(s.cur T).t=[101,120,105,116]∨(s.cur T).t=[114,101,116,117,114,110]
 ·rw[if_pos c3]at h⊢;split at h
  ·rename_i c;rw[if_pos c];exact .out0 (by simpa using c3)
  ·rename_i c;rw[if_neg c];exact .out1 (by simpa using c3) (hE _ (by omega) h)
 rw[if_neg c3]at h⊢
 by_cases c4:(s.cur T).t=[100,101,108,101,116,101]
 ·rw[if_pos c4]at h⊢;have d2:(((s.step T).name T [5]).2.step T).deep=s.deep:=Dp.step (Dp.name d1 _);split at h
  ·rename_i c;rw[if_pos c];have e1:((s.step T).name T [5]).2.err=0:=back (fun q=>q.step.insideM hkE _) h;exact .del1 (lH V (by simp) e1) (kG V hkE hE _ _ (by omega) h)
  ·rename_i c;rw[if_neg c];exact .del0 (lH V (by simp) h)
 rw[if_neg c4]at h⊢
 by_cases c5:(s.cur T).t=[112,114,105,110,116]∨(s.cur T).t=[112,114,105,110,116,102]
 ·rw[if_pos c5]at h⊢;exact IZ V hkE hDE hE hkU hDU hU (by simpa using c5) _ (by omega) h
 ·rw[if_neg c5]at h;exact absurd h (gY _)
def Gs(T:List Tokn)(m:Nat)(S:PF):Prop:=∀s,s.deep+m=51→(S s).2.err=0→IsS (S s).1
theorem zY(hS:Gs T m S):Gs T m (bodyM T S):=fun s hd h=>hS _ (by have:(s.lines T).deep=s.deep:=Dp.lines (f:=s.deep) rfl;omega) h
theorem vk(hS:KF S):KF (bodyM T S):=fun _ _ k=>hS _ _ k.lines
theorem HY(V:jU T)(hkE:KF E)(hDE:DK E)(hE:Ge T m E)(hkS:KF S)(hDS:DK S)(hS:Gs T m S)(s:PS)(hd:s.deep+m=51)(h:(choiceM T E S s).2.err=0):IsS (choiceM T E S s).1:=by
 have d0:(s.expect T [40]).deep=s.deep:=Dp.expect (f:=s.deep) rfl _;have d1:=Dp.insideM (T:=T) d0 hDE [41];have g1:=kG V hkE hE [41] (s.expect T [40]) (by omega);have hB:=zY hS;unfold choiceM at h⊢;generalize insideM T E [41] (s.expect T [40])=x at h d1 g1;dsimp only at h⊢;have d2:=d1.bodyM (T:=T) hDS;have g2:=hB x.2 (by have:x.2.deep=s.deep:=d1;omega);have b2:(bodyM T S x.2).2.err=0→x.2.err=0:=fun e=>back (fun q=>vk hkS _ _ q) e;generalize bodyM T S x.2=y at h d2 g2 b2;have d3:Dp s.deep (if(y.2.lines T).isAt T [[59]]=true then((y.2.lines T).step T).lines T else y.2.lines T):=Dp.iteS d2.lines.step.lines d2.lines;have b3:(if(y.2.lines T).isAt T [[59]]=true then((y.2.lines T).step T).lines T else y.2.lines T).err=0→y.2.err=0:=fun e=>back (fun q=>Kp.iteS q.lines.step.lines q.lines) e;generalize (if(y.2.lines T).isAt T [[59]]=true then((y.2.lines T).step T).lines T else y.2.lines T)=z at h d3 b3;have d4:(z.step T).deep=s.deep:=d3.step;split at h
 ·rename_i c;rw[if_pos c];have e3:z.err=0:=back (fun q=>vk hkS _ _ q.step) h;exact .if3 (g1 (b2 (b3 e3))) (g2 (b3 e3)) (hB _ (by omega) h)
 ·rename_i c;rw[if_neg c];have e3:z.err=0:=Classical.byContradiction fun w=>by
   dsimp only at h;rw[if_neg w]at h;exact w h
  exact .if2 (g1 (b2 (b3 e3))) (g2 (b3 e3))
theorem Fa{p:Tree→Prop}(hM:∀s,s.deep+m=51→(M s).2.err=0→p (M s).1)(e:Txt)(s:PS)(hd:s.deep+m=51)(h:(forA T M e s).2.err=0):IsN p (forA T M e s).1:=by
 unfold forA at h⊢;split at h
 ·rename_i c;rw[if_pos c];exact .inl rfl
 ·rename_i c;rw[if_neg c];exact .inr (hM _ hd h)
theorem Iy(hE:KF E):KF (simpleM T E U):=fun _ _ k=>k.simpleM hE
theorem PL(V:jU T)(hkE:KF E)(hDE:DK E)(hE:Ge T m E)(hkU:KF U)(hDU:DK U)(hU:Ge T m U)(hkS:KF S)(hDS:DK S)(hS:Gs T m S)(s:PS)(hd:s.deep+m=51)(h:(loopM T E U S s).2.err=0):IsS (loopM T E U S s).1:=by
 have hB:=zY hS;have kB:=vk (T:=T) hkS;have d0:Dp s.deep (s.expect T [40]):=Dp.expect rfl _;have hs:=zF V hkE hDE hE hkU hDU hU;have ds:=oM (T:=T) hDE hDU;have ks:=Iy (T:=T) (U:=U) hkE;rw[nX]at h⊢;generalize s.expect T [40]=s1 at h d0
 by_cases c:forIn T s1
 ·rw[if_pos c]at h⊢;dsimp only at h⊢;have d1:((PS.name T ((PS.name T s1 [5]).2.step T) [5]).2.step T).deep=s.deep:=((d0.name _).step.name _).step;have e2:(PS.name T ((PS.name T s1 [5]).2.step T) [5]).2.err=0:=back (fun q=>kB _ _ q.step) h;have e1:(PS.name T s1 [5]).2.err=0:=back (fun q=>q.step.name _) e2;exact .forin (lH V (by simp) e1) (lH V (by simp) e2) (hB _ (by omega) h)
 ·rw[if_neg c]at h⊢;dsimp only at h⊢;have da:=d0.forA (T:=T) ds [59];have ga:=Fa (T:=T) hs [59] s1 (by have:s1.deep=s.deep:=d0;omega);generalize forA T (simpleM T E U) [59] s1=a at h da ga;have d2:=(da.expect (T:=T) [59]).lines (T:=T);have b2:((a.2.expect T [59]).lines T).err=0→a.2.err=0:=fun e=>back (fun q=>(q.expect _).lines) e;generalize (a.2.expect T [59]).lines T=s2 at h d2 b2;have db:=d2.forA (T:=T) hDE [59];have gb:=Fa (T:=T) hE [59] s2 (by have:s2.deep=s.deep:=d2;omega);have bb:(forA T E [59] s2).2.err=0→s2.err=0:=fun e=>back (fun q=>q.forA hkE _) e;generalize forA T E [59] s2=b at h db gb bb;have d3:=(db.expect (T:=T) [59]).lines (T:=T);have b3:((b.2.expect T [59]).lines T).err=0→b.2.err=0:=fun e=>back (fun q=>(q.expect _).lines) e;generalize (b.2.expect T [59]).lines T=s3 at h d3 b3;have dc:=d3.forA (T:=T) ds [41];have gc:=Fa (T:=T) hs [41] s3 (by have:s3.deep=s.deep:=d3;omega);have bc:(forA T (simpleM T E U) [41] s3).2.err=0→s3.err=0:=fun e=>back (fun q=>q.forA ks _) e;generalize forA T (simpleM T E U) [41] s3=cc at h dc gc bc;have d4:(cc.2.expect T [41]).deep=s.deep:=dc.expect _;have ec:cc.2.err=0:=back (fun q=>kB _ _ (q.expect _)) h;have eb:=b3 (bc ec);exact .forr (ga (b2 (bb eb))) (gb eb) (gc ec) (hB _ (by omega) h)
theorem Ci(hkS:KF S)(hDS:DK S)(hS:Gs T m S):∀(K:Nat) (l:List Tree) (s:PS),s.deep+m=51→IsSs l→(blockN T S K l s).2.err=0→IsSs (blockN T S K l s).1
 |0,_,_,_,hl,_=>hl
 |K+1,l,s,hd,hl,h=>by
   rw[vK]at h⊢;have d1:(s.skip T).deep=s.deep:=Dp.skip (f:=s.deep) rfl
   by_cases c:s.err=0
   ·rw[if_pos c]at h⊢
    by_cases c2:(s.skip T).isAt T [[125]]=true
    ·rw[if_pos c2];exact hl
    ·rw[if_neg c2]at h⊢;have d2:=hDS.eq (s.skip T);have e1:(S (s.skip T)).2.err=0:=back (fun q=>q.blockN _ _) h;exact Ci hkS hDS hS K _ _ (by omega) (hl.app (.cons (hS _ (by omega) e1) .nil)) h
   ·rw[if_neg c];exact hl
theorem Ce(hkS:KF S)(hDS:DK S)(hS:Gs T m S)(s:PS)(hd:s.deep+m=51)(h:(blockM T S s).2.err=0):∃l,IsSs l∧(blockM T S s).1=nodeM [98,108,111,99,107] l:=by
 have d0:(s.expect T [123]).deep=s.deep:=Dp.expect (f:=s.deep) rfl _;exact⟨_,Ci hkS hDS hS (T.length+1) [] (s.expect T [123]) (by omega) .nil h,rfl⟩
theorem Qw(V:jU T)(hkE:KF E)(hDE:DK E)(hE:0<m→Ge T m E)(hkU:KF U)(hDU:DK U)(hU:0<m→Ge T m U)(hkS:KF S)(hDS:DK S)(hS:0<m→Gs T m S):Gs T (m+1) (stmtM T E U S):=fun s hd h=>by
 rw[kX]at h⊢;replace h:(dF T E U S (s.down T)).2.err=0:=BP h
 show IsS (dF T E U S (s.down T)).1
 have e1:(s.down T).err=0:=back (fun k=>by
  unfold dF;simp only[k.at,if_false,Bool.false_eq_true];exact(k.simpleM hkE).fin) h
 have dp:=fJ e1;have pm:0<m:=by omega
 have hE:=hE pm;have hU:=hU pm;have hS:=hS pm;have d1:(s.down T).deep=s.deep+1:=Dp.down (f:=s.deep) rfl;generalize s.down T=t at h d1;have d2:(t.step T).deep=t.deep:=Dp.step (f:=t.deep) rfl;unfold dF at h⊢
 by_cases c1:t.isAt T [[123]]=true
 ·rw[if_pos c1]at h⊢;obtain⟨l,hl,e⟩:=Ce hkS hDS hS t (by omega) h;rw[e];exact .block hl
 rw[if_neg c1]at h⊢
 by_cases c2:t.isAt T [[59]]=true
 ·rw[if_pos c2];exact .empty
 rw[if_neg c2]at h⊢
 by_cases c3:t.isAt T [[105,102]]=true
 ·rw[if_pos c3]at h⊢;exact HY V hkE hDE hE hkS hDS hS _ (by omega) h
 rw[if_neg c3]at h⊢
 by_cases c4:t.isAt T [[119,104,105,108,101]]=true
 ·rw[if_pos c4]at h⊢;dsimp only at h⊢;have d3:((t.step T).expect T [40]).deep=t.deep:=Dp.expect d2 _;have d4:=Dp.insideM (T:=T) d3 hDE [41];have d4':(insideM T E [41] ((t.step T).expect T [40])).2.deep=t.deep:=d4;have e2:(insideM T E [41] ((t.step T).expect T [40])).2.err=0:=back (fun q=>vk hkS _ _ q) h;exact .whil (kG V hkE hE _ _ (by omega) e2) (zY hS _ (by omega) h)
 rw[if_neg c4]at h⊢
 by_cases c5:t.isAt T [[102,111,114]]=true
 ·rw[if_pos c5]at h⊢;exact PL V hkE hDE hE hkU hDU hU hkS hDS hS _ (by omega) h
 rw[if_neg c5]at h⊢;exact .simple (zF V hkE hDE hE hkU hDU hU _ (by omega) (back (fun q=>q.fin) h))
theorem sts(V:jU T):∀n,0<n→Gs T n (stL T n)
 |0,h=>absurd h (Nat.lt_irrefl _)
 |n+1,_=>by
   obtain⟨k1,k2,_,_⟩:=l9 T n;obtain⟨d1,d2,_,_⟩:=lW T n;rw[stL];exact Qw V k1 d1 (fun p=>(gls V n p).expr) k2 d2 (fun p=>(gls V n p).unary) (DN T n) (yO T n) (sts V n)
theorem Nl(V:jU T):∀(K:Nat) (l:List Tree) (s:PS),(∀p∈l,IsPar p)→(parN T K l s).2.err=0→∀p∈(parN T K l s).1,IsPar p
 |0,_,_,hl,_=>hl
 |K+1,l,s,hl,h=>by
   rw[FU]at h⊢;split at h
   ·rename_i c;rw[if_pos c];have e1:(PS.name T (if l=[]then s else(s.expect T [44]).lines T) [5]).2.err=0:=back (fun q=>q.lines.parN _ _) h;refine Nl V K _ _ (fun p hp=>?_) h;rcases List.mem_append.1 hp with hp|hp
    ·exact hl p hp
    ·cases List.mem_singleton.1 hp;exact⟨_,_,lH V (by simp) e1,rfl⟩
   ·rename_i c;rw[if_neg c];exact hl
theorem Pq(V:jU T)(s:PS)(hd:s.deep=0)(h:(itemM T s).2.err=0):IsI (itemM T s).1:=by
 have hS:=sts V 51 (by decide);have kS:=DN T 51;have dS:=yO T 51;have B:=Ce kS dS hS;have hE:=(gls V 51 (by decide)).expr;have kE:=(l9 T 51).1;have dE:=(lW T 51).1;have d1:(s.step T).deep=s.deep:=Dp.step (f:=s.deep) rfl;rw[rQ]at h⊢;unfold pX at h⊢
 by_cases c1:s.isAt T [[66,69,71,73,78]]=true
 ·rw[if_pos c1]at h⊢;obtain⟨l,hl,e⟩:=B _ (by omega) h;dsimp only;rw[e];exact .begin (by decide) hl
 rw[if_neg c1]at h⊢
 by_cases c2:s.isAt T [[69,78,68]]=true
 ·rw[if_pos c2]at h⊢;obtain⟨l,hl,e⟩:=B _ (by omega) h;dsimp only;rw[e];exact .begin (by decide) hl
 rw[if_neg c2]at h⊢
 by_cases c3:s.isAt T [[102,117,110,99,116,105,111,110]]=true
 ·rw[if_pos c3]at h⊢;dsimp only at h⊢;have d2:Dp s.deep ((s.step T).name T [5,6]).2:=Dp.name d1 _;have b2:=lH (s:=s.step T) (ks:=[5,6]) V (by simp);generalize (s.step T).name T [5,6]=x at h d2 b2;have d3:=Dp.parN (T:=T) (T.length+1) (l:=[]) ((d2.expect (T:=T) [40]).lines (T:=T));have g3:=Nl V (T.length+1) [] ((x.2.expect T [40]).lines T) (by simp);have b3:(parN T (T.length+1) [] ((x.2.expect T [40]).lines T)).2.err=0→x.2.err=0:=fun e=>back (fun q=>(q.expect _).lines.parN _ _) e;generalize parN T (T.length+1) [] ((x.2.expect T [40]).lines T)=y at h d3 g3 b3;have d4:((y.2.expect T [41]).lines T).deep=s.deep:=(d3.expect _).lines;have e3:y.2.err=0:=back (fun q=>(q.expect _).lines.blockM) h;obtain⟨l,hl,e⟩:=B _ (by omega) h;rw[e];exact .func (b2 (b3 e3)) (g3 e3) hl
 rw[if_neg c3]at h⊢
 by_cases c4:s.isAt T [[123]]=true
 ·rw[if_pos c4]at h⊢;obtain⟨l,hl,e⟩:=B _ (by omega) h;dsimp only;rw[e];exact .always hl
 rw[if_neg c4]at h⊢;have dx:=dE.eq s;have gx:=hE s (by omega);generalize (lev T 51).expr s=x at h dx gx
 by_cases c5:x.2.isAt T [[123]]=true
 ·rw[if_pos c5]at h⊢;obtain⟨l,hl,e⟩:=B x.2 (by omega) h;dsimp only;rw[e];exact .rule (gx (back (fun q=>q.blockM) h)) hl
 ·rw[if_neg c5]at h⊢;exact .default (gx (back (fun q=>Kp.iteS q.fail q) h))
theorem DI(V:jU T):∀(K:Nat) (l:List Tree) (s:PS),s.deep=0→(∀t∈l,IsI t)→(itemsN T K l s).2.err=0→∀t∈(itemsN T K l s).1,IsI t
 |0,_,_,_,hl,_=>hl
 |K+1,l,s,hd,hl,h=>by
   rw[DJ]at h⊢;have d1:(s.skip T).deep=0:=Dp.skip hd
   by_cases c:s.err=0
   ·rw[if_pos c]at h⊢
    by_cases c2:((s.skip T).cur T).k=0
    ·rw[if_pos c2];exact hl
    ·rw[if_neg c2]at h⊢;have d2:(itemM T (s.skip T)).2.deep=0:=Dp.itemM d1;have e1:(itemM T (s.skip T)).2.err=0:=back (fun q=>q.itemsN _ _) h;refine DI V K _ _ d2 (fun t ht=>?_) h;rcases List.mem_append.1 ht with ht|ht
     ·exact hl t ht
     ·cases List.mem_singleton.1 ht;exact Pq V _ d1 e1
   ·rw[if_neg c];exact hl
theorem Np(V:jU T){t:Tree}(h:nY T=.inl t):∃l,(∀i∈l,IsI i)∧t=nodeM [112,114,111,103,114,97,109] l:=by
 unfold nY at h;dsimp only at h;split at h
 ·cases h
 ·rename_i c;cases h;exact⟨_,DI V _ _ _ rfl (by simp) (Classical.not_not.1 c),rfl⟩
end
section
open Mir
def NmL(T:List Tokn):Prop:=∀t∈T,(t.k=5∨t.k=6)→t.t≠[]
theorem NmL.add{T:List Tokn}(h:NmL T){t:Tokn}(k:(t.k=5∨t.k=6)→t.t≠[]):NmL (T++[t]):=fun x hx=>by
 rcases List.mem_append.1 hx with hx|hx
 ·exact h x hx
 ·cases List.mem_singleton.1 hx;exact k
theorem NmL.ok{T:List Tokn}(h:NmL T):jU T:=fun i k=>by
 by_cases hi:i<T.length
 ·rw[List.getD_eq_getElem?_getD,List.getElem?_eq_getElem hi]at k⊢;exact h _ (List.getElem_mem hi) k
 ·rw[List.getD_eq_getElem?_getD,List.getElem?_eq_none (by omega)]at k;exact absurd k (by decide)
theorem Qy{s:Txt}{i:Nat}(hi:i<s.length)(h:isLet (pk s i)=true):kw s i (past aV s i)≠[]:=by
 have a:=kR (p:=aV) hi (by unfold aV;rw[h];rfl);have b:=jv aV s (i+1);have c:=iP aV (Nat.le_of_lt hi);intro e;have:=congrArg List.length e;rw[kw,List.length_drop,List.length_take,List.length_nil]at this;omega
theorem PP{ws bs ns:List Txt}{s:Txt}{i j:Nat}{T T':List Tokn}(hi:i<s.length)(hT:NmL T)(h:fM ws bs ns s i T=.inr (j,T')):NmL T':=by
 simp only[fM]at h;split at h
 ·simp only[Sum.inr.injEq,Prod.mk.injEq]at h;obtain⟨rfl,rfl⟩:=h;exact hT
 split at h
 ·simp only[Sum.inr.injEq,Prod.mk.injEq]at h;obtain⟨rfl,rfl⟩:=h;exact hT
 split at h
 ·simp only[Sum.inr.injEq,Prod.mk.injEq]at h;obtain⟨rfl,rfl⟩:=h;exact hT
 split at h
 ·simp only[Sum.inr.injEq,Prod.mk.injEq]at h;obtain⟨rfl,rfl⟩:=h;exact hT.add (by simp)
 split at h
 ·simp only[Sum.inr.injEq,Prod.mk.injEq]at h;obtain⟨rfl,rfl⟩:=h;exact hT.add (by simp)
 split at h
 ·rename_i c;simp only[Sum.inr.injEq,Prod.mk.injEq]at h;obtain⟨rfl,rfl⟩:=h;exact hT.add (fun _=>Qy hi c)
 split at h
 ·split at h
  ·cases h
  ·simp only[Sum.inr.injEq,Prod.mk.injEq]at h;obtain⟨rfl,rfl⟩:=h;exact hT.add (by simp)
 split at h
 ·split at h
  ·cases h
  ·simp only[Sum.inr.injEq,Prod.mk.injEq]at h;obtain⟨rfl,rfl⟩:=h;exact hT.add (by simp)
 split at h
 ·cases h
 ·simp only[Sum.inr.injEq,Prod.mk.injEq]at h;obtain⟨rfl,rfl⟩:=h;exact hT.add (by simp)
theorem MF{ws bs ns:List Txt}{s:Txt}:∀(k i:Nat) (T U:List Tokn),NmL T→kK ws bs ns s k i T=.inr U→NmL U
 |0,_,_,_,_,h=>by simp[kK]at h
 |k+1,i,T,U,hT,h=>by
   rw[kK]at h;split at h
   ·simp only[Sum.inr.injEq]at h;subst h;exact hT.add (by simp)
   ·rename_i c;split at h
    ·cases h
    ·rename_i i' T' e;exact MF k i' T' U (PP (by omega) hT e) h
theorem PH{ws bs ns:List Txt}{s:Txt}{k:Nat}{U:List Tokn}(h:kK ws bs ns s k 0 []=.inr U):jU U:=(MF k 0 [] U (by unfold NmL;simp) h).ok
end
section
open Mir
variable{N:List Tree}{r:RSt}{F:List RFn}{A:Sym→Bool}{fn:Option Nat}
end
section
open Mir
variable{T:List Tokn}{m c d:Nat}{s s' s'':PS}{E P R U M S:PF}
def Lt(c:Nat)(s s':PS):Prop:=s'.err=0→s.err=0∧s.i+c≤s'.i
def Bd(c:Nat)(s:PS)(x:Tree × PS):Prop:=x.2.err=0→s.err=0∧tsz x.1+c+16*s.i≤16*x.2.i
def Bl(n c:Nat)(s:PS)(x:List Tree × PS):Prop:=x.2.err=0→s.err=0∧cO x.1+c+16*s.i≤n+16*x.2.i
theorem Lt.refl:Lt 0 s s:=fun h=>⟨h,Nat.le_refl _⟩
theorem Lt.trans(a:Lt c s s')(b:Lt d s' s''):Lt (c+d) s s'':=fun h=>by
 obtain⟨b1,b2⟩:=b h;obtain⟨a1,a2⟩:=a b1;exact⟨a1,by omega⟩
theorem Lt.le(a:Lt c s s')(h:d≤c):Lt d s s':=fun e=>⟨(a e).1,by have:=(a e).2;omega⟩
theorem aW{o t:Txt}{a:Nat}{l:List Tree}:tsz (.nd o t a l)=cO l+1:=by rw[tsz]
theorem aB:cO []=0:=by rw[cO]
theorem aj{k:Tree}{l:List Tree}:cO (k::l)=tsz k+cO l+1:=by rw[cO]
theorem je{l m:List Tree}:cO (l++m)=cO l+cO m:=by
 induction l with
 |nil=>simp[aB]
 |cons x l ih=>rw[List.cons_append,aj,aj,ih];omega
theorem Lt.step0:Lt 0 s (s.step T):=by
 unfold PS.step;split
 ·exact fun h=>⟨h,by show s.i+0≤s.i+1;omega⟩
 ·exact Lt.refl
theorem Lt.fail(c:Nat):Lt c s (s.fail T):=fun h=>absurd h (gY s)
theorem Lt.linesN:∀(K:Nat) {s:PS},Lt 0 s (linesN T K s)
 |0,_=>Lt.refl
 |K+1,s=>by
   rw[Mir.linesN];split
   ·exact Lt.step0.trans (Lt.linesN K)
   ·exact Lt.refl
theorem Lt.lines:Lt 0 s (s.lines T):=Lt.linesN _
theorem Lt.skipN:∀(K:Nat) {s:PS},Lt 0 s (skipN T K s)
 |0,_=>Lt.refl
 |K+1,s=>by
   rw[Mir.skipN];split
   ·exact Lt.step0.trans (Lt.skipN K)
   ·exact Lt.refl
theorem Lt.skip:Lt 0 s (s.skip T):=Lt.skipN _
theorem Lt.down:Lt 0 s (s.down T):=by
 unfold PS.down;split
 ·exact fun h=>by cases h
 ·exact fun h=>⟨h,Nat.le_refl _⟩
theorem Lt.wrong{a e:Nat}{q:Prop}[Decidable q](he:e≠0):Lt 0 s (s.wrong a q e):=by
 unfold PS.wrong;split
 ·exact fun h=>absurd h he
 ·exact Lt.refl
theorem Lt.ite{p:Prop}[Decidable p]{a b:PS}(ha:Lt c s a)(hb:Lt c s b):Lt c s (if p then a else b):=by split;exact ha;exact hb
def fE(T:List Tokn):Prop:=(T.getD (T.length-1) tkz).k=0
theorem Lt.step1(W:fE T)(h:(s.cur T).k≠0):Lt 1 s (s.step T):=by
 have e:=iM h;rw[JX e]at h;have h1:s.i<T.length:=Classical.byContradiction fun x=>h (by rw[List.getD_eq_getElem?_getD,List.getElem?_eq_none (by omega)];rfl);have h2:s.i≠T.length-1:=fun x=>h (by rw[x];exact W);unfold PS.step;rw[if_pos ⟨e,by omega⟩];exact fun _=>⟨e,Nat.le_refl _⟩
theorem Lt.at1(W:fE T){l:List Txt}(h:s.isAt T l=true):Lt 1 s (s.step T):=Lt.step1 W (by rcases at_k h with e|e<;>omega)
theorem Lt.expect(W:fE T)(x:Txt):Lt 1 s (s.expect T x):=by
 unfold PS.expect;split
 ·rename_i c;exact Lt.at1 W c
 ·exact Lt.fail _
theorem Lt.name(W:fE T){ks:List Nat}(h0:0∉ks):Lt 1 s (s.name T ks).2:=by
 unfold PS.name;split
 ·rename_i c;exact Lt.step1 W fun e=>h0 (e ▸ c)
 ·exact Lt.fail _
theorem Lt.flat{b:Bool}:Lt 0 s {s with flat:=b}:=fun h=>⟨h,Nat.le_refl _⟩
def BE(T:List Tokn)(m:Nat)(M:PF):Prop:=∀s,s.deep+m=51→Bd 8 s (M s)
theorem Bd.from{x:Tree × PS}{e:Nat}(a:Lt d s s')(b:Bd c s' x)(h:e≤c+16*d):Bd e s x:=fun h=>by
 obtain⟨b1,b2⟩:=b h;obtain⟨a1,a2⟩:=a b1;exact⟨a1,by omega⟩
theorem GK(W:fE T)(hk:KF M)(hD:DK M)(hM:BE T m M)(e:Txt):∀(K:Nat) (l:List Tree) (s:PS),s.deep+m=51→Bl (cO l) 0 s (listN T M e K l s)
 |0,_,_,_=>by have _:=W;exact fun h=>⟨h,Nat.le_refl _⟩
 |K+1,l,s,hd=>fun h=>by
   rw[GN]at h⊢;split at h
   ·rename_i c;rw[if_pos c];have e1:(M (if l=[]then s else(s.expect T [44]).lines T)).2.err=0:=back (fun q=>q.lines.listN e K _) h;have d1:Dp s.deep (if l=[]then s else(s.expect T [44]).lines T):=Dp.iteS rfl ((Dp.expect (T:=T) rfl _).lines);have d2:=(hD _ _ d1).lines (T:=T);have d1':(if l=[]then s else(s.expect T [44]).lines T).deep=s.deep:=d1;have d2':(PS.lines T (M (if l=[]then s else(s.expect T [44]).lines T)).2).deep=s.deep:=d2;obtain⟨r1,r2⟩:=GK W hk hD hM e K _ _ (by omega) h;obtain⟨r3,r4⟩:=Lt.lines r1;obtain⟨r5,r6⟩:=hM _ (by omega) r3;obtain⟨r7,r8⟩:=(Lt.ite Lt.refl ((Lt.expect W _).trans Lt.lines |>.le (by omega)):Lt 0 s (if l=[]then s else(s.expect T [44]).lines T)) r5;rw[je,aj,aB]at r2;exact⟨r7,by omega⟩
   ·rename_i c;rw[if_neg c];exact⟨h,Nat.le_refl _⟩
theorem Bi(W:fE T)(hk:KF M)(hD:DK M)(hM:BE T m M)(e:Txt)(s:PS)(hd:s.deep+m=51):Bl 0 16 s (listM T M e s):=fun h=>by
 unfold listM at h⊢;dsimp only at h⊢;have d:(PS.lines T {s with flat:=false}).deep=s.deep:=Dp.lines (f:=s.deep) rfl;obtain⟨r1,r2⟩:=(Lt.expect W e) h;obtain⟨r3,r4⟩:=GK W hk hD hM e _ _ _ (by omega) r1;obtain⟨r5,r6⟩:=(Lt.flat (s:=s) (b:=false)).trans (Lt.lines (T:=T)) r3;rw[aB]at r4;exact⟨r5,by show _≤0+16*(PS.expect T _ e).i;omega⟩
theorem kF(W:fE T)(hM:BE T m M)(e:Txt)(s:PS)(hd:s.deep+m=51):Bd 24 s (insideM T M e s):=fun h=>by
 unfold insideM at h⊢;dsimp only at h⊢;have d:(PS.lines T {s with flat:=false}).deep=s.deep:=Dp.lines (f:=s.deep) rfl;obtain⟨r1,r2⟩:=(Lt.lines.trans (Lt.expect W e)) h;obtain⟨r3,r4⟩:=hM _ (by omega) r1;obtain⟨r5,r6⟩:=(Lt.flat (s:=s) (b:=false)).trans (Lt.lines (T:=T)) r3;exact⟨r5,by show _≤16*(PS.expect T _ e).i;omega⟩
theorem Oc{l:List Tree}{i:Nat}{t:Tree}(h:i<l.length)(e:tsz t=tsz (l.getD i .zero)):cO (l.set i t)=cO l:=by
 induction l generalizing i with
 |nil=>cases h
 |cons x l ih =>
   cases i with
   |zero=>rw[List.set_cons_zero,aj,aj,e];rfl
   |succ i=>rw[List.set_cons_succ,aj,aj,ih (by simpa using h) e]
theorem JC{t:Tokn}{l:List Tree}:Lt 0 s (biPost t l s).2∧((biPost t l s).2.err=0→cO (biPost t l s).1≤cO l+8):=by
 have nw:∀{a e:Nat} {q:Prop} [Decidable q],e≠0→(s.wrong a q e).err=0→¬q:=fun {a e q} _ he h x=>by
  have s0:=((Lt.wrong he:Lt 0 s (s.wrong a q e)) h).1;unfold PS.wrong at h;rw[if_pos ⟨x,s0⟩]at h;exact he h
 unfold biPost;dsimp only;split
 ·exact⟨Lt.wrong (by decide),fun _=>by show cO l≤_;omega⟩
 split
 ·exact⟨Lt.wrong (by decide),fun _=>by show cO l≤_;omega⟩
 split
 ·refine⟨Lt.wrong (by decide),fun h=>?_⟩;have w:=nw (by decide) h;dsimp only at h⊢;rw[if_pos h,Oc (by omega) (by cases l.getD 1 .zero;simp[Tree.withOp,aW])];omega
 split
 ·refine⟨Lt.wrong (by decide),fun h=>?_⟩;dsimp only;split
  ·rw[je,aj,aB,nodeM,aW,aj,aB,aW,aB];omega
  ·omega
 split
 ·exact⟨Lt.wrong (by decide),fun _=>by show cO l≤_;omega⟩
 split
 ·exact⟨Lt.wrong (by decide),fun _=>by show cO l≤_;omega⟩
 split
 ·exact⟨Lt.wrong (by decide),fun _=>by show cO l≤_;omega⟩
 split
 ·exact⟨(Lt.wrong (by decide)).trans (Lt.wrong (by decide)),fun _=>by show cO l≤_;omega⟩
 ·exact⟨Lt.wrong (by decide),fun _=>by show cO l≤_;omega⟩
theorem EI(W:fE T)(hk:KF M)(hD:DK M)(hM:BE T m M)(s:PS)(hd:s.deep+m=51)(h0:(s.cur T).k≠0):Bd 8 s (builtinM T M s):=fun h=>by
 unfold builtinM at h⊢;split at h
 ·rename_i c;rw[if_pos c];obtain⟨r1,r2⟩:=Lt.step1 W h0 h;exact⟨r1,by unfold aN;dsimp only;rw[aW,aB];omega⟩
 ·rename_i c;rw[if_neg c];dsimp only at h⊢;have d:((s.step T).expect T [40]).deep=s.deep:=Dp.expect (f:=s.deep) (Dp.step rfl) _;obtain⟨b1,b2⟩:=JC (s:=(listM T M [41] ((s.step T).expect T [40])).2) (t:=s.cur T) (l:=(listM T M [41] ((s.step T).expect T [40])).1);have b3:=b2 h;obtain⟨r1,r2⟩:=b1 h;obtain⟨r3,r4⟩:=Bi W hk hD hM _ _ (by omega) r1;obtain⟨r5,r6⟩:=(Lt.step1 W h0).trans (Lt.expect W _) r3;exact⟨r5,by unfold aN;rw[aW];omega⟩
theorem tJ(W:fE T)(h0:(s.cur T).k≠0){o t:Txt}{a:Nat}:Bd 8 s (.nd o t a [],s.step T):=fun h=>by
 obtain⟨r1,r2⟩:=Lt.step1 W h0 h;exact⟨r1,by dsimp only;rw[aW,aB];omega⟩
theorem ig{e:Nat}{x:Tree × PS}(b:Bd c s x)(h:e+2≤c){o t:Txt}{a:Nat}:Bd e s (.nd o t a [x.1],x.2):=fun h=>by
 obtain⟨r1,r2⟩:=b h;exact⟨r1,by dsimp only;rw[aW,aj,aB];omega⟩
theorem Qc(W:fE T)(hk:KF E)(hkP:KF P)(hkR:KF R)(hD:DK E)(hE:BE T (m+1) E)(hP:0<m→BE T m P)(hR:0<m→BE T m R)(s:PS)(hd:s.deep+(m+1)=51):Bd 8 s (primM T E P R s):=fun h=>by
 have d1:(s.step T).deep=s.deep:=Dp.step (f:=s.deep) rfl;unfold primM at h⊢;dsimp only at h⊢
 by_cases c2:(s.cur T).k=2
 ·rw[if_pos c2]at h⊢;exact tJ W (by omega) h
 rw[if_neg c2]at h⊢
 by_cases c3:(s.cur T).k=3
 ·rw[if_pos c3]at h⊢;exact tJ W (by omega) h
 rw[if_neg c3]at h⊢
 by_cases c4:(s.cur T).k=4
 ·rw[if_pos c4]at h⊢;split at h
  ·exact absurd (Lt.step0 h).1 (gY _)
  ·rename_i cr;rw[if_neg cr];exact tJ W (by omega) h
 rw[if_neg c4]at h⊢
 by_cases c5:(s.cur T).k=5
 ·rw[if_pos c5]at h⊢;split at h
  ·rename_i c;rw[if_pos c];have d2:((s.step T).step T).deep=s.deep:=Dp.step (f:=s.deep) (Dp.step rfl);exact ig (Bd.from ((Lt.step1 W (by omega)).trans (Lt.at1 W c)) (kF W hE _ _ (by omega)) (Nat.le_refl _)) (by omega) h
  ·rename_i c;rw[if_neg c];exact tJ W (by omega) h
 rw[if_neg c5]at h⊢
 by_cases c6:(s.cur T).k=6
 ·rw[if_pos c6]at h⊢;have d2:((s.step T).expect T [40]).deep=s.deep:=Dp.expect (f:=s.deep) (Dp.step rfl) _;obtain⟨r3,r4⟩:=Bi W hk hD hE _ _ (by omega) h;obtain⟨r5,r6⟩:=(Lt.step1 W (by omega)).trans (Lt.expect W _) r3;exact⟨r5,by unfold aN;dsimp only;rw[aW];omega⟩
 rw[if_neg c6]at h⊢
 by_cases c9:(s.cur T).k=9
 ·rw[if_pos c9]at h⊢;exact EI W hk hD hE s hd (by omega) h
 rw[if_neg c9]at h⊢
 by_cases cp:s.isAt T [[40]]=true
 ·rw[if_pos cp]at h⊢;exact Bd.from (Lt.at1 W cp) (kF W hE _ _ (by omega)) (by omega) h
 rw[if_neg cp]at h⊢
 by_cases cd:s.isAt T [[36]]=true
 ·rw[if_pos cd]at h⊢;have d3:((s.step T).down T).deep=s.deep+1:=Dp.down (f:=s.deep) (Dp.step rfl);have l3:=(Lt.at1 W cd).trans (Lt.down (T:=T));split at h
  ·rename_i c;rw[if_pos c];have e1:((s.step T).down T).err=0:=back (fun q=>hkP _ _ q) h;have:=fJ e1;exact ig (Bd.from l3 (hP (by omega) _ (by omega)) (Nat.le_refl _)) (by omega) h
  ·rename_i c;rw[if_neg c];have e1:((s.step T).down T).err=0:=back (fun q=>hkR _ _ q) h;have:=fJ e1;exact ig (Bd.from l3 (hR (by omega) _ (by omega)) (Nat.le_refl _)) (by omega) h
 ·rw[if_neg cd]at h;exact absurd h (gY s)
theorem Qa(W:fE T)(hk:KF R)(hR:BE T m R)(s:PS)(hd:s.deep+m=51):Bd 8 s (postM T R s):=fun h=>by
 unfold postM at h⊢;dsimp only at h⊢;have d1:(s.step T).deep=s.deep:=Dp.step (f:=s.deep) rfl;have key:∀o:Txt,Lt 1 s (s.step T)→(if(R (s.step T)).1.isPlace=true then(nodeM o [(R (s.step T)).1],(R (s.step T)).2)else(.zero,(R (s.step T)).2.fail T)).2.err=0 →
   s.err=0∧tsz (if(R (s.step T)).1.isPlace=true then(nodeM o [(R (s.step T)).1],(R (s.step T)).2)else(.zero,(R (s.step T)).2.fail T)).1+8+16*s.i≤16*(if(R (s.step T)).1.isPlace=true then(nodeM o [(R (s.step T)).1],(R (s.step T)).2)else(.zero,(R (s.step T)).2.fail T)).2.i:=fun o l e=>by
  split at e
  ·rename_i c;rw[if_pos c];exact ig (Bd.from l (hR _ (by omega)) (Nat.le_refl _)) (by omega) e
  ·exact absurd e (gY _)
 by_cases c1:s.isAt T [[43,43]]=true
 ·rw[if_pos c1]at h⊢;exact key _ (Lt.at1 W c1) h
 rw[if_neg c1]at h⊢
 by_cases c2:s.isAt T [[45,45]]=true
 ·rw[if_pos c2]at h⊢;exact key _ (Lt.at1 W c2) h
 rw[if_neg c2]at h⊢;have g:=hR s hd;have key2:∀{o:Txt} {l:List Txt},(R s).2.isAt T l=true→((R s).2.step T).err=0→s.err=0∧tsz (nodeM o [(R s).1])+8+16*s.i≤16*((R s).2.step T).i:=fun {o l} ha e=>by
  obtain⟨r1,r2⟩:=Lt.at1 W ha e;obtain⟨r3,r4⟩:=g r1;exact⟨r3,by rw[nodeM,aW,aj,aB];omega⟩
 split at h
 ·rename_i c;rw[if_pos c];exact g h
 rename_i c;rw[if_neg c];split at h
 ·rename_i c3;rw[if_pos c3];exact key2 c3 h
 rename_i c3;rw[if_neg c3];split at h
 ·rename_i c4;rw[if_pos c4];exact key2 c4 h
 ·rename_i c4;rw[if_neg c4];exact g h
theorem Oe(W:fE T)(hkU:KF U)(hU:0<m→BE T m U)(hP:BE T (m+1) P)(s:PS)(hd:s.deep+(m+1)=51):Bd 8 s (unaryM T U P s):=fun h=>by
 have d1:(s.step T).deep=s.deep:=Dp.step (f:=s.deep) rfl;have d3:((s.step T).down T).deep=s.deep+1:=Dp.down (f:=s.deep) (Dp.step rfl);have key:∀{o:Txt} {l:List Txt},s.isAt T l=true→(U ((s.step T).down T)).2.err=0→s.err=0∧tsz (nodeM o [(U ((s.step T).down T)).1])+8+16*s.i≤16*(U ((s.step T).down T)).2.i:=fun {o l} ha e=>by
  have:=fJ (back (fun q=>hkU _ _ q) e);exact ig (Bd.from ((Lt.at1 W ha).trans (Lt.down (T:=T))) (hU (by omega) _ (by omega)) (Nat.le_refl _)) (by omega) e
 unfold unaryM at h⊢;dsimp only at h⊢;split at h
 ·rename_i c;rw[if_pos c];exact key c h
 rename_i c1;rw[if_neg c1];split at h
 ·rename_i c;rw[if_pos c];exact key c h
 rename_i c2;rw[if_neg c2];split at h
 ·rename_i c;rw[if_pos c];exact key c h
 rename_i c3;rw[if_neg c3];exact hP _ hd h
theorem CQ(W:fE T)(hk:KF M)(hD:DK M)(hM:BE T m M)(ln:Bool){ops:List (Txt × Txt)}:∀(K:Nat) (t:Tree) (s:PS),s.deep+m=51→(chainN T M ln ops K t s).2.err=0→s.err=0∧tsz (chainN T M ln ops K t s).1+16*s.i≤tsz t+16*(chainN T M ln ops K t s).2.i
 |0,_,_,_,h=>⟨h,Nat.le_refl _⟩
 |K+1,t,s,hd,h=>by
   rw[CV]at h⊢
   by_cases c:(s.cur T).k=8
   ·rw[if_pos c]at h⊢;cases ho':ops.lookup (s.cur T).t with
    |none=>rw[ho']at h;exact⟨h,Nat.le_refl _⟩
    |some op =>
      rw[ho']at h;dsimp only at h⊢;have d1:Dp s.deep (if ln=true then(s.step T).lines T else s.step T):=Dp.iteS (Dp.step rfl).lines (Dp.step rfl);have d1':(if ln=true then(s.step T).lines T else s.step T).deep=s.deep:=d1;have d2:=hD.eq (if ln=true then(s.step T).lines T else s.step T);have l1:Lt 1 s (if ln=true then(s.step T).lines T else s.step T):=Lt.ite ((Lt.step1 W (by omega)).trans Lt.lines) (Lt.step1 W (by omega));obtain⟨r1,r2⟩:=CQ W hk hD hM ln K _ _ (by omega) h;obtain⟨r3,r4⟩:=hM _ (by omega) r1;obtain⟨r5,r6⟩:=l1 r3;rw[nodeM,aW,aj,aj,aB]at r2;refine⟨r5,?_⟩;unfold nodeM;omega
   ·rw[if_neg c]at h⊢;exact⟨h,Nat.le_refl _⟩
theorem qR(W:fE T)(hk:KF M)(hD:DK M)(hM:BE T m M)(ln:Bool){ops:List (Txt × Txt)}:BE T m (dO T M ln ops):=fun s hd h=>by
 unfold dO at h⊢;dsimp only at h⊢;have d:=hD.eq s;obtain⟨r1,r2⟩:=CQ W hk hD hM ln _ _ _ (by omega) h;obtain⟨r3,r4⟩:=hM _ hd r1;exact⟨r3,by omega⟩
theorem JQ(W:fE T)(hk:KF M)(hD:DK M)(hM:BE T m M):∀(K:Nat) (t:Tree) (s:PS),s.deep+m=51→(catN T M K t s).2.err=0→s.err=0∧tsz (catN T M K t s).1+16*s.i≤tsz t+16*(catN T M K t s).2.i
 |0,_,_,_,h=>⟨h,Nat.le_refl _⟩
 |K+1,t,s,hd,h=>by
   rw[JS]at h⊢;split at h
   ·rename_i c;rw[if_pos c];have d:=hD.eq s;obtain⟨r1,r2⟩:=JQ W hk hD hM K _ _ (by omega) h;obtain⟨r3,r4⟩:=hM _ hd r1;rw[nodeM,aW,aj,aj,aB]at r2;refine⟨r3,?_⟩;unfold nodeM;omega
   ·rename_i c;rw[if_neg c];exact⟨h,Nat.le_refl _⟩
theorem QC(W:fE T)(hk:KF U)(hD:DK U)(hU:BE T m U):BE T m (aX T U):=fun s hd h=>by
 have a1:BE T m (rX T U):=by unfold rX;exact qR W hk hD hU false
 have a2:BE T m (gI T U):=by unfold gI;exact qR W (FD hk) (EQ hD) a1 false
 unfold aX at h⊢;dsimp only at h⊢;have d:=(Ak (T:=T) hD).eq s;obtain⟨r1,r2⟩:=JQ W (Fv hk) (Ak hD) a2 _ _ _ (by omega) h;obtain⟨r3,r4⟩:=a2 _ hd r1;exact⟨r3,by omega⟩
theorem UH(W:fE T)(hk:KF U)(hD:DK U)(hU:BE T m U):BE T m (uY T U):=fun s hd h=>by
 have hc:=QC W hk hD hU;rw[lL]at h⊢;have g:=hc s hd;have d:=(qZ (T:=T) hD).eq s;generalize aX T U s=x at h g d;rw[xN]at h⊢
 by_cases c:(x.2.cur T).k=8∧¬((x.2.cur T).t=[62]∧x.2.flat=true)
 ·rw[if_pos c]at h⊢;cases ho:relOps.lookup (x.2.cur T).t with
  |none=>rw[ho]at h;exact g h
  |some op =>
    rw[ho]at h;dsimp only at h⊢;have d2:(x.2.step T).deep=x.2.deep:=Dp.step (f:=x.2.deep) rfl;obtain⟨r1,r2⟩:=hc _ (by omega) h;obtain⟨r3,r4⟩:=Lt.step1 W (by omega) r1;obtain⟨r5,r6⟩:=g r3;exact⟨r5,by rw[nodeM,aW,aj,aj,aB];omega⟩
 ·rw[if_neg c]at h⊢;exact g h
theorem QH(W:fE T):∀(K:Nat) (t:Tree) (s:PS),(inN T K t s).2.err=0→s.err=0∧tsz (inN T K t s).1+16*s.i≤tsz t+16*(inN T K t s).2.i
 |0,_,_,h=>⟨h,Nat.le_refl _⟩
 |K+1,t,s,h=>by
   rw[QJ]at h⊢;split at h
   ·rename_i c;rw[if_pos c];obtain⟨r1,r2⟩:=QH W K _ _ h;obtain⟨r3,r4⟩:=(Lt.at1 W c).trans (Lt.name W (ks:=[5]) (by simp)) r1;rw[aN,aW,aj,aB]at r2;refine⟨r3,?_⟩;unfold aN;omega
   ·rename_i c;rw[if_neg c];exact⟨h,Nat.le_refl _⟩
theorem Vg(W:fE T)(hk:KF U)(hD:DK U)(hU:BE T m U):BE T m (orM T U):=by
 have a5:BE T m (fB T U):=by unfold fB;exact qR W (FH hk) (ER hD) (UH W hk hD hU) false
 have a6:BE T m (inM T U):=fun s hd h=>by
  rw[Ba]at h⊢;obtain⟨r1,r2⟩:=QH W _ _ _ h;obtain⟨r3,r4⟩:=a5 _ hd r1;exact⟨r3,by omega⟩
 have a7:BE T m (Mir.andM T U):=by unfold Mir.andM;exact qR W (L6 hk) (Gp hD) a6 true
 unfold Mir.orM;exact qR W (Fz hk) (JY hD) a7 true
theorem O5(W:fE T)(hkE:KF E)(hDE:DK E)(hE:0<m→BE T m E)(hk:KF U)(hD:DK U)(hU:0<m→BE T m U):BE T (m+1) (ny T E U):=fun s hd h=>by
 rw[jD]at h⊢;replace h:(exprStep T E (orM T U (s.down T))).2.err=0:=BP h;have e2:(orM T U (s.down T)).2.err=0:=wu h;have e1:(s.down T).err=0:=back (fun q=>L9 hk _ _ q) e2;have dp:=fJ e1;have pm:0<m:=by omega
 have hE:=hE pm;have hO:=Vg W hk hD (hU pm);have d1:(s.down T).deep=s.deep+1:=Dp.down (f:=s.deep) rfl;have d2:=(JZ (T:=T) hD).eq (s.down T);have g:=Bd.from (Lt.down (T:=T)) (hO (s.down T) (by omega)) (Nat.le_refl _);generalize orM T U (s.down T)=x at h e2 g d2
 show s.err=0∧tsz (exprStep T E x).1+8+16*s.i≤16*(exprStep T E x).2.i
 have d3:((x.2.step T).lines T).deep=x.2.deep:=Dp.lines (f:=x.2.deep) (Dp.step rfl);rw[ww]at h⊢
 by_cases c1:x.2.isAt T [[63]]=true
 ·rw[if_pos c1]at h⊢;dsimp only at h⊢;have d4:Dp x.2.deep ((((E ((x.2.step T).lines T)).2.lines T).expect T [58]).lines T):=(((hDE _ _ d3).lines).expect _).lines;have d4':((((E ((x.2.step T).lines T)).2.lines T).expect T [58]).lines T).deep=x.2.deep:=d4;obtain⟨r1,r2⟩:=hE _ (by omega) h;obtain⟨r3,r4⟩:=(Lt.lines.trans (Lt.expect W _)).trans Lt.lines r1;obtain⟨r5,r6⟩:=hE _ (by omega) r3;obtain⟨r7,r8⟩:=(Lt.at1 W c1).trans Lt.lines r5;obtain⟨r9,r10⟩:=g r7;exact⟨r9,by rw[nodeM,aW,aj,aj,aj,aB];omega⟩
 rw[if_neg c1]at h⊢
 by_cases c2:x.1.isPlace=true∧(x.2.cur T).k=8∧(x.2.cur T).t∈assignOps
 ·rw[if_pos c2]at h⊢;obtain⟨r1,r2⟩:=hE _ (by omega) h;obtain⟨r3,r4⟩:=(Lt.step1 W (by omega)).trans Lt.lines r1;obtain⟨r5,r6⟩:=g r3;exact⟨r5,by dsimp only;rw[aW,aj,aj,aB];omega⟩
 ·rw[if_neg c2]at h⊢;exact g h
structure BLv(T:List Tokn)(n:Nat):Prop where
 expr:BE T n (lev T n).expr
 unary:BE T n (lev T n).unary
 post:BE T n (lev T n).post
 prim:BE T n (lev T n).prim
theorem bls(W:fE T):∀n,0<n→BLv T n
 |0,h=>absurd h (Nat.lt_irrefl _)
 |n+1,_=>by
   have S:0<n→BLv T n:=bls W n;obtain⟨k1,k2,k3,k4⟩:=l9 T n;obtain⟨d1,d2,d3,d4⟩:=lW T n;have ke:KF (lev T (n+1)).expr:=(l9 T (n+1)).1;have de:DK (lev T (n+1)).expr:=(lW T (n+1)).1;have e:BE T (n+1) (lev T (n+1)).expr:=by rw[nR];exact O5 W k1 d1 (fun p=>(S p).expr) k2 d2 (fun p=>(S p).unary)
   have r:BE T (n+1) (lev T (n+1)).prim:=by rw[nT];exact fun s hd=>Qc W ke k3 k4 de e (fun p=>(S p).post) (fun p=>(S p).prim) s hd
   have kr:KF (lev T (n+1)).prim:=(l9 T (n+1)).2.2.2;have p:BE T (n+1) (lev T (n+1)).post:=by rw[nS];exact fun s hd=>Qa W kr r s hd
   exact⟨e,by rw[kJ];exact fun s hd=>Oe W k2 (fun p=>(S p).unary) p s hd,p,r⟩
end
section
open Mir
variable{T:List Tokn}{m c d:Nat}{s s' s'':PS}{E P R U M S:PF}
def BS(T:List Tokn)(m:Nat)(M:PF):Prop:=∀s,s.deep+m=51→Bd 4 s (M s)
theorem Na(W:fE T)(hk:KF E)(hD:DK E)(hE:BE T m E):∀(K:Nat) (l:List Tree) (s:PS),s.deep+m=51→Bl (cO l) 0 s (outN T E K l s)
 |0,_,_,_=>fun h=>⟨h,Nat.le_refl _⟩
 |K+1,l,s,hd=>fun h=>by
   rw[FT]at h⊢;split at h
   ·rename_i c;rw[if_pos c];have e1:(E (if l=[]then s else(s.expect T [44]).lines T)).2.err=0:=back (fun q=>q.outN _ _) h;have d1:Dp s.deep (if l=[]then s else(s.expect T [44]).lines T):=Dp.iteS rfl ((Dp.expect (T:=T) rfl _).lines);have d2:=hD _ _ d1;have d1':(if l=[]then s else(s.expect T [44]).lines T).deep=s.deep:=d1;have d2':(E (if l=[]then s else(s.expect T [44]).lines T)).2.deep=s.deep:=d2;obtain⟨r1,r2⟩:=Na W hk hD hE K _ _ (by omega) h;obtain⟨r5,r6⟩:=hE _ (by omega) r1;obtain⟨r7,r8⟩:=(Lt.ite Lt.refl ((Lt.expect W _).trans Lt.lines |>.le (by omega)):Lt 0 s (if l=[]then s else(s.expect T [44]).lines T)) r5;rw[je,aj,aB]at r2;exact⟨r7,by omega⟩
   ·rename_i c;rw[if_neg c];exact⟨h,Nat.le_refl _⟩
theorem IW(W:fE T)(hk:KF E)(hD:DK E)(hE:BE T m E)(s:PS)(hd:s.deep+m=51):Bl 0 0 s (outArgs T E s):=fun h=>by
 unfold outArgs at h⊢;have d1:(s.step T).deep=s.deep:=Dp.step (f:=s.deep) rfl;split at h
 ·rename_i c;rw[if_pos c];obtain⟨r1,r2⟩:=Bi W hk hD hE _ _ (by omega) h;obtain⟨r3,r4⟩:=Lt.step0 r1;exact⟨r3,by omega⟩
 ·rename_i c;rw[if_neg c];have:=Na W hk hD hE _ _ _ hd h;rwa[aB]at this
theorem IY(W:fE T)(hkE:KF E)(hDE:DK E)(hE:BE T m E)(hkU:KF U)(hDU:DK U)(hU:BE T m U)(op:Txt)(s:PS)(hd:s.deep+m=51)(h:(outputM T E U op s).2.err=0):
  s.err=0∧tsz (outputM T E U op s).1+16*s.i≤3+16*(outputM T E U op s).2.i:=by
 rw[jH]at h⊢;dsimp only at h⊢;have d0:=(Dp.outArgs (T:=T) (f:=s.deep) (s:={s with flat:=true}) rfl hDE);have a:=IW W hkE hDE hE {s with flat:=true} hd;have e3:(outTo T (aX T U) (outArgs T E {s with flat:=true}).2).2.err=0∧(outEnd T op (outArgs T E {s with flat:=true}).1 (outTo T (aX T U) (outArgs T E {s with flat:=true}).2).2).i=(outTo T (aX T U) (outArgs T E {s with flat:=true}).2).2.i:=by
  unfold outEnd at h⊢;split at h
  ·exact absurd h (gY _)
  ·rename_i c;rw[if_neg c];exact⟨h,rfl⟩
 rw[e3.2];have e2:=e3.1;clear e3 h;generalize outArgs T E {s with flat:=true}=x at e2 a d0;have hc:=QC W hkU hDU hU;have d1:(x.2.step T).deep=s.deep:=Dp.step d0;have key:∀{w:Txt} {l:List Txt},x.2.isAt T l=true→(aX T U (x.2.step T)).2.err=0→s.err=0∧tsz (nodeM op (nodeM w [(aX T U (x.2.step T)).1]::x.1))+16*s.i≤3+16*(aX T U (x.2.step T)).2.i:=fun {w l} ha e=>by
  obtain⟨r1,r2⟩:=hc _ (by omega) e;obtain⟨r3,r4⟩:=Lt.at1 W ha r1;obtain⟨r5,r6⟩:=a r3;refine⟨r5,?_⟩;rw[nodeM,aW,aj,nodeM,aW,aj,aB];have:({s with flat:=true}:PS).i=s.i:=rfl;omega
 unfold outTo at e2⊢
 by_cases c1:x.2.isAt T [[62]]=true
 ·rw[if_pos c1]at e2⊢;exact key c1 e2
 rw[if_neg c1]at e2⊢
 by_cases c2:x.2.isAt T [[62,62]]=true
 ·rw[if_pos c2]at e2⊢;exact key c2 e2
 rw[if_neg c2]at e2⊢;obtain⟨r5,r6⟩:=a e2;refine⟨r5,?_⟩;rw[nodeM,aW,aj,nodeM,aW,aB];have:({s with flat:=true}:PS).i=s.i:=rfl;dsimp only;omega
theorem zD(W:fE T)(hkE:KF E)(hDE:DK E)(hE:BE T m E)(hkU:KF U)(hDU:DK U)(hU:BE T m U)(s:PS)(hd:s.deep+m=51):Bd 4 s (simpleM T E U s):=fun h=>by
 have d1:(s.step T).deep=s.deep:=Dp.step (f:=s.deep) rfl;unfold simpleM at h⊢;dsimp only at h⊢
 by_cases c1:(s.cur T).k≠7
 ·rw[if_pos c1]at h⊢;exact ig (hE _ hd) (by omega) h
 rw[if_neg c1]at h⊢;have k0:(s.cur T).k≠0:=by omega
 by_cases c2:(s.cur T).t=[98,114,101,97,107]∨(s.cur T).t=[99,111,110,116,105,110,117,101]∨(s.cur T).t=[110,101,120,116]
 ·rw[if_pos c2]at h⊢;obtain⟨r1,r2⟩:=tJ (o:=(s.cur T).t) (t:=[]) (a:=(s.cur T).a) W k0 h;exact⟨r1,by omega⟩
 rw[if_neg c2]at h⊢
 by_cases c3:(s.cur T).t=[101,120,105,116]∨(s.cur T).t=[114,101,116,117,114,110]
 ·rw[if_pos c3]at h⊢;split at h
  ·rename_i c;rw[if_pos c];obtain⟨r1,r2⟩:=tJ (o:=(s.cur T).t) (t:=[]) (a:=(s.cur T).a) W k0 h;exact⟨r1,by omega⟩
  ·rename_i c;rw[if_neg c];exact ig (Bd.from (Lt.step1 W k0) (hE _ (by omega)) (Nat.le_refl _)) (by omega) h
 rw[if_neg c3]at h⊢
 by_cases c4:(s.cur T).t=[100,101,108,101,116,101]
 ·rw[if_pos c4]at h⊢;have d2:(((s.step T).name T [5]).2.step T).deep=s.deep:=Dp.step (Dp.name d1 _);have l2:=(Lt.step1 W k0).trans (Lt.name W (ks:=[5]) (by simp));split at h
  ·rename_i c;rw[if_pos c];exact ig (c:=20) (ig (c:=24) (o:=[105,110,100,101,120]) (t:=((s.step T).name T [5]).1.t) (a:=((s.step T).name T [5]).1.a) (Bd.from (l2.trans Lt.step0) (kF W hE _ _ (by omega)) (by omega)) (by omega)) (by omega) h
  ·rename_i c;rw[if_neg c];obtain⟨r1,r2⟩:=l2 h;exact⟨r1,by rw[nodeM,aW,aj,aB,aN,aW,aB];dsimp only;omega⟩
 rw[if_neg c4]at h⊢
 by_cases c5:(s.cur T).t=[112,114,105,110,116]∨(s.cur T).t=[112,114,105,110,116,102]
 ·rw[if_pos c5]at h⊢;obtain⟨r1,r2⟩:=IY W hkE hDE hE hkU hDU hU _ _ (by omega) h;obtain⟨r3,r4⟩:=Lt.step1 W k0 r1;exact⟨r3,by omega⟩
 ·rw[if_neg c5]at h;exact absurd h (gY _)
theorem zX(hS:BS T m S):BS T m (bodyM T S):=fun s hd=>Bd.from Lt.lines (hS _ (by have:(s.lines T).deep=s.deep:=Dp.lines (f:=s.deep) rfl;omega)) (Nat.le_refl _)
theorem Hz(W:fE T)(hkE:KF E)(hDE:DK E)(hE:BE T m E)(hkS:KF S)(hDS:DK S)(hS:BS T m S)(s:PS)(hd:s.deep+m=51):Bd 4 s (choiceM T E S s):=fun h=>by
 have d0:(s.expect T [40]).deep=s.deep:=Dp.expect (f:=s.deep) rfl _;have d1:=Dp.insideM (T:=T) d0 hDE [41];have g1:=kF W hE [41] (s.expect T [40]) (by omega);have l0:=Lt.expect W (s:=s) [40];have hB:=zX hS;unfold choiceM at h⊢;generalize insideM T E [41] (s.expect T [40])=x at h d1 g1;dsimp only at h⊢;have d2:=d1.bodyM (T:=T) hDS;have g2:=hB x.2 (by have:x.2.deep=s.deep:=d1;omega);generalize bodyM T S x.2=y at h d2 g2;have d3:Dp s.deep (if(y.2.lines T).isAt T [[59]]=true then((y.2.lines T).step T).lines T else y.2.lines T):=Dp.iteS d2.lines.step.lines d2.lines;have l3:Lt 0 y.2 (if(y.2.lines T).isAt T [[59]]=true then((y.2.lines T).step T).lines T else y.2.lines T):=Lt.ite ((Lt.lines.trans Lt.step0).trans Lt.lines) Lt.lines;generalize (if(y.2.lines T).isAt T [[59]]=true then((y.2.lines T).step T).lines T else y.2.lines T)=z at h d3 l3;have d4:(z.step T).deep=s.deep:=d3.step;split at h
 ·rename_i c;rw[if_pos c];obtain⟨r1,r2⟩:=hB _ (by omega) h;obtain⟨r3,r4⟩:=Lt.at1 W c r1;obtain⟨r5,r6⟩:=l3 r3;obtain⟨r7,r8⟩:=g2 r5;obtain⟨r9,r10⟩:=g1 r7;obtain⟨r11,r12⟩:=l0 r9;exact⟨r11,by rw[nodeM,aW,aj,aj,aj,aB];dsimp only;omega⟩
 ·rename_i c;rw[if_neg c];have e3:z.err=0:=Classical.byContradiction fun w=>by
   dsimp only at h;rw[if_neg w]at h;exact w h
  obtain⟨r5,r6⟩:=l3 e3;obtain⟨r7,r8⟩:=g2 r5;obtain⟨r9,r10⟩:=g1 r7;obtain⟨r11,r12⟩:=l0 r9;refine⟨r11,?_⟩;dsimp only;rw[if_pos e3,nodeM,aW,aj,aj,aB];dsimp only;omega
theorem E8(hM:∀s,s.deep+m=51→Bd 4 s (M s))(e:Txt)(s:PS)(hd:s.deep+m=51)(h:(forA T M e s).2.err=0):s.err=0∧tsz (forA T M e s).1+16*s.i≤1+16*(forA T M e s).2.i:=by
 unfold forA at h⊢;split at h
 ·rename_i c;rw[if_pos c];exact⟨h,by rw[nodeM,aW,aB];dsimp only;omega⟩
 ·rename_i c;rw[if_neg c];obtain⟨r1,r2⟩:=hM _ hd h;exact⟨r1,by omega⟩
theorem BE.toS(hE:BE T m E):∀s,s.deep+m=51→Bd 4 s (E s):=fun s hd h=>by obtain⟨r1,r2⟩:=hE s hd h;exact⟨r1,by omega⟩
theorem PI(W:fE T)(hkE:KF E)(hDE:DK E)(hE:BE T m E)(hkU:KF U)(hDU:DK U)(hU:BE T m U)(hkS:KF S)(hDS:DK S)(hS:BS T m S)(s:PS)(hd:s.deep+m=51):Bd 4 s (loopM T E U S s):=fun h=>by
 have hB:=zX hS;have d0:Dp s.deep (s.expect T [40]):=Dp.expect rfl _;have l0:=Lt.expect W (s:=s) [40];have hs:=zD W hkE hDE hE hkU hDU hU;have ds:=oM (T:=T) hDE hDU;rw[nX]at h⊢;generalize s.expect T [40]=s1 at h d0 l0
 by_cases c:forIn T s1
 ·rw[if_pos c]at h⊢;dsimp only at h⊢;have d1:((PS.name T ((PS.name T s1 [5]).2.step T) [5]).2.step T).deep=s.deep:=((d0.name _).step.name _).step;obtain⟨r1,r2⟩:=hB _ (by omega) h;obtain⟨r3,r4⟩:=(((l0.trans (Lt.name W (ks:=[5]) (by simp))).trans Lt.step0).trans (Lt.name W (ks:=[5]) (by simp))).trans (Lt.step0 (T:=T)) r1;exact⟨r3,by rw[aN,aW,aj,aj,aB,aN,aW,aB];omega⟩
 ·rw[if_neg c]at h⊢;dsimp only at h⊢;have da:=d0.forA (T:=T) ds [59];have ga:=E8 (T:=T) hs [59] s1 (by have:s1.deep=s.deep:=d0;omega);generalize forA T (simpleM T E U) [59] s1=a at h da ga;have d2:=(da.expect (T:=T) [59]).lines (T:=T);have l2:=(Lt.expect W (s:=a.2) [59]).trans (Lt.lines (T:=T));generalize (a.2.expect T [59]).lines T=s2 at h d2 l2;have db:=d2.forA (T:=T) hDE [59];have gb:=E8 (T:=T) (BE.toS hE) [59] s2 (by have:s2.deep=s.deep:=d2;omega);generalize forA T E [59] s2=b at h db gb;have d3:=(db.expect (T:=T) [59]).lines (T:=T);have l3:=(Lt.expect W (s:=b.2) [59]).trans (Lt.lines (T:=T));generalize (b.2.expect T [59]).lines T=s3 at h d3 l3;have dc:=d3.forA (T:=T) ds [41];have gc:=E8 (T:=T) hs [41] s3 (by have:s3.deep=s.deep:=d3;omega);generalize forA T (simpleM T E U) [41] s3=cc at h dc gc;have d4:(cc.2.expect T [41]).deep=s.deep:=dc.expect _;obtain⟨r1,r2⟩:=hB _ (by omega) h;obtain⟨r3,r4⟩:=Lt.expect W _ r1;obtain⟨r5,r6⟩:=gc r3;obtain⟨r7,r8⟩:=l3 r5;obtain⟨r9,r10⟩:=gb r7;obtain⟨r11,r12⟩:=l2 r9;obtain⟨r13,r14⟩:=ga r11;obtain⟨r15,r16⟩:=l0 r13;exact⟨r15,by rw[nodeM,aW,aj,aj,aj,aj,aB];omega⟩
theorem Cf(W:fE T)(hkS:KF S)(hDS:DK S)(hS:BS T m S):∀(K:Nat) (l:List Tree) (s:PS),s.deep+m=51→Bl (cO l) 0 s (blockN T S K l s)
 |0,_,_,_=>fun h=>⟨h,Nat.le_refl _⟩
 |K+1,l,s,hd=>fun h=>by
   rw[vK]at h⊢;have d1:(s.skip T).deep=s.deep:=Dp.skip (f:=s.deep) rfl
   by_cases c:s.err=0
   ·rw[if_pos c]at h⊢
    by_cases c2:(s.skip T).isAt T [[125]]=true
    ·rw[if_pos c2]at h⊢;obtain⟨r1,r2⟩:=(Lt.skip.trans Lt.step0) h;exact⟨r1,by dsimp only;omega⟩
    ·rw[if_neg c2]at h⊢;have d2:=hDS.eq (s.skip T);obtain⟨r1,r2⟩:=Cf W hkS hDS hS K _ _ (by omega) h;obtain⟨r3,r4⟩:=hS _ (by omega) r1;obtain⟨r5,r6⟩:=Lt.skip r3;rw[je,aj,aB]at r2;exact⟨r5,by omega⟩
   ·rw[if_neg c]at h⊢;exact⟨h,Nat.le_refl _⟩
theorem Cc(W:fE T)(hkS:KF S)(hDS:DK S)(hS:BS T m S)(s:PS)(hd:s.deep+m=51):Bd 8 s (blockM T S s):=fun h=>by
 have d0:(s.expect T [123]).deep=s.deep:=Dp.expect (f:=s.deep) rfl _;unfold blockM at h⊢;dsimp only at h⊢;obtain⟨r1,r2⟩:=Cf W hkS hDS hS (T.length+1) [] (s.expect T [123]) (by omega) h;obtain⟨r3,r4⟩:=Lt.expect W _ r1;rw[aB]at r2;exact⟨r3,by rw[nodeM,aW];omega⟩
theorem Qv(W:fE T)(hkE:KF E)(hDE:DK E)(hE:0<m→BE T m E)(hkU:KF U)(hDU:DK U)(hU:0<m→BE T m U)(hkS:KF S)(hDS:DK S)(hS:0<m→BS T m S):BS T (m+1) (stmtM T E U S):=fun s hd h=>by
 rw[kX]at h⊢;replace h:(dF T E U S (s.down T)).2.err=0:=BP h
 show s.err=0∧tsz (dF T E U S (s.down T)).1+4+16*s.i≤16*(dF T E U S (s.down T)).2.i
 have e1:(s.down T).err=0:=back (fun k=>by
  unfold dF;simp only[k.at,if_false,Bool.false_eq_true];exact(k.simpleM hkE).fin) h
 have dp:=fJ e1;have pm:0<m:=by omega
 have hE:=hE pm;have hU:=hU pm;have hS:=hS pm;have d1:(s.down T).deep=s.deep+1:=Dp.down (f:=s.deep) rfl;have l0:=Lt.down (T:=T) (s:=s);generalize s.down T=t at h d1 l0;have key:Bd 4 t (dF T E U S t)→s.err=0∧tsz (dF T E U S t).1+4+16*s.i≤16*(dF T E U S t).2.i:=fun b=>Bd.from l0 b (Nat.le_refl _) h;refine key fun h=>?_;clear key l0;have d2:(t.step T).deep=t.deep:=Dp.step (f:=t.deep) rfl;unfold dF at h⊢
 by_cases c1:t.isAt T [[123]]=true
 ·rw[if_pos c1]at h⊢;obtain⟨r1,r2⟩:=Cc W hkS hDS hS t (by omega) h;exact⟨r1,by omega⟩
 rw[if_neg c1]at h⊢
 by_cases c2:t.isAt T [[59]]=true
 ·rw[if_pos c2]at h⊢;obtain⟨r1,r2⟩:=Lt.at1 W c2 h;exact⟨r1,by rw[nodeM,aW,aB];dsimp only;omega⟩
 rw[if_neg c2]at h⊢
 by_cases c3:t.isAt T [[105,102]]=true
 ·rw[if_pos c3]at h⊢;exact Bd.from Lt.step0 (Hz W hkE hDE hE hkS hDS hS _ (by omega)) (Nat.le_refl _) h
 rw[if_neg c3]at h⊢
 by_cases c4:t.isAt T [[119,104,105,108,101]]=true
 ·rw[if_pos c4]at h⊢;dsimp only at h⊢;have d3:((t.step T).expect T [40]).deep=t.deep:=Dp.expect d2 _;have d4:=Dp.insideM (T:=T) d3 hDE [41];have d4':(insideM T E [41] ((t.step T).expect T [40])).2.deep=t.deep:=d4;obtain⟨r1,r2⟩:=zX hS _ (by omega) h;obtain⟨r3,r4⟩:=kF W hE _ _ (by omega) r1;obtain⟨r5,r6⟩:=(Lt.step0.trans (Lt.expect W _)) r3;exact⟨r5,by rw[nodeM,aW,aj,aj,aB];omega⟩
 rw[if_neg c4]at h⊢
 by_cases c5:t.isAt T [[102,111,114]]=true
 ·rw[if_pos c5]at h⊢;exact Bd.from Lt.step0 (PI W hkE hDE hE hkU hDU hU hkS hDS hS _ (by omega)) (Nat.le_refl _) h
 rw[if_neg c5]at h⊢;have lf:Lt 0 (simpleM T E U t).2 ((simpleM T E U t).2.fin T):=by
  unfold PS.fin;exact Lt.ite Lt.step0 (Lt.ite Lt.refl (Lt.ite Lt.step0 (Lt.fail _)))
 obtain⟨r1,r2⟩:=lf h;obtain⟨r3,r4⟩:=zD W hkE hDE hE hkU hDU hU _ (by omega) r1;exact⟨r3,by dsimp only;omega⟩
theorem bst(W:fE T):∀n,0<n→BS T n (stL T n)
 |0,h=>absurd h (Nat.lt_irrefl _)
 |n+1,_=>by
   obtain⟨k1,k2,_,_⟩:=l9 T n;obtain⟨d1,d2,_,_⟩:=lW T n;rw[stL];exact Qv W k1 d1 (fun p=>(bls W n p).expr) k2 d2 (fun p=>(bls W n p).unary) (DN T n) (yO T n) (bst W n)
theorem Nk(W:fE T):∀(K:Nat) (l:List Tree) (s:PS),Bl (cO l) 0 s (parN T K l s)
 |0,_,_=>fun h=>⟨h,Nat.le_refl _⟩
 |K+1,l,s=>fun h=>by
   rw[FU]at h⊢;split at h
   ·rename_i c;rw[if_pos c];obtain⟨r1,r2⟩:=Nk W K _ _ h;obtain⟨r3,r4⟩:=Lt.lines r1;obtain⟨r5,r6⟩:=(Lt.name W (ks:=[5]) (by simp)) r3;obtain⟨r7,r8⟩:=(Lt.ite Lt.refl ((Lt.expect W _).trans Lt.lines |>.le (by omega)):Lt 0 s (if l=[]then s else(s.expect T [44]).lines T)) r5;rw[je,aj,aB,aN,aW,aB]at r2;exact⟨r7,by unfold aN;omega⟩
   ·rename_i c;rw[if_neg c];exact⟨h,Nat.le_refl _⟩
theorem Po(W:fE T)(s:PS)(hd:s.deep=0):Bd 1 s (itemM T s):=fun h=>by
 have hS:=bst W 51 (by decide);have kS:=DN T 51;have dS:=yO T 51;have B:=Cc W kS dS hS;have hE:=(bls W 51 (by decide)).expr;have kE:=(l9 T 51).1;have dE:=(lW T 51).1;have d1:(s.step T).deep=s.deep:=Dp.step (f:=s.deep) rfl;rw[rQ]at h⊢;unfold pX at h⊢
 by_cases c1:s.isAt T [[66,69,71,73,78]]=true
 ·rw[if_pos c1]at h⊢;exact ig (Bd.from (Lt.at1 W c1) (B _ (by omega)) (Nat.le_refl _)) (by omega) h
 rw[if_neg c1]at h⊢
 by_cases c2:s.isAt T [[69,78,68]]=true
 ·rw[if_pos c2]at h⊢;exact ig (Bd.from (Lt.at1 W c2) (B _ (by omega)) (Nat.le_refl _)) (by omega) h
 rw[if_neg c2]at h⊢
 by_cases c3:s.isAt T [[102,117,110,99,116,105,111,110]]=true
 ·rw[if_pos c3]at h⊢;dsimp only at h⊢;have d2:Dp s.deep ((s.step T).name T [5,6]).2:=Dp.name d1 _;have l2:=(Lt.at1 W c3).trans (Lt.name W (ks:=[5,6]) (by simp));generalize (s.step T).name T [5,6]=x at h d2 l2;have d3:=Dp.parN (T:=T) (T.length+1) (l:=[]) ((d2.expect (T:=T) [40]).lines (T:=T));have g3:=Nk W (T.length+1) [] ((x.2.expect T [40]).lines T);generalize parN T (T.length+1) [] ((x.2.expect T [40]).lines T)=y at h d3 g3;have d4:((y.2.expect T [41]).lines T).deep=s.deep:=(d3.expect _).lines;obtain⟨r1,r2⟩:=B _ (by omega) h;obtain⟨r3,r4⟩:=(Lt.expect W _).trans Lt.lines r1;obtain⟨r5,r6⟩:=g3 r3;obtain⟨r7,r8⟩:=(Lt.expect W _).trans Lt.lines r5;obtain⟨r9,r10⟩:=l2 r7;rw[aB]at r6;exact⟨r9,by rw[aN,aW,je,aj,aB];omega⟩
 rw[if_neg c3]at h⊢
 by_cases c4:s.isAt T [[123]]=true
 ·rw[if_pos c4]at h⊢;obtain⟨r1,r2⟩:=B _ (by omega) h;exact⟨r1,by dsimp only;rw[nodeM,aW,aj,aj,aB,nodeM,aW,aB];omega⟩
 rw[if_neg c4]at h⊢;have dx:=dE.eq s;have gx:=hE s (by omega);generalize (lev T 51).expr s=x at h dx gx
 by_cases c5:x.2.isAt T [[123]]=true
 ·rw[if_pos c5]at h⊢;obtain⟨r1,r2⟩:=B x.2 (by omega) h;obtain⟨r3,r4⟩:=gx r1;exact⟨r3,by dsimp only;rw[nodeM,aW,aj,aj,aB];omega⟩
 ·rw[if_neg c5]at h⊢;dsimp only at h⊢;split at h
  ·exact absurd h (gY _)
  ·rename_i cz;rw[if_neg cz];obtain⟨r3,r4⟩:=gx h;exact⟨r3,by rw[nodeM,aW,aj,aj,aB,nodeM,aW,aB];omega⟩
theorem DF(W:fE T):∀(K:Nat) (l:List Tree) (s:PS),s.deep=0→Bl (cO l) 0 s (itemsN T K l s)
 |0,_,_,_=>fun h=>⟨h,Nat.le_refl _⟩
 |K+1,l,s,hd=>fun h=>by
   rw[DJ]at h⊢;have d1:(s.skip T).deep=0:=Dp.skip hd
   by_cases c:s.err=0
   ·rw[if_pos c]at h⊢
    by_cases c2:((s.skip T).cur T).k=0
    ·rw[if_pos c2]at h⊢;obtain⟨r1,r2⟩:=Lt.skip h;exact⟨r1,by dsimp only;omega⟩
    ·rw[if_neg c2]at h⊢;have d2:(itemM T (s.skip T)).2.deep=0:=Dp.itemM d1;obtain⟨r1,r2⟩:=DF W K _ _ d2 h;obtain⟨r3,r4⟩:=Po W _ d1 r1;obtain⟨r5,r6⟩:=Lt.skip r3;rw[je,aj,aB]at r2;exact⟨r5,by omega⟩
   ·rw[if_neg c]at h⊢;exact⟨h,Nat.le_refl _⟩
end
section
open Mir
variable{h g:H}{p q:Nat}{Q:V→H→Prop}{m:Int}{F:List RFn}{items:List Tree}
theorem uG{src:Txt}{t:Tree}(hs:src.length≤4000)(h:dN src=.inl t):∃items,t=nodeM [112,114,111,103,114,97,109] items∧(∀i∈items,IsI i)∧cO items≤16*src.length+16:=by
 unfold dN at h;split at h
 ·cases h
 ·rename_i T l;obtain⟨W,tpos,tlen⟩:=Bh hs l;obtain⟨_,hb,_⟩:=FK _ 0 [] T (Nat.zero_le _) (Nat.le_refl _) (fun t ht=>by cases ht) l;have V:=PH l;obtain⟨items,h1,h2⟩:=Np V h;refine⟨items,h2,h1,?_⟩;have f:=qA W (wQ W) (T.length+1) (l:=[]) (s:=ps0) ⟨tpos,.inl rfl,Nat.zero_le _,fun _=>Nat.zero_le _⟩ ⟨fun _=>rfl,Nat.zero_le _⟩;have hm:nY T=if(itemsN T (T.length+1) [] ps0).2.err≠0 then .inr ((itemsN T (T.length+1) [] ps0).2.bad,(itemsN T (T.length+1) [] ps0).2.err)else .inl (nodeM [112,114,111,103,114,97,109] (itemsN T (T.length+1) [] ps0).1):=rfl
  rw[hm]at h;split at h
  ·cases h
  ·rename_i c;have e:(itemsN T (T.length+1) [] ps0).1=items:=by
    have:=Sum.inl.inj h;rw[h2]at this;unfold nodeM at this;injection this
   obtain⟨_,b⟩:=DF W.last (T.length+1) [] ps0 rfl (Classical.not_not.1 c);rw[e,aB]at b;have:=f.ok.lt;omega
theorem IsI.kids_ne{i:Tree}(h:IsI i)(o:i.op=[102,117,110,99]):i.kids≠[]:=by
 cases h with
 |begin q=>simp only[nodeM,Tree.op]at o;subst o;exact absurd q (by decide)
 |func=>simp[Tree.kids]
 |always=>exact absurd o (by simp[nodeM,Tree.op])
 |rule=>exact absurd o (by simp[nodeM,Tree.op])
 |default=>exact absurd o (by simp[nodeM,Tree.op])
def fP(F:List RFn)(items:List Tree):Nat→List Sym→List Sym
 |0,l=>l
 |n+1,l=>fP F items n (pass F items (l,false)).1
theorem rW:∀(n:Nat) (l:List Sym),(∀s∈l,ArrS F items s)→∀s∈fP F items n l,ArrS F items s
 |0,_,h=>h
 |n+1,l,h=>rW n _ (xA h)
theorem zf{n:Nat}(h:pass F items (fP F items n [],false)=(fP F items n [],false))(s:Sym):s∈fP F items n []↔ArrS F items s:=
 ⟨rW n [] (by simp) s,fun z=>uI h z⟩
theorem dW{A B:List Sym}(h:∀s,s∈A↔s∈B):aJ (fun s=>decide (s∈A)) items=aJ (fun s=>decide (s∈B)) items:=by
 congr 1;funext s;exact decide_eq_decide.2 (h s)
theorem words_R:Words (hR m):=⟨⟨rfl,rfl⟩,⟨rfl,rfl⟩,rfl,rfl⟩
theorem _root_.Mir.Sub.add'{h h':H}(s:Sub h h'){b:Nat}(hb:h' b=none){o:AObj}:Sub h (hadd h' b o):=s.put (s.none hb)
theorem QK{src:Txt}(hs:Sub (hR m) h)(hl:src.length≤4000)(hp:dN src=.inl (nodeM [112,114,111,103,114,97,109] items))
  (hq1:∀(A:List Sym) (h':H),(∀s,s∈A↔ArrS (ai items) items s)→Sub h h'→(aJ (fun s=>decide (s∈A)) items).err≠0→Q (.tup [.nilptr,.int .i64 (aJ (fun s=>decide (s∈A)) items).bad,.int .i64 (aJ (fun s=>decide (s∈A)) items).err]) h')
  (hq2:∀(A:List Sym) (h':H) (ib q':Nat),(∀s,s∈A↔ArrS (ai items) items s)→Sub h h'→(aJ (fun s=>decide (s∈A)) items).err=0→InfoV h' ib q' A (ai items) (aJ (fun s=>decide (s∈A)) items).order→Q (.tup [.ptr ib 0,.int .i64 0,.int .i64 0]) h'):
  AC pg (.fn 20) [.str src] h Q:=by
 obtain⟨items',e,hI,hsz⟩:=uG hl hp;obtain rfl:items=items':=by unfold nodeM at e;injection e
 refine AC.fn' (g:=g20) rfl (by simp only[List.length_cons,List.length_nil,g20];decide) ?_;simp only[g20,Mir.Ab.all];refine W0 ?_;refine BU (words_R.sub hs) (mm:=m) (hs _ _ rfl) hl (fun a e h1 hp1 s1=>by rw[hp]at hp1;cases hp1) fun t v p h1 hp1 s1 hv=>?_;rw[hp]at hp1;obtain rfl:=Sum.inl.inj hp1;obtain⟨kv,rfl,kb⟩:=hv.inv;have kf:=kb.flat;refine W1 kf ?_;intro b hb;have kb2:KidsV (fun _=>none) h1 p items kv:=KidsV.move (fun c o _ _ hc=>⟨rfl,hc⟩) kb;have s2:=s1.add' (o:=.cells [.str (nodeM [112,114,111,103,114,97,109] items).op,.str (nodeM [112,114,111,103,114,97,109] items).text,.int .i64 (nodeM [112,114,111,103,114,97,109] items).at',kv] false) hb;have kb3:=kb2.mono (aG (o:=.cells [.str (nodeM [112,114,111,103,114,97,109] items).op,.str (nodeM [112,114,111,103,114,97,109] items).text,.int .i64 (nodeM [112,114,111,103,114,97,109] items).at',kv] false) hb);have c1:hadd h1 b (.cells [.str (nodeM [112,114,111,103,114,97,109] items).op,.str (nodeM [112,114,111,103,114,97,109] items).text,.int .i64 (nodeM [112,114,111,103,114,97,109] items).at',kv] false) b=_:=ah;refine W1 kf ?_;generalize hadd h1 b _=g1 at s2 kb3 c1⊢;have eo:(nodeM [112,114,111,103,114,97,109] items).op=[112,114,111,103,114,97,109]:=rfl;refine W3 c1 eo kf ?_;refine lM (.inl kb3) (by omega) (fun i hi c=>(hI i hi).kids_ne c) ⟨s2 _ _ (hs _ _ rfl),s2 _ _ (hs _ _ rfl)⟩ (fun A h2 hA s3 he=>?_) (fun A h2 ib q' hA s3 he I=>?_)
 ·refine W0 ?_;exact⟨_,Sub.refl,hq1 A _ hA (fun x o hx=>s3 _ _ (s2 _ _ hx)) he⟩
 ·refine W0 ?_;exact⟨_,Sub.refl,hq2 A _ ib q' hA (fun x o hx=>s3 _ _ (s2 _ _ hx)) he I⟩
end
section
open Mir
variable{h g:H}{p q:Nat}{Q:V→H→Prop}{m:Int}{F:List RFn}{items:List Tree}
def BG:Txt:=[102,117,110,99,116,105,111,110,32,102,40,97,41,123,97,91,49,93,61,49,125,32,66,69,71,73,78,123,102,40,120,41,59,112,114,105,110,116,32,120,91,49,93,125]
def BH:Txt:=[102,117,110,99,116,105,111,110,32,102,40,97,41,123,97,91,49,93,61,49,125,32,66,69,71,73,78,123,102,40,120,41,59,112,114,105,110,116,32,120,125]
def Be:Tree→Bool
 |.nd o t a _=>decide (o=[112,114,111,103,114,97,109])&&decide (t=[])&&decide (a=0)
theorem yV{t:Tree}(h:Be t=true):t=nodeM [112,114,111,103,114,97,109] t.kids:=by
 obtain⟨o,x,a,l⟩:=t;unfold Be at h;simp only[Bool.and_eq_true,decide_eq_true_eq]at h;obtain⟨⟨rfl,rfl⟩,rfl⟩:=h;rfl
def Ug:Tree ⊕ (Nat × Nat)→Bool
 |.inr _=>false
 | .inl t=>Be t&&decide (pass (ai t.kids) t.kids (fP (ai t.kids) t.kids 3 [],false)=(fP (ai t.kids) t.kids 3 [],false))
   && decide ((aJ (fun s=>decide (s∈fP (ai t.kids) t.kids 3 [])) t.kids).err=0)&&decide ((aJ (fun s=>decide (s∈fP (ai t.kids) t.kids 3 [])) t.kids).order=[[120]])
   && decide ((ai t.kids).map RFn.ps=[[[97]]])&&decide ((some 0,[97])∈fP (ai t.kids) t.kids 3 [])&&decide ((none,[120])∈fP (ai t.kids) t.kids 3 [])
def Uh:Tree ⊕ (Nat × Nat)→Bool
 |.inr _=>false
 | .inl t=>Be t&&decide (pass (ai t.kids) t.kids (fP (ai t.kids) t.kids 3 [],false)=(fP (ai t.kids) t.kids 3 [],false))
   && decide ((aJ (fun s=>decide (s∈fP (ai t.kids) t.kids 3 [])) t.kids).err=11)&&decide ((aJ (fun s=>decide (s∈fP (ai t.kids) t.kids 3 [])) t.kids).bad=39)
theorem Ue:∃(l:List Tree) (L:List Sym),dN BG=.inl (nodeM [112,114,111,103,114,97,109] l)∧(∀s,s∈L↔ArrS (ai l) l s)∧(aJ (fun s=>decide (s∈L)) l).err=0∧(aJ (fun s=>decide (s∈L)) l).order=[[120]]∧(ai l).map RFn.ps=[[[97]]]∧(some 0,[97])∈L∧(none,[120])∈L:=by
 have e:Ug (dN BG)=true:=by decide +kernel
 generalize dN BG=r at e;cases r with
 |inr x=>cases e
 |inl t =>
   unfold Ug at e;simp only[Bool.and_eq_true,decide_eq_true_eq]at e;obtain⟨⟨⟨⟨⟨⟨e1,e2⟩,e3⟩,e4⟩,e5⟩,e6⟩,e7⟩:=e;exact⟨t.kids,_,congrArg Sum.inl (yV e1),zf e2,e3,e4,e5,e6,e7⟩
theorem Uf:∃(l:List Tree) (L:List Sym),dN BH=.inl (nodeM [112,114,111,103,114,97,109] l)∧(∀s,s∈L↔ArrS (ai l) l s)∧(aJ (fun s=>decide (s∈L)) l).err=11∧(aJ (fun s=>decide (s∈L)) l).bad=39:=by
 have e:Uh (dN BH)=true:=by decide +kernel
 generalize dN BH=r at e;cases r with
 |inr x=>cases e
 |inl t =>
   unfold Uh at e;simp only[Bool.and_eq_true,decide_eq_true_eq]at e;obtain⟨⟨⟨e1,e2⟩,e3⟩,e4⟩:=e;exact⟨t.kids,_,congrArg Sum.inl (yV e1),zf e2,e3,e4⟩
theorem qh(hs:Sub (hR m) h)(hq:∀h',Sub h h'→Q (.bool true) h'):AC pg (.fn 15) [] h Q:=by
 obtain⟨l1,L1,p1,m1,e1,o1,f1,x1,y1⟩:=Ue;obtain⟨l2,L2,p2,m2,e2,b2⟩:=Uf;refine AC.fn' (g:=g15) rfl (by simp only[List.length_cons,List.length_nil,g15];decide) ?_;simp only[g15,Mir.Ab.all];refine W0 ?_;refine QK (src:=BG) hs (by decide) p1 (fun A h1 hA s1 he=>absurd he (by rw[dW (B:=L1) fun s=>(hA s).trans (m1 s).symm,e1];simp)) (fun A h1 ib q1 hA s1 he I=>?_);have hAL:∀s,s∈A↔s∈L1:=fun s=>(hA s).trans (m1 s).symm;rw[dW hAL,o1]at I;obtain⟨fb,rows,gv,av,i1,i2,i3,i4,i5⟩:=I.obj;have hF:(ai l1).length=1:=by have:=congrArg List.length f1;simpa using this
 have hne:ai l1≠[]:=fun e=>by rw[e]at hF;cases hF
 rw[if_neg hne,hF]at i1;have i2:=i2 hne;refine W0 ?_;have sR:Sub (hR m) h1:=fun x o hx=>s1 _ _ (hs _ _ hx);refine QK (src:=BH) sR (by decide) p2 (fun A' h2 hA' s2 he=>?_) (fun A' h2 ib' q2 hA' s2 he I=>absurd he (by rw[dW (B:=L2) fun s=>(hA' s).trans (m2 s).symm,e2];decide));rw[dW (B:=L2) fun s=>(hA' s).trans (m2 s).symm,e2,b2];have j1:=s2 _ _ i1;have j2:=s2 _ _ i2;have hrl:rows.length=1:=by have:=congrArg List.length i3.fs;rw[List.length_map,hF]at this;exact this
 have hps:rows[0].f.ps=[[97]]:=by
  have h1:rows[0].f=(ai l1)[0]:=by have:=i3.fs;simp[← this]
  have h2:(ai l1)[0].ps=[[97]]:=by
   have:=congrArg (fun l=>l[0]?) f1;simp only[List.getElem?_map,List.getElem?_eq_getElem (show 0<(ai l1).length by omega),Option.map_some,List.getElem?_cons_zero,Option.some.injEq]at this;exact this
  rw[h1,h2]
 have av0:=i3.done 0 (by omega) (by omega);rw[hps]at av0;have hcs:rowsC rows=rows[0].cs:=by
  have:=pz (l:=rows) (i:=0) (by omega);rw[Nat.zero_mul,List.drop_zero,List.take_of_length_le (by rw[tZ];omega)]at this;exact this
 rw[hcs]at j2;unfold FRow.cs at j2;rcases av0 with⟨e,_⟩|⟨ab,_,eav,cav⟩
 ·cases e
 rcases i4 with⟨e,_⟩|⟨gb,_,_,_,egv,cgv⟩
 ·cases e
 rcases i5 with⟨e,_⟩|⟨bb,_,ebv,cbv⟩
 ·cases e
 have d1:decide ((some 0,[97])∈A)=true:=decide_eq_true ((hAL _).2 x1);have d2:decide ((none,[120])∈A)=true:=decide_eq_true ((hAL _).2 y1);have k1:=s2 _ _ cav;have k2:=s2 _ _ cgv;have k3:=s2 _ _ cbv;simp only[List.map_cons,List.map_nil,List.length_cons,List.length_nil,d1,d2]at k1 k2 k3 eav egv ebv;rw[eav]at j2;rw[egv,ebv]at j1;refine W5 j1 j2 k1 k2 k3 ?_;exact⟨_,Sub.refl,hq _ fun x o hx=>s2 _ _ (s1 _ _ hx)⟩
end
section
open Mir
variable{h g:H}{p q:Nat}{Q:V→H→Prop}{m:Int}{F:List RFn}{items:List Tree}
theorem Ob{l:List Txt}{v w:V}(k1:PsV (fun _=>none) h p l v)(k2:PsV (fun _=>none) h q l w)(hl:l.length≤100000)(hq:Q (.bool true) h):AC pg (.fn 18) [v,w] h Q:=by
 have l1:=k1.ll;have l2:=k2.ll;refine AC.fn' (g:=g18) rfl (by simp only[List.length_cons,List.length_nil,g18];decide) ?_;simp only[g18,Mir.Ab.all];refine W2 l1 l2 ?_;refine E.loopX AC.mono (fun(i:Nat) a' h'=>i≤l.length∧h'=h∧a'.d=[]∧a'.t 0=v∧a'.t 1=w∧a'.t 12=.int .i64 l.length∧a'.t 13=.int .i64 i) (fun i=>l.length-i) 0 ?_ ?_
 ·exact⟨Nat.zero_le _,rfl,rfl,rfl,rfl,rfl,rfl⟩
 ·rintro i ⟨ta,ds⟩ h4 ⟨hi,rfl,hd,t0,t1,t12,t13⟩;dsimp only at hd t0 t1 t12 t13;subst hd
  by_cases ci:i<l.length
  ·rcases k1 with⟨e,_⟩|⟨b,_,_,_,rfl,c1⟩
   ·rw[e]at ci;cases ci
   rcases k2 with⟨e,_⟩|⟨b',_,_,_,rfl,c2⟩
   ·rw[e]at ci;cases ci
   have p1:(List.map V.str l)[i]?=some (V.str l[i]):=by rw[List.getElem?_map,List.getElem?_eq_getElem ci];rfl
   refine W7 t0 t1 t12 t13 c1 c2 p1 ?_;exact⟨i+1,by omega,ci,by simp⟩
  ·have:i=l.length:=by omega
   subst this;refine W4 t0 t1 t12 t13 ?_;exact⟨_,Sub.refl,hq⟩
theorem JE{l:List Bool}{v w:V}(k1:BoolsV h l v)(k2:BoolsV h l w)(hl:l.length≤100000)(hq:Q (.bool true) h):AC pg (.fn 19) [v,w] h Q:=by
 have lb:∀{v:V},BoolsV h l v→llE v=some (.int .i64 l.length):=fun k=>by
  rcases k with⟨rfl,rfl⟩|⟨b,_,rfl,_⟩
  ·rfl
  ·rw[GR]
 have l1:=lb k1;have l2:=lb k2;refine AC.fn' (g:=g19) rfl (by simp only[List.length_cons,List.length_nil,g19];decide) ?_;simp only[g19,Mir.Ab.all];refine W2 l1 l2 ?_;refine E.loopX AC.mono (fun(i:Nat) a' h'=>i≤l.length∧h'=h∧a'.d=[]∧a'.t 0=v∧a'.t 1=w∧a'.t 12=.int .i64 l.length∧a'.t 13=.int .i64 i) (fun i=>l.length-i) 0 ?_ ?_
 ·exact⟨Nat.zero_le _,rfl,rfl,rfl,rfl,rfl,rfl⟩
 ·rintro i ⟨ta,ds⟩ h4 ⟨hi,rfl,hd,t0,t1,t12,t13⟩;dsimp only at hd t0 t1 t12 t13;subst hd
  by_cases ci:i<l.length
  ·rcases k1 with⟨e,_⟩|⟨b,_,rfl,c1⟩
   ·rw[e]at ci;cases ci
   rcases k2 with⟨e,_⟩|⟨b',_,rfl,c2⟩
   ·rw[e]at ci;cases ci
   have p1:(List.map V.bool l)[i]?=some (V.bool l[i]):=by rw[List.getElem?_map,List.getElem?_eq_getElem ci];rfl
   cases hb:l[i]with
   |false =>
     rw[hb]at p1;refine W7 t0 t1 t12 t13 c1 c2 p1 ?_;exact⟨i+1,by omega,ci,by simp⟩
   |true =>
     rw[hb]at p1;refine W7 t0 t1 t12 t13 c1 c2 p1 ?_;exact⟨i+1,by omega,ci,by simp⟩
  ·have:i=l.length:=by omega
   subst this;refine W4 t0 t1 t12 t13 ?_;exact⟨_,Sub.refl,hq⟩
theorem DY{items:List Tree}{i:Nat}(h:i<items.length):others (items.take (i+1))=others (items.take i)++(if(items.getD i .zero).op=[102,117,110,99]then []else [items.getD i .zero]):=by
 unfold others;rw[List.take_succ_eq_append_getElem h,List.filter_append,show items[i]=items.getD i .zero from by rw[List.getD_eq_getElem?_getD,List.getElem?_eq_getElem h];rfl];congr 1;generalize items.getD i .zero=t
 by_cases c:t.op=[102,117,110,99]
 ·rw[if_pos c,List.filter_cons,if_neg (by simp[c])];rfl
 ·rw[if_neg c,List.filter_cons,if_pos (by simp[c])];rfl
def RowM(g h:H)(p:Nat)(l:List Tree)(v:V):Prop:=
 (l=[]∧∃b,v=.sl b 0 4 0)∨∃b cs,l≠[]∧g b=none∧b≠p∧v=.sl b 0 4 l.length∧h b=some (.cells cs false)∧CellsV (fun _=>none) g p l cs
theorem RowM.flat{l:List Tree}{v:V}(k:RowM g h p l v):v.flat=true:=by
 rcases k with⟨_,b,rfl⟩|⟨b,cs,_,_,_,rfl,_⟩<;>rfl
theorem RowM.kids{h':H}{l:List Tree}{v:V}(k:RowM g h p l v)(s:Sub g h')(s2:Sub h h'):KidsW h' p l v:=by
 rcases k with⟨e,b,rfl⟩|⟨b,cs,h1,h2,h3,rfl,h5,h6⟩
 ·exact .inr ⟨e,b,rfl⟩
 ·exact .inl (.sl h1 rfl h3 (s2 _ _ h5) (h6.mono s))
theorem uP:∀(l:List Tree),cO (others l)≤cO l
 |[]=>Nat.le_refl _
 |k::l=>by
   have:=uP l;unfold others at this⊢;rw[List.filter_cons];split
   ·rw[aj,aj];omega
   ·rw[aj];omega
theorem Gh(s:Txt)(hq:∀h',Q (.bool true) h'):AC pg (.fn 4) [.str s] (hR m) Q:=by
 refine AC.fn' (g:=g4) rfl (by simp only[List.length_cons,List.length_nil,g4];decide) ?_;simp only[g4,Mir.Ab.all];refine W0 ?_;refine PE s 300 ?_;obtain⟨r,hr⟩:∃r,r=s.take 300:=⟨_,rfl⟩;have lr:r.length≤300:=by rw[hr,List.length_take];omega
 rw[← hr];refine W0 ?_;refine BU (words_R) (mm:=m) rfl (by omega) (fun a e h1 hp s1=>?_) fun t v p h1 hp s1 hv=>?_
 ·have e0:e≠0:=by have:=(D9 (by omega) hp).1;omega
  refine W0 ?_;intro b hb;refine W1 e0 ?_;refine qh (m:=m) (s1.add' hb) fun h2 s2=>?_;refine W0 ?_;exact⟨_,Sub.refl,hq _⟩
 ·obtain⟨items,rfl,hI,hsz⟩:=uG (by omega) hp;obtain⟨kv,rfl,kb⟩:=hv.inv;have kf:=kb.flat;have eo:(nodeM [112,114,111,103,114,97,109] items).op=[112,114,111,103,114,97,109]:=rfl;have et:(nodeM [112,114,111,103,114,97,109] items).text=[]:=rfl;have ea:((nodeM [112,114,111,103,114,97,109] items).at':Int)=0:=rfl;have kb2:KidsV (fun _=>none) h1 p items kv:=KidsV.move (fun c o _ _ hc=>⟨rfl,hc⟩) kb;rw[eo,et,ea];refine W1 kf ?_;intro b3 hb3;have s2:=aG (o:=AObj.cells [V.str [112,114,111,103,114,97,109],V.str [],V.int .i64 0,kv] false) hb3;have c3:hadd h1 b3 (AObj.cells [V.str [112,114,111,103,114,97,109],V.str [],V.int .i64 0,kv] false) b3=_:=ah;have kb3:=kb2.mono s2;have sR:Sub (hR m) (hadd h1 b3 (AObj.cells [V.str [112,114,111,103,114,97,109],V.str [],V.int .i64 0,kv] false)):=fun x o hx=>s2 _ _ (s1 _ _ hx);refine W1 kf ?_;generalize hadd h1 b3 _=g1 at s2 c3 kb3 sR⊢;refine W0 ?_;intro b26 hb26;have s26:=aG (o:=AObj.cells [] false) hb26;have k3:=s26 _ _ c3;have k26:hadd g1 b26 (AObj.cells [] false) b26=_:=ah;generalize hadd g1 b26 (AObj.cells [] false)=g2 at s26 k3 k26⊢;have hlen:items.length≤10000:=Nat.le_trans fA (by omega);refine Gz AC.mono (fun a' h'=>∃b6 mv,a'.d=[]∧a'.t 3=.ptr b3 0∧a'.t 6=.ptr b6 0∧h' b6=some (.cells [.str [112,114,111,103,114,97,109],.str [],.int .i64 0,mv] false)∧RowM g1 h' b6 items mv∧Sub g1 h'∧g1 b6=none) ?_ ?_
  ·by_cases e:items=[]
   ·subst e;cases kb3 with
    |nil =>
      refine W2 k3 k26 ?_;intro b6 hb6;refine W1 nH ?_;exact⟨b6,_,rfl,ah,.inl ⟨rfl,b26,rfl⟩,fun c o hc=>by rw[ae (af hb6 (s26 _ _ hc))];exact s26 _ _ hc,aP s26 hb6⟩
    |sl x=>exact absurd rfl x
   ·cases kb3 with
    |nil=>exact absurd rfl e
    |@sl _ bk cs q1 q2 q3 q4 q5 =>
      have cl:=q5.len;have cfl:=q5.flat;have kk:=s26 _ _ q4;have hl0:items.length≠0:=fun x=>e (List.length_eq_zero_iff.1 x);have tk:List.take (items.length*4) cs=cs:=List.take_of_length_le (by omega);refine W7 k3 k26 kk cl cfl tk hl0 ?_;intro bm nbm hbm;have z26:g1 b26=none:=hb26;have zm:=aP s26 hbm;have sm:Sub g1 (hadd (hset g2 b26 none) bm (AObj.cells cs false)):=fun c o hc=>(ae (af zm hc)).trans ((if_neg (af z26 hc)).trans (s26 _ _ hc));have km:hadd (hset g2 b26 none) bm (AObj.cells cs false) bm=_:=ah;generalize hadd (hset g2 b26 none) bm (AObj.cells cs false)=g3 at sm km⊢;refine W0 ?_;intro b6 hb6;refine W1 nH ?_;have z6:=aP sm hb6;have n6:=af hb6 km;exact⟨b6,_,rfl,ah,.inr ⟨bm,cs,e,zm,n6,rfl,(ae n6).trans km,q5.requ z6⟩,fun c o hc=>(ae (af z6 hc)).trans (sm _ _ hc),z6⟩
  ·rintro⟨ta,ds⟩ h3 ⟨b6,mv,hd,t3,t6,o6,RM,s3,z6⟩;dsimp only at hd t3 t6;subst hd;have kb4:=kb3.requ z6;clear k26 k3 s26 hb26;have j3:=s3 _ _ c3;have ll:=kb.ll;refine W4 t3 t6 j3 ll ?_;refine E.cut AC.mono (fun ex a' h'=>ex=.exit 0∧a'.d=[]∧a'.t 3=.ptr b3 0∧a'.t 6=.ptr b6 0∧∃mv,h' b6=some (.cells [.str [112,114,111,103,114,97,109],.str [],.int .i64 0,mv] false)∧RowM g1 h' b6 (items++others items) mv∧Sub g1 h') ?_ ?_
   ·refine E.loopX AC.mono (fun(i:Nat) a' h'=>i≤items.length∧a'.d=[]∧a'.t 3=.ptr b3 0∧a'.t 6=.ptr b6 0∧a'.t 32=kv∧a'.t 33=.int .i64 items.length∧a'.t 34=.int .i64 i∧∃mv,h' b6=some (.cells [.str [112,114,111,103,114,97,109],.str [],.int .i64 0,mv] false)∧RowM g1 h' b6 (items++others (items.take i)) mv∧Sub g1 h') (fun i=>items.length-i) 0 ?_ ?_
    ·exact⟨Nat.zero_le _,rfl,t3,t6,rfl,rfl,rfl,mv,o6,by simpa[others]using RM,s3⟩
    ·rintro i ⟨tb,ds⟩ h4 ⟨hi,hd,t3,t6,t32,t33,t34,mv,o6,RM,s4⟩;dsimp only at hd t3 t6 t32 t33 t34;subst hd
     by_cases ci:i<items.length
     ·cases kb4 with
      |nil=>cases ci
      |@sl _ bk cs q1 q2 q3 q4 q5 =>
        obtain⟨kvi,e4,k5⟩:=q5.get ci;have q6:=s4 _ _ q4;have cl:=q5.len;have ot:=DY ci;have kfi:=k5.flat;generalize items.getD i .zero=it at e4 k5 ot;refine W8 t3 t6 t32 t33 t34 q6 e4 cl ?_;intro b8 hb8;have n86:b6≠b8:=af hb8 o6;have s5:=bf (o:=AObj.cells (nodeC it kvi) false) s4 (aP s4 hb8);have o7:=(ae (o:=AObj.cells (nodeC it kvi) false) n86).trans o6;have c8:hadd h4 b8 (AObj.cells (nodeC it kvi) false) b8=_:=ah;have RM5:RowM g1 (hadd h4 b8 (AObj.cells (nodeC it kvi) false)) b6 (items++others (items.take i)) mv:=by
         rcases RM with x|⟨b,cs',x1,x2,x3,x4,x5,x6⟩
         ·exact .inl x
         ·exact .inr ⟨b,cs',x1,x2,x3,x4,(ae (af hb8 x5)).trans x5,x6⟩
        refine W7 t3 t6 t32 t33 t34 kfi lJ ?_;unfold nodeC at s5 o7 c8 RM5;generalize hadd h4 b8 _=h5 at s5 o7 c8 RM5⊢
        by_cases co:it.op=[102,117,110,99]
        ·rw[if_pos co,List.append_nil]at ot;have co:=eq_true co;refine W7 t3 t6 t32 t33 t34 c8 co ?_;exact⟨i+1,by omega,ci,by simp,mv,o7,by rw[ot];exact RM5,s5⟩
        ·rw[if_neg co]at ot;have co:=eq_false co;have hlo:(others (items.take i)).length≤10000:=by unfold others;exact Nat.le_trans (List.length_filter_le ..) (by rw[List.length_take];omega)
         rcases RM5 with⟨x,_⟩|⟨b,cs',x1,x2,x3,rfl,x5,x6⟩
         ·exact absurd (List.append_eq_nil_iff.1 x).1 q1
         have cl':=x6.len;have cfl':=x6.flat;obtain⟨n,hn⟩:∃n,n=(items++others (items.take i)).length:=⟨_,rfl⟩;have hnl:n≤20000:=by rw[hn,List.length_append];omega
         rw[← hn]at cl' o7;have tk:List.take (n*4) cs'=cs':=List.take_of_length_le (by omega);refine W8 t3 t6 t32 t33 t34 c8 co (An2 o7 kfi) ?_;intro bn hbn;have c9:hadd h5 bn (AObj.cells [V.str it.op,V.str it.text,V.int .i64 it.at',kvi] false) bn=_:=ah;have s6:=bf (o:=(AObj.cells [V.str it.op,V.str it.text,V.int .i64 it.at',kvi] false)) s5 (aP s5 hbn);have n66:=af hbn o7;have o8:=(ae (o:=(AObj.cells [V.str it.op,V.str it.text,V.int .i64 it.at',kvi] false)) n66).trans o7;have x5:=(ae (o:=(AObj.cells [V.str it.op,V.str it.text,V.int .i64 it.at',kvi] false)) (af hbn x5)).trans x5;generalize hadd h5 bn (AObj.cells [V.str it.op,V.str it.text,V.int .i64 it.at',kvi] false)=h6 at c9 s6 o8 x5⊢;refine W8 t3 t6 t32 t33 t34 c9 x5 (An2 cl' (An2 cfl' (An2 tk kfi))) ?_;intro ba nab hba;have za:=aP s6 hba;have n6a:=af hba o8;have o9:hadd (hset h6 b none) ba (AObj.cells (cs'++[V.str it.op,V.str it.text,V.int .i64 it.at',kvi]) false) b6=_:=(ae n6a).trans ((if_neg (Ne.symm x3)).trans o8);have ca:hadd (hset h6 b none) ba (AObj.cells (cs'++[V.str it.op,V.str it.text,V.int .i64 it.at',kvi]) false) ba=_:=ah;have s7:Sub g1 (hadd (hset h6 b none) ba (AObj.cells (cs'++[V.str it.op,V.str it.text,V.int .i64 it.at',kvi]) false)):=fun c o hc=>(ae (af za hc)).trans ((if_neg (af x2 hc)).trans (s6 _ _ hc));generalize hadd (hset h6 b none) ba (AObj.cells (cs'++[V.str it.op,V.str it.text,V.int .i64 it.at',kvi]) false)=h7 at o9 ca s7⊢;refine W6 t3 t6 t32 t33 t34 o9 ?_;have nit:NodeV (fun _=>none) g1 b6 it (.agg [V.str it.op,V.str it.text,V.int .i64 it.at',kvi]):=NodeV.of k5;refine⟨i+1,by omega,ci,by simp,_,rfl,.inr ⟨ba,_,by simp[q1],za,Ne.symm n6a,?_,(ae (Ne.symm n6a)).trans ca,?_⟩,bf s7 z6⟩
         ·rw[ot,← List.append_assoc,List.length_append,← hn];rfl
         ·rw[ot,← List.append_assoc];exact x6.app (CellsV.one nit)
     ·have:i=items.length:=by omega
      subst this;refine W2 t33 t34 ?_;exact⟨t3,t6,mv,o6,by rw[List.take_length]at RM;exact RM,s4⟩
   ·rintro ex ⟨tb,ds⟩ h4 ⟨rfl,hd,t3,t6,mv,o6,RM,s4⟩;dsimp only at hd t3 t6;subst hd;have j3:=s4 _ _ c3;have z2:cO (items++others items)≤100000:=by rw[je];have:=uP items;omega
    have hR4:Sub (hR m) h4:=fun x o hx=>s4 _ _ (sR _ _ hx);refine W4 t3 t6 j3 kf ?_;refine lM (a:=0) (.inl (kb4.mono s4)) (by omega) (fun i hi c=>(hI i hi).kids_ne c) ⟨hR4 _ _ rfl,hR4 _ _ rfl⟩ (fun A1 h5 hA1 s5 he1=>?_) (fun A1 h5 ib1 q1 hA1 s5 he1 I1=>?_)
    ·have o7:=s5 _ _ o6;have mf:=RM.flat;have hR5:Sub (hR m) h5:=fun x o hx=>s5 _ _ (hR4 _ _ hx);refine W3 t6 o7 mf ?_;have hsame:∀A2:List Sym,(∀s,s∈A2↔ArrS (ai (items++others items)) (items++others items) s)→(∀s,s∈A2↔s∈A1)∧aJ (fun s=>decide (s∈A2)) (items++others items)=aJ (fun s=>decide (s∈A1)) items:=fun A2 hA2=>by
      have e:∀s,s∈A2↔s∈A1:=fun s=>by rw[hA2,hA1,jO];exact vI
      exact⟨e,by rw[nZ];exact dW e⟩
     refine lM (a:=0) (RM.kids (fun c o hc=>s5 _ _ (s4 _ _ hc)) s5) z2 (fun i hi c=>(hI i (oV.1 hi)).kids_ne c) ⟨hR5 _ _ rfl,hR5 _ _ rfl⟩ (fun A2 h6 hA2 s6 he2=>?_) (fun A2 h6 ib2 q2 hA2 s6 he2 I2=>?_)
     ·rw[(hsame A2 hA2).2]at he2⊢;generalize aJ (fun s=>decide (s∈A1)) items=R at he1 he2⊢;refine W0 ?_;refine qh (m:=m) (fun x o hx=>s6 _ _ (hR5 _ _ hx)) fun h7 s7=>?_;refine W0 ?_;exact⟨_,Sub.refl,hq _⟩
     ·rw[(hsame A2 hA2).2]at he2;exact absurd he2 he1
    ·have o7:=s5 _ _ o6;have mf:=RM.flat;have hR5:Sub (hR m) h5:=fun x o hx=>s5 _ _ (hR4 _ _ hx);refine W3 t6 o7 mf ?_;have hsame:∀A2:List Sym,(∀s,s∈A2↔ArrS (ai (items++others items)) (items++others items) s)→(∀s,s∈A2↔s∈A1)∧aJ (fun s=>decide (s∈A2)) (items++others items)=aJ (fun s=>decide (s∈A1)) items:=fun A2 hA2=>by
      have e:∀s,s∈A2↔s∈A1:=fun s=>by rw[hA2,hA1,jO];exact vI
      exact⟨e,by rw[nZ];exact dW e⟩
     refine lM (a:=0) (RM.kids (fun c o hc=>s5 _ _ (s4 _ _ hc)) s5) z2 (fun i hi c=>(hI i (oV.1 hi)).kids_ne c) ⟨hR5 _ _ rfl,hR5 _ _ rfl⟩ (fun A2 h6 hA2 s6 he2=>?_) (fun A2 h6 ib2 q2 hA2 s6 he2 I2=>?_)
     ·rw[(hsame A2 hA2).2]at he2;exact absurd he1 he2
     ·have eA:=(hsame A2 hA2).1;rw[(hsame A2 hA2).2]at I2;have eAf:(fun x=>decide ((none,x)∈A2))=fun x=>decide ((none,x)∈A1):=funext fun x=>decide_eq_decide.2 (eA _);generalize aJ (fun s=>decide (s∈A1)) items=R at I1 I2 he1;obtain⟨fb1,rows1,gv1,av1,i1,_,_,i4,i5⟩:=I1.obj;obtain⟨fb2,rows2,gv2,av2,k1,_,_,k4,k5⟩:=I2.obj;rw[jO]at k1;rw[eAf]at k5;have ll1:llE (if ai items=[]then V.nilsl else .sl fb1 0 7 (ai items).length)=some (.int .i64 (ai items).length):=by
       split
       ·rename_i e;rw[e];rfl
       ·rfl
      have ll2:llE (if ai items=[]then V.nilsl else .sl fb2 0 7 (ai items).length)=some (.int .i64 (ai items).length):=by
       split
       ·rename_i e;rw[e];rfl
       ·rfl
      generalize (if ai items=[]then V.nilsl else .sl fb1 0 7 (ai items).length)=sv1 at i1 ll1;generalize (if ai items=[]then V.nilsl else .sl fb2 0 7 (ai items).length)=sv2 at k1 ll2;refine W0 ?_;refine qh (m:=m) (fun x o hx=>s6 _ _ (hR5 _ _ hx)) fun h7 s7=>?_;have s57:Sub h5 h7:=fun c o hc=>s7 _ _ (s6 _ _ hc);have i1:=s57 _ _ i1;have k1:=s7 _ _ k1;refine W2 i1 k1 ?_;refine Ob (i4.mono s57) (k4.mono s7) I1.len ?_;refine W2 i1 k1 ?_;refine JE (i5.mono s57) (k5.mono s7) (by rw[List.length_map];exact I1.len) ?_;refine W4 i1 k1 ll1 ll2 ?_;exact⟨_,Sub.refl,hq _⟩
end
section
open Mir Go.ChangeShapes Go.WideShapes Go.ChangeAt Go.RowKit
open Go.ChangeMaps (open_string shut_string)
set_option maxRecDepth 100000 in
theorem pO(os:Os)(started:os.Started)(H:Type)(enc:TypeId × Value→H):
  ReturnsInHanded {} Tryz.checked os 4 .any (fun w args=>(Rows.resolveTwiceSpec.pre enc Tryz.prog Tryz.f4 Rows.resolveTwiceRow.domain false w args∧laidMet Tryz.prog wV w)∧sizedMet enc Tryz.prog Tryz.f4 (OpenSpec.ofChange Rows.resolveTwiceSpec) false w args) (Rows.resolveTwiceSpec.post enc Tryz.prog Tryz.f4 false true false false):=by
 refine yB (C:=Tryz.checked) (X:=fun w _=>laidMet Tryz.prog wV w) (fun _ _ _ hh h=>h.of_heap hh) Tryz.own started (by kernel_rfl) Tryz.func4
  (ChangeSpec.witness_shaped (enc:=enc) (C:=Tryz.checked) (os:=os) (X:=fun w _=>laidMet Tryz.prog wV w) false (wS os) #[.string ⟨#[]⟩] 8 rfl (World.shaped_of_RefB (by kernel_rfl) (by kernel_rfl)) (by kernel_rfl) (by kernel_rfl) (by kernel_rfl) (wU os _)) ?_
 intro W base args ds gs before hval0 hW hcnd hLd hsh;obtain⟨L0,L1,L2,L3,m,S⟩:=TV hLd hsh;have hval:∀(j:Nat) t v,Tryz.f4.params[j]?=some t→args[j]?=some v→Value.okWide Tryz.prog W .any base t v:=hval0;have hW':=hW;obtain⟨p,q,hA0,hV,rfl,hfz,hnd⟩:=hW;have hA:DataW.TrodAll enc Tryz.prog W 0 (fun _=>true) true Tryz.f4.params.toList args.toList ds p:=hA0;rw[Tryz.params4]at hA hval;obtain⟨v0,d0,rfl,rfl,h0⟩:=trodAll_one hA;obtain⟨rfl,rfl⟩:=trodVars_none hV;obtain⟨s0,rfl,rfl,rfl,w0⟩:=open_string Tryz.underlying9 (hval 0 9 v0 rfl rfl) h0;clear hA0 hval0;simp only[List.append_nil]at hW';have hcalls:=Sr (f:=4) rfl (args:=[.str s0.data.toList]) (args':=[.string s0]) (.cons (by have:=VR.str (μ:=muR L0 L1 L2 L3) s0.data.toList;simpa using this) .nil) Ut (Gh _ (fun _=>rfl)) (Oy S);refine hcalls.mono fun e W' ⟨he,hb⟩=>?_;subst he;exact⟨_,rfl,yE hW' (fun _ _ _=>trodAll_mk1 (shut_bool Tryz.underlying4 true)) (fun sp=>trodAll_mk1 (shut_string Tryz.underlying9 w0)) (fun _=>rfl) hb (ok_one (by kernel_rfl) rfl (okWide_bool_mk Tryz.underlying4 true))⟩
theorem qH:Rows.ResolveTwiceSaid:=
 OpenClaim.holds_of_wide 4 Tryz.f4 rfl rfl rfl rfl rfl rfl rfl ⟨rfl,rfl,rfl,rfl,rfl⟩ rfl rfl rfl rfl rfl (by kernel_rfl) Tryz.func4 (by kernel_rfl)
  (of_decide_eq_true (by kernel_rfl)) (by unfold Func.isWrapper;first|(rw[if_pos (by decide +kernel)];kernel_rfl)|(rw[if_neg (by decide +kernel)];exact⟨rfl,rfl⟩))
  (fun os started H enc _=>pO os started H enc)
theorem resolveTwiceCard_holds:Rows.ResolveTwiceCardSaid:=
 Claim7.holds_tied_plain_at .later [] [.widerDeep,.widerDeep,.widerDeep,.widerDeep] true (true,"940a08ca661267cf0838873448a6070153acbc0a0ad72a3c6dd6014d7f7e68da") false
  qH (fun _ h=>by cases h) (by kernel_rfl) (fun _ h=>by cases h) resolveTwice_row_tie rfl ⟨rfl,rfl⟩ (by kernel_rfl) rfl
  (fun f fn hf hfn=>by
   obtain rfl:f=4:=Option.some.inj ((show Tryz.prog.funcNamed "scribe/scribelaw14.ResolveTwice" = some 4 by kernel_rfl).symm.trans hf) |>.symm;obtain rfl:fn=Tryz.f4:=(Option.some.inj (Tryz.func4.symm.trans hfn)).symm;refine⟨by kernel_rfl,fun j t ht=>?_⟩;rw[Tryz.params4]at ht;have h3:t=9:=by
    rcases j with _|j<;>simp at ht<;>simp[← ht]
   subst h3
   ·exact(show Tryz.prog.wantsStandIn 9=false by kernel_rfl))
  (by kernel_rfl)
end

end Go.Proofs.YtkfbldogmgofoaaGreatDoor
