/- ParseDeep: for every input the law's function returns true and its arguments read as before. -/
import Derived.ChangeMaps5
import Derived.ChangeSame
import Derived.ChangeVars
import Derived.HandedShaped
import Derived.JoinedAt
import Derived.JoinedOf
import Derived.LaidLaws
import Derived.Lib.LaidTab
import Derived.ProofKit
import Derived.RowKit
import Derived.RowKit3
import Derived.RowKitTokens
import Derived.SevenTiedAt
import Derived.Shelf.Vars
import Derived.SizedLaws
import Derived.SliceStrings
import Derived.Stop.LaidErr
import Derived.Test.YtkfbldogmgofoaaGreatDoorCards
import Derived.Test.YtkfbldogmgofoaaGreatDoorTie
import Derived.Test.YtkfbldogmgofoaaGreatDoorK10
set_option linter.unusedSimpArgs false
set_option linter.unusedVariables false
namespace Go.Proofs.YtkfbldogmgofoaaGreatDoor
open Mir Go.ChangeShapes Go.WideShapes Go.ChangeAt Go.RowKit
theorem handed_shaped {H:Type} {enc:TypeId × Value → H} {a:Assume} {C:Checked} {os:Os} {f:FuncId} {fn:Func} {s:ChangeSpec} {conds:List PathCond} {apart fresh handsOn again:Bool} {X:World → Array Value → Prop}
  (hX:∀ (w w':World) (args:Array Value),w.heap = w'.heap → X w args → X w' args)
  (own:ownKnob C.prog.godebug = none) (started:os.Started) (noInit:C.prog.inits.idxOf? f = none) (hfn:C.prog.funcs[f]? = some fn)
  (witness:∃ (w:World) (tape:Tape) (i:Input),w.os = os ∧ (w.forCall tape i).Shaped C.prog ∧ i.vars = [] ∧ Input.okWide C.prog (w.forCall tape i) .any w.heap.size f i ∧
   ((s.pre enc C.prog fn conds apart (w.forCall tape i).memory i.args ∧ X (w.forCall tape i).memory i.args) ∧ sizedMet enc C.prog fn (OpenSpec.ofChange s) apart (w.forCall tape i).memory i.args) ∧ a.holds C.prog (lone (Frame.enter C.prog f i.args .normal) [] (w.forCall tape i)))
  (contract:∀ (W:World) (base:Nat) (args:Array Value) (ds gs:List (DataW H)) (before:List MemPlace),
   (∀ (j:Nat) t v,fn.params[j]? = some t → args[j]? = some v → Value.okWide C.prog W .any base t v) →
   DataW.Whole enc C.prog fn.params.toList s.vars apart W args.toList ds gs before →
   conds.all (PathCond.test C.prog ⟨fn.params.toList,ds,s.plain.varTypes C.prog,gs⟩) = true →
   X W args → W.ShapedOpen C.prog →
   Calls C.prog f args W fun e W'=>∃ v,e = .returned v ∧ s.post enc C.prog fn apart fresh handsOn again W args v W') :
  ReturnsInHanded a C os f .any (fun w args=>(s.pre enc C.prog fn conds apart w args ∧ X w args) ∧ sizedMet enc C.prog fn (OpenSpec.ofChange s) apart w args) (s.post enc C.prog fn apart fresh handsOn again):=by
 refine returnsInHanded_of_calls own started noInit witness ?_
 intro w tape i _ hsh _ hok hpre hholds
 obtain ⟨_,_,_,fn',hfn',_,_,_,_,hval⟩:=hok
 have e:fn' = fn:=Option.some.inj (hfn'.symm.trans hfn)
 subst e
 obtain ⟨⟨⟨ds,gs,before,hw,hc⟩,hx⟩,hz⟩:=hpre
 have hw':=DataW.Whole.of_heap (w':=w.forCall tape i) (by rfl) hw
 refine (contract (w.forCall tape i) w.heap.size i.args ds gs before hval hw' hc (hX _ _ _ (by rfl) hx) hsh).mono fun e W' ⟨v,he,hp⟩=>?_
 subst he
 exact ChangeSpec.post_blind hp
theorem addr_eq {a:Addr} (h:a.spot = none):a = ⟨a.block,a.off,none⟩:=by cases a; simp at h; subst h; rfl
theorem heap_of_var? {P:Program} {W:World} {n:String} {g:Nat} {cs:Array Value} (hg:P.globalNamed n = some g) (h:W.var? P n = some cs):∃ t fr,W.heap[g]? = some (.cells cs t fr):=by
 unfold World.var? at h
 rw [hg,Option.bind_some] at h
 cases hx:W.heap[g]? with
 | none=>simp [hx] at h
 | some o =>
   cases o with
   | cells c t fr=>simp [hx] at h; subst h; exact ⟨t,fr,rfl⟩
   | _=>simp [hx] at h
structure TextsAt (W:World) (g:Nat) (ss:List (List UInt8)) (L:Mir.Loc):Prop where
 row:∃ c el fr,W.heap[L.B]? = some (.cells c el fr) ∧ c.size = L.n ∧ L.s + ss.length ≤ L.n ∧ ∀ i s,ss[i]? = some s → c[L.s + i]? = some (.string ⟨s.toArray⟩)
 var:∃ v t fr,W.heap[g]? = some (.cells #[v] t fr) ∧ v.oneCell' = true ∧ ∀ (μ:Mu) (b:Nat),μ b = some L → VR μ (.sl b 0 1 ss.length) v
theorem laid_texts {P:Program} {W:World} {n:String} {ss:List (List UInt8)} {r:List (String × DataW Unit)} {g:Nat} {t e:TypeId} {zero:Array Value}
  (h:laidMet P ((n,.slice (ss.map fun s=>.lit (.string s)) []) :: r) W) (hsh:W.ShapedOpen P) (hg:P.globalNamed n = some g) (ht:(P.globals[g]?).map (·.type) = some t) (hu:P.underlying t = some (.slice e)) (he:P.underlying e = some .string) (hce:P.cellsOf e = 1)
  (hlt:g < P.globals.size) (h0:((begin P (fun _ _=>0) default).world.heap[g]?).bind Obj.row? = some (zero,t)) (hz:zero.size = 1) (hb:P.buildable t = true) (hc:P.cellTypes P.depth t = some [t]) (hss:ss ≠ []):∃ L,TextsAt W g ss L:=by
 obtain ⟨ps,⟨g0,t0,cs0,f0,p0,q0,hg0,ht0,hv0,hd0,_,e0⟩,_,hrows⟩:=h
 obtain rfl:=Option.some.inj (hg.symm.trans hg0)
 obtain rfl:=Option.some.inj (ht.symm.trans ht0)
 obtain ⟨t',fr',hh⟩:=heap_of_var? hg hv0
 rcases open_strings hu he hce hd0 with ⟨hcs,hx⟩ | ⟨a,len,cap,xs,hcs,_,hl,hm,hlen,hx,hcell,hsz⟩
 ·have:=congrArg Prod.fst hx; cases this
 ·simp only [if_true] at hlen
  have hx1:=congrArg Prod.fst hx
  simp only [DataW.slice.injEq] at hx1
  obtain ⟨hx1,hx2⟩:=hx1
  have hcl:cap = len:=by
   have:=congrArg List.length hx2
   simp only [strs,List.length_map,List.length_nil,List.length_drop] at this
   omega
  subst hcl
  have hxs:xs.map (fun s=>s.data.toList) = ss:=by
   rw [List.take_of_length_le (by omega)] at hx1
   have:=congrArg (List.map fun (d:DataW Unit)=>match d with | .lit (.string s)=>s | _=>[]) hx1
   simp only [strs,List.map_map] at this
   simpa [Function.comp_def] using this.symm
  have hsl:ss.length = xs.length:=by rw [← hxs]; simp
  obtain ⟨cs,hh2,hs2,hr2⟩:=hsh.1 g zero t hlt h0
  rw [hh] at hh2
  simp only [Option.some.injEq,Obj.cells.injEq] at hh2
  obtain ⟨rfl,_,_⟩:=hh2
  obtain ⟨ts,hts,_,hall⟩:=hr2 hb
  rw [hc] at hts; cases hts
  have hcs':cs0 = #[.slice (some a) cap cap]:=by apply Array.toList_inj.1; rw [hcs]
  subst hcs'
  obtain ⟨u,hu',hok⟩:=hall 0 (.slice (some a) cap cap) rfl
  have:u = t:=by simpa using hu'.symm
  subst this
  have hsp:a.spot = none:=by
   simp only [Cell.ok,hu,World.has] at hok
   exact hok.2.2.2.1
  have hpos:0 < xs.length:=by rw [← hsl]; exact List.length_pos_iff.2 hss
  have key:∀ i,(a.add i) = ⟨a.block,a.off + i,none⟩:=fun i=>by
   unfold Addr.add; split
   ·rename_i e; subst e; exact addr_eq hsp
   ·rfl
  have hblk:∃ c el fr,W.heap[a.block]? = some (.cells c el fr) ∧ ∀ i,i < xs.length → c[a.off + i]? = some (.string (xs.getD i ByteArray.empty)):=by
   have hc0:=hcell 0 hpos
   rw [key] at hc0
   unfold World.cell? at hc0
   split at hc0
   ·rename_i c el fr e
    refine ⟨c,el,fr,e,fun i hi=>?_⟩
    have:=hcell i hi
    rw [key] at this
    unfold World.cell? at this
    simp only [e,Option.isSome_none,Bool.false_eq_true,if_false] at this
    exact this
   ·cases hc0
  obtain ⟨c,el,fr,hbk,hcs⟩:=hblk
  have hend:a.off + xs.length ≤ c.size:=by
   have:=hcs (xs.length - 1) (by omega)
   have:=(Array.getElem?_eq_some_iff.1 this).1
   omega
  refine ⟨⟨a.block,a.off,c.size⟩,⟨c,el,fr,hbk,rfl,by show a.off + ss.length ≤ c.size; omega,fun i s hi=>?_⟩,⟨_,t',fr',hh,rfl,fun μ b hμ=>?_⟩⟩
  ·rw [← hxs,List.getElem?_map] at hi
   cases hxi:xs[i]? with
   | none=>rw [hxi] at hi; cases hi
   | some x =>
     rw [hxi,Option.map_some,Option.some.injEq] at hi
     have hil:=(List.getElem?_eq_some_iff.1 hxi).1
     show c[a.off + i]? = _
     rw [hcs i hil,List.getD_eq_getElem?_getD,hxi,← hi]
     simp
  ·rw [addr_eq hsp]
   have:=VR.sl (μ:=μ) (b:=b) (o:=0) (es:=1) (len:=ss.length) (o':=0) (cap:=cap) hμ (by simp) (by omega) (by simp; omega) (by omega)
   have e:ss.length = cap:=by omega
   rw [e] at this
   rw [e]
   simpa using this
theorem R_ro {P:Program} {μ:Mu} {h:H} {w:World} (hfin:∃ N,∀ b,N ≤ b → μ b = none) (hglob:∀ g,g < P.globals.size → ∃ n,μ g = some ⟨g,0,n⟩)
  (hat:∀ b o,h b = some o → b < 1000 ∧ o.ro = true ∧ ∃ L x,μ b = some L ∧ w.heap[L.B]? = some x ∧ OR P μ L o x):R P μ h w:=by
 refine ⟨hfin,fun b o hb=>(hat b o hb).2.2,fun b b' o o' L L' hb hb' hne h1 h2 hro=>?_,hglob,fun b o L x hb hL hx=>⟨fun hB=>?_,fun hW=>?_⟩⟩
 ·rw [(hat b o hb).2.1] at hro; cases hro
 ·have:=(hat b o hb).1; have:=hB.2; omega
 ·have:=(hat b o hb).1; have:=hW.2; omega
theorem law_ro {f:Nat} {g:Mir.Fn} (hg:pg.fns f = some g) {args:List V} {args':List Value} {μ:Mu} {h:H} {w:World} (hv:VRs μ args args') (hro:∀ b o,h b = some o → o.ro = true)
  (hA:AC pg (.fn f) args h fun v _=>v = .bool true) (r:R Tryz.prog μ h w) :
  Calls Tryz.prog f args'.toArray w fun e w'=>e = .returned (.bool true) ∧ Below w.heap.size w w':=by
 refine (calls_of pg_ok hg hA hv r).mono fun e w' ⟨d,he,v,h',μ',hq,hd,st⟩=>?_
 subst hq
 rw [hd.bool_inv] at he
 refine ⟨he,st.os,st.tape,st.output,st.size,fun k hk=>st.kept k hk ?_⟩
 rintro ⟨b,o,L,hb,hr,_⟩
 rw [hro b o hb] at hr; cases hr
theorem Tryz.own:ownKnob Tryz.prog.godebug = none:=by kernel_rfl
section
variable {H:Type} {enc:TypeId × Value → H} {P:Program}
theorem post_of_plain {f:Func} {s:ChangeSpec} {apart fresh handsOn again:Bool} {W W':World} {args:Array Value} {v:Value} {ds gs:List (DataW H)}
  (hW:DataW.Whole enc P f.params.toList s.vars apart W args.toList ds gs [])
  (hres:∀ (b:Nat) (sp:Nat → Bool) (hd:Bool),DataW.TrodAll enc P W' b sp hd f.resultTypes.toList (v.resultList f.resultTypes.size) (s.fn H (ds ++ gs)).results [])
  (hargs:∀ sp:Nat → Bool,DataW.TrodAll enc P W' 0 sp true f.params.toList args.toList (s.fn H (ds ++ gs)).args [])
  (hvars:∀ sp:Nat → Bool,DataW.TrodVars enc P W' sp s.vars (s.fn H (ds ++ gs)).vars [])
  (hb:Below W.heap.size W W')
  (hok:∀ (j:Nat) (t:TypeId) (r:Value),f.resultTypes[j]? = some t → (v.resultList f.resultTypes.size)[j]? = some r → Value.okWide P W' .any 0 t r) :
  s.post enc P f apart fresh handsOn again W args v W':=by
 refine ⟨ds,gs,[],[],[],[],hW,hres _ _ _,hargs _,hvars _,hb.frame _,fun _=>?_⟩
 refine ⟨hok,_,_,([] ++ []) ++ [],⟨[] ++ [],[],trodAll_append (hargs _) (hres _ _ _),hvars _,rfl,?_,?_⟩,?_⟩
 ·intro b off hp; simp at hp
 ·intro _; simp
 ·intro p hp; simp at hp
end
end Go.Proofs.YtkfbldogmgofoaaGreatDoor
namespace Go.Proofs.YtkfbldogmgofoaaGreatDoor
open Mir Go.ChangeShapes Go.WideShapes Go.ChangeAt Go.RowKit
def specialT:List (List UInt8):=[[78,82],[78,70],[70,83],[79,70,83],[79,82,83],[70,73,76,69,78,65,77,69],[82,83,84,65,82,84],[82,76,69,78,71,84,72]]
def txtRow (l:List (List UInt8)):Array Value:=(l.map fun s=>Value.string ⟨s.toArray⟩).toArray
def hR (m:Int):H:=fun b =>
 if b = 1 then some (.cells [.sl 601 0 1 16] true) else if b = 2 then some (.cells [.sl 602 0 1 13] true) else if b = 3 then some (.cells [.sl 603 0 1 6] true)
 else if b = 0 then some (.cells [.sl 600 0 1 8] true) else if b = 4 then some (.cells [.int .i64 m] true)
 else if b = 601 then some (.cells (wordsT.map .str) true) else if b = 602 then some (.cells (builtinsT.map .str) true) else if b = 603 then some (.cells (bannedT.map .str) true) else if b = 600 then some (.cells (specialT.map .str) true) else none
theorem OR_one {W:World} {μ:Mu} {g:Nat} {v:Value} {t:TypeId} {fr:Nat × Nat} {x:V} (h1:v.oneCell' = true) (h2:VR μ x v):OR Tryz.prog μ ⟨g,0,1⟩ (.cells [x] true) (.cells #[v] t fr):=by
 refine ⟨_,t,fr,rfl,rfl,by simp,fun i y hy=>?_,fun h=>by cases h⟩
 have hi:i = 0:=by have:=(List.getElem?_eq_some_iff.1 hy).1; simpa using this
 subst hi; cases hy
 exact ⟨v,rfl,h2,h1⟩
theorem OR_txt {W:World} {μ:Mu} {g:Nat} {ss:List (List UInt8)} {L:Mir.Loc} (h:TextsAt W g ss L):∃ x,W.heap[L.B]? = some x ∧ OR Tryz.prog μ L (.cells (ss.map .str) true) x:=by
 obtain ⟨c,el,fr,h1,h2,h3,h4⟩:=h.row
 refine ⟨_,h1,c,el,fr,rfl,h2,by rw [List.length_map]; exact h3,fun i y hy=>?_,fun h=>by cases h⟩
 rw [List.getElem?_map] at hy
 cases e:ss[i]? with
 | none=>rw [e] at hy; cases hy
 | some s=>rw [e,Option.map_some,Option.some.injEq] at hy; subst hy; exact ⟨_,h4 i s e,.str s,rfl⟩
theorem G_lt {b:Nat} (h:b < 8):b < Tryz.prog.globals.size:=Nat.lt_of_lt_of_le h (of_decide_eq_true (by kernel_rfl))
theorem G_le:Tryz.prog.globals.size ≤ 8:=of_decide_eq_true (by kernel_rfl)
end Go.Proofs.YtkfbldogmgofoaaGreatDoor
namespace Go.Proofs.YtkfbldogmgofoaaGreatDoor
open Mir Go.ChangeShapes Go.WideShapes Go.ChangeAt Go.RowKit
abbrev laidsP:List (String × DataW Unit):=[("math/bits.deBruijn32tab",Rows.laid_math_bits_deBruijn32tab),("math/bits.deBruijn64tab",Rows.laid_math_bits_deBruijn64tab),("internal/strconv.uint64pow10",Rows.laid_internal_strconv_uint64pow10),("scribe/lex.words",Rows.laid_scribe_lex_words),("scribe/lex.builtins",Rows.laid_scribe_lex_builtins),("scribe/lex.banned",Rows.laid_scribe_lex_banned)]
noncomputable def numsOf (d:DataW Unit) (k:IntKind):Array Value:=match d with
 | .agg l=>(l.map fun | .lit (.int _ z)=>Value.int k z | _=>.int k 0).toArray
 | _=>#[]
noncomputable def laidWorldP (os:Os):World :=
 let N:=(World.settled Tryz.prog os).heap.size
 let w0:=World.holding Tryz.prog os ⟨#[.cells (txtRow wordsT) 9,.cells (txtRow builtinsT) 9,.cells (txtRow bannedT) 9],#[],[]⟩
 let put (h:Array Obj) (g:Nat) (cs:Array Value):Array Obj:=h.modify g fun
  | .cells _ t frozen=>.cells cs t frozen
  | o=>o
 let h0:=put w0.heap 1 #[.slice (some ⟨N,0,none⟩) 16 16]
 let h1:=put h0 2 #[.slice (some ⟨N + 1,0,none⟩) 13 13]
 let h2:=put h1 3 #[.slice (some ⟨N + 2,0,none⟩) 6 6]
 let h3:=put h2 6 (numsOf Rows.laid_math_bits_deBruijn32tab .u8)
 let h4:=put h3 7 (numsOf Rows.laid_math_bits_deBruijn64tab .u8)
 let h5:=put h4 5 (numsOf Rows.laid_internal_strconv_uint64pow10 .u64)
 { w0 with heap:=h5 }
theorem laidWorldP_met (os:Os) (args:Array Value):laidMet Tryz.prog laidsP ((laidWorldP os).forCall (fun _ _=>0) ⟨#[],args,[]⟩).memory :=
 laidMet_of_run' 8 (by kernel_rfl) (by kernel_rfl)
structure StartP (W:World) (L1 L2 L3:Mir.Loc) (m:Int):Prop where
 words:TextsAt W 1 wordsT L1
 builtins:TextsAt W 2 builtinsT L2
 banned:TextsAt W 3 bannedT L3
 maxLen:∃ t fr,W.heap[4]? = some (.cells #[.int .i64 m] t fr)
theorem startP {W:World} (h0:laidMet Tryz.prog laidsP W) (hsh:W.ShapedOpen Tryz.prog):∃ L1 L2 L3 m,StartP W L1 L2 L3 m:=by
 have h:=h0.tail.tail.tail
 obtain ⟨L1,h1⟩:=laid_texts (ss:=wordsT) (g:=1) (t:=37) (e:=9) (zero:=#[.slice none 0 0]) h hsh (by kernel_rfl) (by kernel_rfl) (by kernel_rfl) (by kernel_rfl) (by kernel_rfl) (of_decide_eq_true (by kernel_rfl)) (by kernel_rfl) rfl (by kernel_rfl) (by kernel_rfl) (by decide)
 obtain ⟨L2,h2⟩:=laid_texts (ss:=builtinsT) (g:=2) (t:=37) (e:=9) (zero:=#[.slice none 0 0]) h.tail hsh (by kernel_rfl) (by kernel_rfl) (by kernel_rfl) (by kernel_rfl) (by kernel_rfl) (of_decide_eq_true (by kernel_rfl)) (by kernel_rfl) rfl (by kernel_rfl) (by kernel_rfl) (by decide)
 obtain ⟨L3,h3⟩:=laid_texts (ss:=bannedT) (g:=3) (t:=37) (e:=9) (zero:=#[.slice none 0 0]) h.tail.tail hsh (by kernel_rfl) (by kernel_rfl) (by kernel_rfl) (by kernel_rfl) (by kernel_rfl) (of_decide_eq_true (by kernel_rfl)) (by kernel_rfl) rfl (by kernel_rfl) (by kernel_rfl) (by decide)
 obtain ⟨m,hm⟩:=cell_of_shapedOpen_int (P:=Tryz.prog) (g:=4) (t:=3) (zero:=#[.int .i64 0]) hsh (of_decide_eq_true (by kernel_rfl)) (by kernel_rfl) rfl (by kernel_rfl) (by kernel_rfl) (by kernel_rfl)
 obtain ⟨cs,hh,hs,_⟩:=hsh.1 4 #[.int .i64 0] 3 (of_decide_eq_true (by kernel_rfl)) (by kernel_rfl)
 have hcs:cs = #[.int .i64 m]:=by
  unfold World.cell? at hm
  simp only [hh,Option.isSome_none,Bool.false_eq_true,if_false] at hm
  have hs:cs.size = 1:=hs
  apply Array.ext_getElem?
  intro i
  rcases Nat.eq_zero_or_pos i with c | c
  ·subst c; rw [hm]; rfl
  ·rw [Array.getElem?_eq_none (by omega),Array.getElem?_eq_none (by simp; omega)]
 subst hcs
 exact ⟨L1,L2,L3,m,h1,h2,h3,⟨_,_,hh⟩⟩
def hP (m:Int):H:=fun b =>
 if b = 1 then some (.cells [.sl 601 0 1 16] true) else if b = 2 then some (.cells [.sl 602 0 1 13] true) else if b = 3 then some (.cells [.sl 603 0 1 6] true)
 else if b = 4 then some (.cells [.int .i64 m] true)
 else if b = 601 then some (.cells (wordsT.map .str) true) else if b = 602 then some (.cells (builtinsT.map .str) true) else if b = 603 then some (.cells (bannedT.map .str) true) else none
noncomputable def muP (L1 L2 L3:Mir.Loc):Mu:=fun b=>if b < Tryz.prog.globals.size then some ⟨b,0,1⟩ else if b = 601 then some L1 else if b = 602 then some L2 else if b = 603 then some L3 else none
theorem P_start {W:World} {L1 L2 L3:Mir.Loc} {m:Int} (S:StartP W L1 L2 L3 m):R Tryz.prog (muP L1 L2 L3) (hP m) W:=by
 have hG:=G_le
 have e1:muP L1 L2 L3 601 = some L1:=by unfold muP; rw [if_neg (by omega),if_pos rfl]
 have e2:muP L1 L2 L3 602 = some L2:=by unfold muP; rw [if_neg (by omega),if_neg (by omega),if_pos rfl]
 have e3:muP L1 L2 L3 603 = some L3:=by unfold muP; rw [if_neg (by omega),if_neg (by omega),if_neg (by omega),if_pos rfl]
 have eg:∀ b,b < 8 → muP L1 L2 L3 b = some ⟨b,0,1⟩:=fun b hb=>by unfold muP; rw [if_pos (G_lt hb)]
 refine R_ro ⟨1000,fun b hb=>?_⟩ (fun g hg=>⟨1,by unfold muP; rw [if_pos hg]⟩) fun b o hb=>?_
 ·unfold muP; rw [if_neg (by omega),if_neg (by omega),if_neg (by omega),if_neg (by omega)]
 ·unfold hP at hb
  split at hb
  ·rename_i e; subst e; cases hb
   obtain ⟨v,t,fr,q1,q2,q3⟩:=S.words.var
   exact ⟨by omega,rfl,_,_,eg _ (by omega),q1,OR_one (W:=W) q2 (q3 _ _ e1)⟩
  split at hb
  ·rename_i e; subst e; cases hb
   obtain ⟨v,t,fr,q1,q2,q3⟩:=S.builtins.var
   exact ⟨by omega,rfl,_,_,eg _ (by omega),q1,OR_one (W:=W) q2 (q3 _ _ e2)⟩
  split at hb
  ·rename_i e; subst e; cases hb
   obtain ⟨v,t,fr,q1,q2,q3⟩:=S.banned.var
   exact ⟨by omega,rfl,_,_,eg _ (by omega),q1,OR_one (W:=W) q2 (q3 _ _ e3)⟩
  split at hb
  ·rename_i e; subst e; cases hb
   obtain ⟨t,fr,q1⟩:=S.maxLen
   exact ⟨by omega,rfl,_,_,eg _ (by omega),q1,OR_one (W:=W) rfl (.int _ _)⟩
  split at hb
  ·rename_i e; subst e; cases hb
   obtain ⟨x,q1,q2⟩:=OR_txt (μ:=muP L1 L2 L3) S.words
   exact ⟨by omega,rfl,_,x,e1,q1,q2⟩
  split at hb
  ·rename_i e; subst e; cases hb
   obtain ⟨x,q1,q2⟩:=OR_txt (μ:=muP L1 L2 L3) S.builtins
   exact ⟨by omega,rfl,_,x,e2,q1,q2⟩
  split at hb
  ·rename_i e; subst e; cases hb
   obtain ⟨x,q1,q2⟩:=OR_txt (μ:=muP L1 L2 L3) S.banned
   exact ⟨by omega,rfl,_,x,e3,q1,q2⟩
  ·cases hb
theorem hP_ro {m:Int}:∀ b o,hP m b = some o → o.ro = true:=by
 intro b o hb
 unfold hP at hb
 repeat' (split at hb)
 all_goals first | (cases hb; rfl) | (cases hb)
end Go.Proofs.YtkfbldogmgofoaaGreatDoor
namespace Go.Proofs.YtkfbldogmgofoaaGreatDoor
open Mir
variable {h:H} {Q:V → H → Prop} {m:Int}
theorem words_P:Words (hP m):=⟨⟨rfl,rfl⟩,⟨rfl,rfl⟩,rfl,rfl⟩
def awk1:Tree ⊕ (Nat × Nat) → Bool
 | .inl t=>shortT t && (spellT t == [40,112,114,111,103,114,97,109,32,40,98,101,103,105,110,32,40,98,108,111,99,107,32,40,101,120,112,114,32,40,97,115,115,105,103,110,32,49,58,61,32,40,118,97,114,32,49,58,120,41,32,40,99,97,116,32,40,118,97,114,32,49,58,97,41,32,40,97,100,100,32,40,118,97,114,32,49,58,98,41,32,40,110,117,109,32,49,58,49,41,41,41,41,41,41,41,41])
 | .inr _=>false
theorem aw1:∃ t,parsedT [66,69,71,73,78,123,120,61,97,32,98,43,49,125] = .inl t ∧ shortT t = true ∧ spellT t = [40,112,114,111,103,114,97,109,32,40,98,101,103,105,110,32,40,98,108,111,99,107,32,40,101,120,112,114,32,40,97,115,115,105,103,110,32,49,58,61,32,40,118,97,114,32,49,58,120,41,32,40,99,97,116,32,40,118,97,114,32,49,58,97,41,32,40,97,100,100,32,40,118,97,114,32,49,58,98,41,32,40,110,117,109,32,49,58,49,41,41,41,41,41,41,41,41]:=by
 have e:awk1 (parsedT [66,69,71,73,78,123,120,61,97,32,98,43,49,125]) = true:=by decide +kernel
 generalize parsedT [66,69,71,73,78,123,120,61,97,32,98,43,49,125] = r at e
 cases r with
 | inl t=>exact ⟨t,rfl,(Bool.and_eq_true_iff.1 e).1,eq_of_beq (Bool.and_eq_true_iff.1 e).2⟩
 | inr x=>cases e
theorem aw2:parsedT [66,69,71,73,78,123,120,61,125] = .inr (8,9):=by
 have e:(match parsedT [66,69,71,73,78,123,120,61,125] with | .inl _=>false | .inr x=>x == (8,9)) = true:=by decide +kernel
 generalize parsedT [66,69,71,73,78,123,120,61,125] = r at e
 cases r with
 | inl t=>cases e
 | inr x=>rw [eq_of_beq e]
theorem _root_.Mir.Sub.add {h':H} (s:Sub h h') {b:Nat} (hb:h' b = none) {o:AObj}:Sub h (hadd h' b o):=s.put (s.none hb)
theorem NodeV.up {h0 h':H} {p:Nat} {t:Tree} {v:V} (k:NodeV h0 h p t v) (s:Sub h h'):NodeV h0 h' p t v:=NodeV.move (fun c o z n hc=>⟨z,s _ _ hc⟩) k
theorem KidsV.up {h0 h':H} {p:Nat} {t:List Tree} {v:V} (k:KidsV h0 h p t v) (s:Sub h h'):KidsV h0 h' p t v:=KidsV.move (fun c o z n hc=>⟨z,s _ _ hc⟩) k
theorem Words.of {h:H} (hs:Sub (hP m) h):Words h:=words_P.sub hs
theorem awake13_ac (hs:Sub (hP m) h) (hq:∀ h',Sub h h' → Q (.bool true) h'):AC pg (.fn 21) [] h Q:=by
 obtain ⟨t1,e1,x1,y1⟩:=aw1
 refine AC.fn' (g:=g21) rfl (by simp only [List.length_cons,List.length_nil,g21]; decide) ?_; simp only [g21,Mir.Ab.all]
 refine W0 ?_
 refine Parse_ac (Words.of hs) (mm:=m) (hs _ _ rfl) (by decide) (fun a e h' hp _=>by rw [e1] at hp; cases hp) fun t v p h1 hp s1 hv=>?_
 rw [e1] at hp; cases hp
 obtain ⟨kv,rfl,kb⟩:=hv.inv
 have kf:=kb.flat
 refine W1 kf ?_
 intro b1 hb1
 have K1:=hv.put (o:=.cells [.str t1.op,.str t1.text,.int .i64 t1.at',kv] false) hb1
 have s1':Sub h (hadd h1 b1 (.cells [.str t1.op,.str t1.text,.int .i64 t1.at',kv] false)):=s1.add hb1
 have c1:hadd h1 b1 (.cells [.str t1.op,.str t1.text,.int .i64 t1.at',kv] false) b1 = some (.cells [.str t1.op,.str t1.text,.int .i64 t1.at',kv] false):=hadd_same
 refine W1 kf ?_
 generalize hadd h1 b1 (.cells [.str t1.op,.str t1.text,.int .i64 t1.at',kv] false) = g1 at K1 s1' c1 ⊢
 have sg:Sub (hP m) g1:=fun x o hx=>s1' _ _ (hs _ _ hx)
 refine Parse_ac (Words.of sg) (mm:=m) (sg _ _ rfl) (by decide) (fun a e h2 hp s2=>?_) fun t v p h' hp _ _=>by rw [aw2] at hp; cases hp
 rw [aw2] at hp; cases hp
 refine W0 ?_
 intro b2 hb2
 have c2:=(s2.add (o:=.cells Z4 false) hb2) _ _ c1
 have s3:Sub g1 (hadd h2 b2 (.cells Z4 false)):=s2.add hb2
 unfold Z4 at c2 s3
 refine W2 c2 kf ?_
 refine print_ac (K1.up s3) (by rw [y1]; decide) x1 fun h3 s4=>?_
 rw [y1]
 refine W0 ?_
 exact ⟨_,Sub.refl,hq _ fun x o hx=>s4 _ _ (s3 _ _ (s1' _ _ hx))⟩
end Go.Proofs.YtkfbldogmgofoaaGreatDoor
namespace Go.Proofs.YtkfbldogmgofoaaGreatDoor
open Mir
variable {h:H} {Q:V → H → Prop} {m:Int}
theorem parsed_deep (n:Nat):parsedT (deepS n) = if 50 ≤ n then .inr (50,14) else .inl (nodeM [112,114,111,103,114,97,109] [nodeM [114,117,108,101] [.nd [110,117,109] [49] n [],nodeM [100,101,102,97,117,108,116] []]]):=by
 unfold parsedT
 rw [show lexT (deepS n) = .inr (deepK n) from deep_lex]
 exact parse_deep (deepK_ok n)
theorem deep_ac (z:Int) (hz:-9223372036854775808 ≤ z) (hz2:z < 9223372036854775808) (hq:∀ h',Q (.bool true) h'):AC pg (.fn 8) [.int .i64 z] (hP m) Q:=by
 refine AC.fn' (g:=g8) rfl (by simp only [List.length_cons,List.length_nil,g8]; decide) ?_; simp only [g8,Mir.Ab.all]
 by_cases c:z < 0 ∨ 100 < z
 ·have e:(decide (z < 0) || decide (100 < z)) = true:=by simpa using c
  by_cases c0:z < 0
  ·refine W0 ?_
   refine awake13_ac (m:=m) Sub.refl fun h2 s2=>?_
   refine W0 ?_
   exact ⟨_,Sub.refl,hq _⟩
  ·have c1:100 < z:=by omega
   refine W0 ?_
   refine awake13_ac (m:=m) Sub.refl fun h2 s2=>?_
   refine W0 ?_
   exact ⟨_,Sub.refl,hq _⟩
 obtain ⟨n,rfl⟩:∃ n:Nat,z = n:=⟨z.toNat,by omega⟩
 have hn:n ≤ 100:=by omega
 have c0:¬ (n:Int) < 0:=by omega
 have c1:¬ (100:Int) < n:=by omega
 refine W0 ?_
 refine E.cut AC.mono (fun ex a' h'=>ex = .exit 0 ∧ a'.d = [] ∧ a'.t 0 = .int .i64 n ∧ a'.t 3 = .str (List.replicate n 40) ∧ h' = hP m) ?_ ?_
 ·refine E.loopX AC.mono (fun (i:Nat) a' h'=>i ≤ n ∧ h' = hP m ∧ a'.d = [] ∧ a'.t 0 = .int .i64 n ∧ a'.t 3 = .str (List.replicate i 40) ∧ a'.t 4 = .int .i64 i) (fun i=>n - i) 0 ?_ ?_
  ·exact ⟨Nat.zero_le _,rfl,rfl,rfl,rfl,rfl⟩
  ·rintro i ⟨t,ds⟩ h' ⟨hi,rfl,hd,t0,t3,t4⟩
   simp only at hd t0 t3 t4; subst hd
   by_cases ci:i < n
   ·have ln:(List.replicate i (40:UInt8)).length = i:=List.length_replicate
    refine W4 t0 t3 t4 ln ?_
    exact ⟨i + 1,by omega,ci,by rw [List.replicate_succ'],by simp⟩
   ·obtain rfl:i = n:=by omega
    exact W3 t0 t3 t4 trivial
 ·rintro ex ⟨t,ds⟩ h' ⟨rfl,hd,t0,t3,rfl⟩
  simp only at hd t0 t3; subst hd
  have ln:(List.replicate n (40:UInt8)).length = n:=List.length_replicate
  refine W3 t0 t3 ln ?_
  refine E.cut AC.mono (fun ex a' h'=>ex = .exit 2 ∧ a'.d = [] ∧ a'.t 0 = .int .i64 n ∧ a'.t 3 = .str (deepS n) ∧ h' = hP m) ?_ ?_
  ·refine E.loopX AC.mono (fun (i:Nat) a' h'=>i ≤ n ∧ h' = hP m ∧ a'.d = [] ∧ a'.t 0 = .int .i64 n ∧ a'.t 3 = .str (List.replicate n 40 ++ [49] ++ List.replicate i 41) ∧ a'.t 5 = .int .i64 i) (fun i=>n - i) 0 ?_ ?_
   ·exact ⟨Nat.zero_le _,rfl,rfl,t0,by simp [upd],rfl⟩
   ·rintro i ⟨t,ds⟩ h' ⟨hi,rfl,hd,t0,t3,t5⟩
    simp only at hd t0 t3 t5; subst hd
    by_cases ci:i < n
    ·have l2:(List.replicate i (41:UInt8)).length = i:=List.length_replicate
     refine W5 t0 t3 t5 ln l2 ?_
     exact ⟨i + 1,by omega,ci,by rw [List.replicate_succ']; simp,by simp⟩
    ·obtain rfl:i = n:=by omega
     refine W3 t0 t3 t5 ?_
     rfl
  ·rintro ex ⟨t,ds⟩ h' ⟨rfl,hd,t0,t3,rfl⟩
   simp only at hd t0 t3; subst hd
   have ld:=deepS_len n
   have hp:=parsed_deep n
   refine W2 t0 t3 ?_
   refine Parse_ac words_P (mm:=m) rfl (by omega) (fun a e h1 hp1 s1=>?_) fun t2 v p h1 hp1 s1 hv=>?_
   ·rw [hp] at hp1
    by_cases c5:50 ≤ n
    ·rw [if_pos c5] at hp1
     cases hp1
     have c6:(50:Int) ≤ n:=by omega
     refine W1 t0 ?_
     intro b hb
     refine W1 t0 ?_
     refine awake13_ac (m:=m) (s1.add hb) fun h2 s2=>?_
     refine W0 ?_
     exact ⟨_,Sub.refl,hq _⟩
    ·rw [if_neg c5] at hp1; cases hp1
   ·rw [hp] at hp1
    by_cases c5:50 ≤ n
    ·rw [if_pos c5] at hp1; cases hp1
    ·rw [if_neg c5] at hp1
     cases hp1
     have c6:¬ (50:Int) ≤ n:=by omega
     obtain ⟨kv,rfl,kb⟩:=hv.inv
     have kf:=kb.flat
     refine W2 t0 kf ?_
     intro b hb
     refine W2 t0 kf ?_
     refine awake13_ac (m:=m) (s1.add hb) fun h2 s2=>?_
     refine W0 ?_
     exact ⟨_,Sub.refl,hq _⟩
end Go.Proofs.YtkfbldogmgofoaaGreatDoor
namespace Go.Proofs.YtkfbldogmgofoaaGreatDoor
open Mir Go.ChangeShapes Go.WideShapes Go.ChangeAt Go.RowKit
open Go.ChangeMaps (open_string shut_string)
set_option maxRecDepth 100000 in
theorem parseDeep_lifted (os:Os) (started:os.Started) (H:Type) (enc:TypeId × Value → H) :
  ReturnsInHanded {} Tryz.checked os 8 .any (fun w args=>(Rows.parseDeepSpec.pre enc Tryz.prog Tryz.f8 Rows.parseDeepRow.domain false w args ∧ laidMet Tryz.prog laidsP w) ∧ sizedMet enc Tryz.prog Tryz.f8 (OpenSpec.ofChange Rows.parseDeepSpec) false w args) (Rows.parseDeepSpec.post enc Tryz.prog Tryz.f8 false true false false):=by
 refine handed_shaped (C:=Tryz.checked) (X:=fun w _=>laidMet Tryz.prog laidsP w) (fun _ _ _ hh h=>h.of_heap hh) Tryz.own started (by kernel_rfl) Tryz.func8
  (ChangeSpec.witness_shaped (enc:=enc) (C:=Tryz.checked) (os:=os) (X:=fun w _=>laidMet Tryz.prog laidsP w) false (laidWorldP os) #[.int .i64 0] 8 rfl (World.shaped_of_RefB (by kernel_rfl) (by kernel_rfl)) (by kernel_rfl) (by kernel_rfl) (by kernel_rfl) (laidWorldP_met os _)) ?_
 intro W base args ds gs before hval0 hW hcnd hLd hsh
 obtain ⟨L1,L2,L3,m,S⟩:=startP hLd hsh
 have hval:∀ (j:Nat) t v,Tryz.f8.params[j]? = some t → args[j]? = some v → Value.okWide Tryz.prog W .any base t v:=hval0
 have hW':=hW
 obtain ⟨p,q,hA0,hV,rfl,hfz,hnd⟩:=hW
 have hA:DataW.TrodAll enc Tryz.prog W 0 (fun _=>true) true Tryz.f8.params.toList args.toList ds p:=hA0
 rw [Tryz.params8] at hA hval
 obtain ⟨v0,d0,rfl,rfl,h0⟩:=trodAll_one hA
 obtain ⟨rfl,rfl⟩:=trodVars_none hV
 obtain ⟨x0,rfl,rfl,rfl,w0⟩:=open_int Tryz.underlying3 (hval 0 3 v0 rfl rfl) h0
 clear hA0 hval0
 simp only [List.append_nil] at hW'
 have w0':=w0
 simp only [Lit.wf,Bool.and_eq_true,decide_eq_true_eq] at w0'
 have h0l:-9223372036854775808 ≤ x0:=by have:=w0'.1; simp [IntKind.min,IntKind.bits,IntKind.signed] at this; omega
 have h0u:x0 < 9223372036854775808:=by have:=w0'.2; simp [IntKind.max,IntKind.bits,IntKind.signed] at this; omega
 have hcalls:=law_ro (f:=8) rfl (args:=[.int .i64 x0]) (args':=[.int .i64 x0]) (.cons (.int _ _) .nil) hP_ro (deep_ac x0 h0l h0u (fun _=>rfl)) (P_start S)
 refine hcalls.mono fun e W' ⟨he,hb⟩=>?_
 subst he
 exact ⟨_,rfl,post_of_plain hW' (fun _ _ _=>trodAll_mk1 (shut_bool Tryz.underlying4 true)) (fun sp=>trodAll_mk1 (shut_int Tryz.underlying3 w0)) (fun _=>rfl) hb (ok_one (by kernel_rfl) rfl (okWide_bool_mk Tryz.underlying4 true))⟩
theorem parseDeep_holds:Rows.ParseDeepSaid :=
 OpenClaim.holds_of_wide 8 Tryz.f8 rfl rfl rfl rfl rfl rfl rfl ⟨rfl,rfl,rfl,rfl,rfl⟩ rfl rfl rfl rfl rfl (by kernel_rfl) Tryz.func8 (by kernel_rfl)
  (of_decide_eq_true (by kernel_rfl)) (by unfold Func.isWrapper; first | (rw [if_pos (by decide +kernel)]; kernel_rfl) | (rw [if_neg (by decide +kernel)]; exact ⟨rfl,rfl⟩))
  (fun os started H enc _=>parseDeep_lifted os started H enc)
theorem parseDeepCard_holds:Rows.ParseDeepCardSaid :=
 Claim7.holds_tied_plain_at .later [] [.data,.data,.data,.widerDeep,.widerDeep,.widerDeep] true (true,"940a08ca661267cf0838873448a6070153acbc0a0ad72a3c6dd6014d7f7e68da") false
  parseDeep_holds (fun _ h=>by cases h) (by kernel_rfl) (fun _ h=>by cases h) parseDeep_row_tie rfl ⟨rfl,rfl⟩ (by kernel_rfl) rfl
  (fun f fn hf hfn=>by
   obtain rfl:f = 8:=Option.some.inj ((show Tryz.prog.funcNamed "scribe/scribelaw13.ParseDeep" = some 8 by kernel_rfl).symm.trans hf) |>.symm
   obtain rfl:fn = Tryz.f8:=(Option.some.inj (Tryz.func8.symm.trans hfn)).symm
   refine ⟨by kernel_rfl,fun j t ht=>?_⟩
   rw [Tryz.params8] at ht
   have h3:t = 3:=by
    rcases j with _ | j <;> simp at ht <;> simp [← ht]
   subst h3
   ·exact (show Tryz.prog.wantsStandIn 3 = false by kernel_rfl))
  (by kernel_rfl)
end Go.Proofs.YtkfbldogmgofoaaGreatDoor
