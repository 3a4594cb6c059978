/- ParseLines: for every input the law's function returns true and its arguments read as before. -/
import Derived.ChangeMaps5
import Derived.ChangeSame
import Derived.ChangeVars
import Derived.HandedShaped
import Derived.JoinedAt
import Derived.JoinedOf
import Derived.LaidLaws
import Derived.Lib.LaidTab
import Derived.ProofKit
import Derived.RowKit
import Derived.RowKit3
import Derived.RowKitTokens
import Derived.SevenTiedAt
import Derived.Shelf.Vars
import Derived.SizedLaws
import Derived.SliceStrings
import Derived.Stop.LaidErr
import Derived.Test.YtkfbldogmgofoaaGreatDoorCards
import Derived.Test.YtkfbldogmgofoaaGreatDoorTie
import Derived.Test.YtkfbldogmgofoaaGreatDoorK10
set_option linter.unusedSimpArgs false
set_option linter.unusedVariables false
namespace Go.Proofs.YtkfbldogmgofoaaGreatDoor
open Mir Go.ChangeShapes Go.WideShapes Go.ChangeAt Go.RowKit
theorem handed_shaped {H:Type} {enc:TypeId × Value → H} {a:Assume} {C:Checked} {os:Os} {f:FuncId} {fn:Func} {s:ChangeSpec} {conds:List PathCond} {apart fresh handsOn again:Bool} {X:World → Array Value → Prop}
  (hX:∀ (w w':World) (args:Array Value),w.heap = w'.heap → X w args → X w' args)
  (own:ownKnob C.prog.godebug = none) (started:os.Started) (noInit:C.prog.inits.idxOf? f = none) (hfn:C.prog.funcs[f]? = some fn)
  (witness:∃ (w:World) (tape:Tape) (i:Input),w.os = os ∧ (w.forCall tape i).Shaped C.prog ∧ i.vars = [] ∧ Input.okWide C.prog (w.forCall tape i) .any w.heap.size f i ∧
   ((s.pre enc C.prog fn conds apart (w.forCall tape i).memory i.args ∧ X (w.forCall tape i).memory i.args) ∧ sizedMet enc C.prog fn (OpenSpec.ofChange s) apart (w.forCall tape i).memory i.args) ∧ a.holds C.prog (lone (Frame.enter C.prog f i.args .normal) [] (w.forCall tape i)))
  (contract:∀ (W:World) (base:Nat) (args:Array Value) (ds gs:List (DataW H)) (before:List MemPlace),
   (∀ (j:Nat) t v,fn.params[j]? = some t → args[j]? = some v → Value.okWide C.prog W .any base t v) →
   DataW.Whole enc C.prog fn.params.toList s.vars apart W args.toList ds gs before →
   conds.all (PathCond.test C.prog ⟨fn.params.toList,ds,s.plain.varTypes C.prog,gs⟩) = true →
   X W args → W.ShapedOpen C.prog →
   Calls C.prog f args W fun e W'=>∃ v,e = .returned v ∧ s.post enc C.prog fn apart fresh handsOn again W args v W') :
  ReturnsInHanded a C os f .any (fun w args=>(s.pre enc C.prog fn conds apart w args ∧ X w args) ∧ sizedMet enc C.prog fn (OpenSpec.ofChange s) apart w args) (s.post enc C.prog fn apart fresh handsOn again):=by
 refine returnsInHanded_of_calls own started noInit witness ?_
 intro w tape i _ hsh _ hok hpre hholds
 obtain ⟨_,_,_,fn',hfn',_,_,_,_,hval⟩:=hok
 have e:fn' = fn:=Option.some.inj (hfn'.symm.trans hfn)
 subst e
 obtain ⟨⟨⟨ds,gs,before,hw,hc⟩,hx⟩,hz⟩:=hpre
 have hw':=DataW.Whole.of_heap (w':=w.forCall tape i) (by rfl) hw
 refine (contract (w.forCall tape i) w.heap.size i.args ds gs before hval hw' hc (hX _ _ _ (by rfl) hx) hsh).mono fun e W' ⟨v,he,hp⟩=>?_
 subst he
 exact ChangeSpec.post_blind hp
theorem addr_eq {a:Addr} (h:a.spot = none):a = ⟨a.block,a.off,none⟩:=by cases a; simp at h; subst h; rfl
theorem heap_of_var? {P:Program} {W:World} {n:String} {g:Nat} {cs:Array Value} (hg:P.globalNamed n = some g) (h:W.var? P n = some cs):∃ t fr,W.heap[g]? = some (.cells cs t fr):=by
 unfold World.var? at h
 rw [hg,Option.bind_some] at h
 cases hx:W.heap[g]? with
 | none=>simp [hx] at h
 | some o =>
   cases o with
   | cells c t fr=>simp [hx] at h; subst h; exact ⟨t,fr,rfl⟩
   | _=>simp [hx] at h
structure TextsAt (W:World) (g:Nat) (ss:List (List UInt8)) (L:Mir.Loc):Prop where
 row:∃ c el fr,W.heap[L.B]? = some (.cells c el fr) ∧ c.size = L.n ∧ L.s + ss.length ≤ L.n ∧ ∀ i s,ss[i]? = some s → c[L.s + i]? = some (.string ⟨s.toArray⟩)
 var:∃ v t fr,W.heap[g]? = some (.cells #[v] t fr) ∧ v.oneCell' = true ∧ ∀ (μ:Mu) (b:Nat),μ b = some L → VR μ (.sl b 0 1 ss.length) v
theorem laid_texts {P:Program} {W:World} {n:String} {ss:List (List UInt8)} {r:List (String × DataW Unit)} {g:Nat} {t e:TypeId} {zero:Array Value}
  (h:laidMet P ((n,.slice (ss.map fun s=>.lit (.string s)) []) :: r) W) (hsh:W.ShapedOpen P) (hg:P.globalNamed n = some g) (ht:(P.globals[g]?).map (·.type) = some t) (hu:P.underlying t = some (.slice e)) (he:P.underlying e = some .string) (hce:P.cellsOf e = 1)
  (hlt:g < P.globals.size) (h0:((begin P (fun _ _=>0) default).world.heap[g]?).bind Obj.row? = some (zero,t)) (hz:zero.size = 1) (hb:P.buildable t = true) (hc:P.cellTypes P.depth t = some [t]) (hss:ss ≠ []):∃ L,TextsAt W g ss L:=by
 obtain ⟨ps,⟨g0,t0,cs0,f0,p0,q0,hg0,ht0,hv0,hd0,_,e0⟩,_,hrows⟩:=h
 obtain rfl:=Option.some.inj (hg.symm.trans hg0)
 obtain rfl:=Option.some.inj (ht.symm.trans ht0)
 obtain ⟨t',fr',hh⟩:=heap_of_var? hg hv0
 rcases open_strings hu he hce hd0 with ⟨hcs,hx⟩ | ⟨a,len,cap,xs,hcs,_,hl,hm,hlen,hx,hcell,hsz⟩
 ·have:=congrArg Prod.fst hx; cases this
 ·simp only [if_true] at hlen
  have hx1:=congrArg Prod.fst hx
  simp only [DataW.slice.injEq] at hx1
  obtain ⟨hx1,hx2⟩:=hx1
  have hcl:cap = len:=by
   have:=congrArg List.length hx2
   simp only [strs,List.length_map,List.length_nil,List.length_drop] at this
   omega
  subst hcl
  have hxs:xs.map (fun s=>s.data.toList) = ss:=by
   rw [List.take_of_length_le (by omega)] at hx1
   have:=congrArg (List.map fun (d:DataW Unit)=>match d with | .lit (.string s)=>s | _=>[]) hx1
   simp only [strs,List.map_map] at this
   simpa [Function.comp_def] using this.symm
  have hsl:ss.length = xs.length:=by rw [← hxs]; simp
  obtain ⟨cs,hh2,hs2,hr2⟩:=hsh.1 g zero t hlt h0
  rw [hh] at hh2
  simp only [Option.some.injEq,Obj.cells.injEq] at hh2
  obtain ⟨rfl,_,_⟩:=hh2
  obtain ⟨ts,hts,_,hall⟩:=hr2 hb
  rw [hc] at hts; cases hts
  have hcs':cs0 = #[.slice (some a) cap cap]:=by apply Array.toList_inj.1; rw [hcs]
  subst hcs'
  obtain ⟨u,hu',hok⟩:=hall 0 (.slice (some a) cap cap) rfl
  have:u = t:=by simpa using hu'.symm
  subst this
  have hsp:a.spot = none:=by
   simp only [Cell.ok,hu,World.has] at hok
   exact hok.2.2.2.1
  have hpos:0 < xs.length:=by rw [← hsl]; exact List.length_pos_iff.2 hss
  have key:∀ i,(a.add i) = ⟨a.block,a.off + i,none⟩:=fun i=>by
   unfold Addr.add; split
   ·rename_i e; subst e; exact addr_eq hsp
   ·rfl
  have hblk:∃ c el fr,W.heap[a.block]? = some (.cells c el fr) ∧ ∀ i,i < xs.length → c[a.off + i]? = some (.string (xs.getD i ByteArray.empty)):=by
   have hc0:=hcell 0 hpos
   rw [key] at hc0
   unfold World.cell? at hc0
   split at hc0
   ·rename_i c el fr e
    refine ⟨c,el,fr,e,fun i hi=>?_⟩
    have:=hcell i hi
    rw [key] at this
    unfold World.cell? at this
    simp only [e,Option.isSome_none,Bool.false_eq_true,if_false] at this
    exact this
   ·cases hc0
  obtain ⟨c,el,fr,hbk,hcs⟩:=hblk
  have hend:a.off + xs.length ≤ c.size:=by
   have:=hcs (xs.length - 1) (by omega)
   have:=(Array.getElem?_eq_some_iff.1 this).1
   omega
  refine ⟨⟨a.block,a.off,c.size⟩,⟨c,el,fr,hbk,rfl,by show a.off + ss.length ≤ c.size; omega,fun i s hi=>?_⟩,⟨_,t',fr',hh,rfl,fun μ b hμ=>?_⟩⟩
  ·rw [← hxs,List.getElem?_map] at hi
   cases hxi:xs[i]? with
   | none=>rw [hxi] at hi; cases hi
   | some x =>
     rw [hxi,Option.map_some,Option.some.injEq] at hi
     have hil:=(List.getElem?_eq_some_iff.1 hxi).1
     show c[a.off + i]? = _
     rw [hcs i hil,List.getD_eq_getElem?_getD,hxi,← hi]
     simp
  ·rw [addr_eq hsp]
   have:=VR.sl (μ:=μ) (b:=b) (o:=0) (es:=1) (len:=ss.length) (o':=0) (cap:=cap) hμ (by simp) (by omega) (by simp; omega) (by omega)
   have e:ss.length = cap:=by omega
   rw [e] at this
   rw [e]
   simpa using this
theorem R_ro {P:Program} {μ:Mu} {h:H} {w:World} (hfin:∃ N,∀ b,N ≤ b → μ b = none) (hglob:∀ g,g < P.globals.size → ∃ n,μ g = some ⟨g,0,n⟩)
  (hat:∀ b o,h b = some o → b < 1000 ∧ o.ro = true ∧ ∃ L x,μ b = some L ∧ w.heap[L.B]? = some x ∧ OR P μ L o x):R P μ h w:=by
 refine ⟨hfin,fun b o hb=>(hat b o hb).2.2,fun b b' o o' L L' hb hb' hne h1 h2 hro=>?_,hglob,fun b o L x hb hL hx=>⟨fun hB=>?_,fun hW=>?_⟩⟩
 ·rw [(hat b o hb).2.1] at hro; cases hro
 ·have:=(hat b o hb).1; have:=hB.2; omega
 ·have:=(hat b o hb).1; have:=hW.2; omega
theorem law_ro {f:Nat} {g:Mir.Fn} (hg:pg.fns f = some g) {args:List V} {args':List Value} {μ:Mu} {h:H} {w:World} (hv:VRs μ args args') (hro:∀ b o,h b = some o → o.ro = true)
  (hA:AC pg (.fn f) args h fun v _=>v = .bool true) (r:R Tryz.prog μ h w) :
  Calls Tryz.prog f args'.toArray w fun e w'=>e = .returned (.bool true) ∧ Below w.heap.size w w':=by
 refine (calls_of pg_ok hg hA hv r).mono fun e w' ⟨d,he,v,h',μ',hq,hd,st⟩=>?_
 subst hq
 rw [hd.bool_inv] at he
 refine ⟨he,st.os,st.tape,st.output,st.size,fun k hk=>st.kept k hk ?_⟩
 rintro ⟨b,o,L,hb,hr,_⟩
 rw [hro b o hb] at hr; cases hr
theorem Tryz.own:ownKnob Tryz.prog.godebug = none:=by kernel_rfl
section
variable {H:Type} {enc:TypeId × Value → H} {P:Program}
theorem post_of_plain {f:Func} {s:ChangeSpec} {apart fresh handsOn again:Bool} {W W':World} {args:Array Value} {v:Value} {ds gs:List (DataW H)}
  (hW:DataW.Whole enc P f.params.toList s.vars apart W args.toList ds gs [])
  (hres:∀ (b:Nat) (sp:Nat → Bool) (hd:Bool),DataW.TrodAll enc P W' b sp hd f.resultTypes.toList (v.resultList f.resultTypes.size) (s.fn H (ds ++ gs)).results [])
  (hargs:∀ sp:Nat → Bool,DataW.TrodAll enc P W' 0 sp true f.params.toList args.toList (s.fn H (ds ++ gs)).args [])
  (hvars:∀ sp:Nat → Bool,DataW.TrodVars enc P W' sp s.vars (s.fn H (ds ++ gs)).vars [])
  (hb:Below W.heap.size W W')
  (hok:∀ (j:Nat) (t:TypeId) (r:Value),f.resultTypes[j]? = some t → (v.resultList f.resultTypes.size)[j]? = some r → Value.okWide P W' .any 0 t r) :
  s.post enc P f apart fresh handsOn again W args v W':=by
 refine ⟨ds,gs,[],[],[],[],hW,hres _ _ _,hargs _,hvars _,hb.frame _,fun _=>?_⟩
 refine ⟨hok,_,_,([] ++ []) ++ [],⟨[] ++ [],[],trodAll_append (hargs _) (hres _ _ _),hvars _,rfl,?_,?_⟩,?_⟩
 ·intro b off hp; simp at hp
 ·intro _; simp
 ·intro p hp; simp at hp
end
end Go.Proofs.YtkfbldogmgofoaaGreatDoor
namespace Go.Proofs.YtkfbldogmgofoaaGreatDoor
open Mir Go.ChangeShapes Go.WideShapes Go.ChangeAt Go.RowKit
def specialT:List (List UInt8):=[[78,82],[78,70],[70,83],[79,70,83],[79,82,83],[70,73,76,69,78,65,77,69],[82,83,84,65,82,84],[82,76,69,78,71,84,72]]
def txtRow (l:List (List UInt8)):Array Value:=(l.map fun s=>Value.string ⟨s.toArray⟩).toArray
def hR (m:Int):H:=fun b =>
 if b = 1 then some (.cells [.sl 601 0 1 16] true) else if b = 2 then some (.cells [.sl 602 0 1 13] true) else if b = 3 then some (.cells [.sl 603 0 1 6] true)
 else if b = 0 then some (.cells [.sl 600 0 1 8] true) else if b = 4 then some (.cells [.int .i64 m] true)
 else if b = 601 then some (.cells (wordsT.map .str) true) else if b = 602 then some (.cells (builtinsT.map .str) true) else if b = 603 then some (.cells (bannedT.map .str) true) else if b = 600 then some (.cells (specialT.map .str) true) else none
theorem OR_one {W:World} {μ:Mu} {g:Nat} {v:Value} {t:TypeId} {fr:Nat × Nat} {x:V} (h1:v.oneCell' = true) (h2:VR μ x v):OR Tryz.prog μ ⟨g,0,1⟩ (.cells [x] true) (.cells #[v] t fr):=by
 refine ⟨_,t,fr,rfl,rfl,by simp,fun i y hy=>?_,fun h=>by cases h⟩
 have hi:i = 0:=by have:=(List.getElem?_eq_some_iff.1 hy).1; simpa using this
 subst hi; cases hy
 exact ⟨v,rfl,h2,h1⟩
theorem OR_txt {W:World} {μ:Mu} {g:Nat} {ss:List (List UInt8)} {L:Mir.Loc} (h:TextsAt W g ss L):∃ x,W.heap[L.B]? = some x ∧ OR Tryz.prog μ L (.cells (ss.map .str) true) x:=by
 obtain ⟨c,el,fr,h1,h2,h3,h4⟩:=h.row
 refine ⟨_,h1,c,el,fr,rfl,h2,by rw [List.length_map]; exact h3,fun i y hy=>?_,fun h=>by cases h⟩
 rw [List.getElem?_map] at hy
 cases e:ss[i]? with
 | none=>rw [e] at hy; cases hy
 | some s=>rw [e,Option.map_some,Option.some.injEq] at hy; subst hy; exact ⟨_,h4 i s e,.str s,rfl⟩
theorem G_lt {b:Nat} (h:b < 8):b < Tryz.prog.globals.size:=Nat.lt_of_lt_of_le h (of_decide_eq_true (by kernel_rfl))
theorem G_le:Tryz.prog.globals.size ≤ 8:=of_decide_eq_true (by kernel_rfl)
end Go.Proofs.YtkfbldogmgofoaaGreatDoor
namespace Go.Proofs.YtkfbldogmgofoaaGreatDoor
open Mir Go.ChangeShapes Go.WideShapes Go.ChangeAt Go.RowKit
abbrev laidsP:List (String × DataW Unit):=[("math/bits.deBruijn32tab",Rows.laid_math_bits_deBruijn32tab),("math/bits.deBruijn64tab",Rows.laid_math_bits_deBruijn64tab),("internal/strconv.uint64pow10",Rows.laid_internal_strconv_uint64pow10),("scribe/lex.words",Rows.laid_scribe_lex_words),("scribe/lex.builtins",Rows.laid_scribe_lex_builtins),("scribe/lex.banned",Rows.laid_scribe_lex_banned)]
noncomputable def numsOf (d:DataW Unit) (k:IntKind):Array Value:=match d with
 | .agg l=>(l.map fun | .lit (.int _ z)=>Value.int k z | _=>.int k 0).toArray
 | _=>#[]
noncomputable def laidWorldP (os:Os):World :=
 let N:=(World.settled Tryz.prog os).heap.size
 let w0:=World.holding Tryz.prog os ⟨#[.cells (txtRow wordsT) 9,.cells (txtRow builtinsT) 9,.cells (txtRow bannedT) 9],#[],[]⟩
 let put (h:Array Obj) (g:Nat) (cs:Array Value):Array Obj:=h.modify g fun
  | .cells _ t frozen=>.cells cs t frozen
  | o=>o
 let h0:=put w0.heap 1 #[.slice (some ⟨N,0,none⟩) 16 16]
 let h1:=put h0 2 #[.slice (some ⟨N + 1,0,none⟩) 13 13]
 let h2:=put h1 3 #[.slice (some ⟨N + 2,0,none⟩) 6 6]
 let h3:=put h2 6 (numsOf Rows.laid_math_bits_deBruijn32tab .u8)
 let h4:=put h3 7 (numsOf Rows.laid_math_bits_deBruijn64tab .u8)
 let h5:=put h4 5 (numsOf Rows.laid_internal_strconv_uint64pow10 .u64)
 { w0 with heap:=h5 }
theorem laidWorldP_met (os:Os) (args:Array Value):laidMet Tryz.prog laidsP ((laidWorldP os).forCall (fun _ _=>0) ⟨#[],args,[]⟩).memory :=
 laidMet_of_run' 8 (by kernel_rfl) (by kernel_rfl)
structure StartP (W:World) (L1 L2 L3:Mir.Loc) (m:Int):Prop where
 words:TextsAt W 1 wordsT L1
 builtins:TextsAt W 2 builtinsT L2
 banned:TextsAt W 3 bannedT L3
 maxLen:∃ t fr,W.heap[4]? = some (.cells #[.int .i64 m] t fr)
theorem startP {W:World} (h0:laidMet Tryz.prog laidsP W) (hsh:W.ShapedOpen Tryz.prog):∃ L1 L2 L3 m,StartP W L1 L2 L3 m:=by
 have h:=h0.tail.tail.tail
 obtain ⟨L1,h1⟩:=laid_texts (ss:=wordsT) (g:=1) (t:=37) (e:=9) (zero:=#[.slice none 0 0]) h hsh (by kernel_rfl) (by kernel_rfl) (by kernel_rfl) (by kernel_rfl) (by kernel_rfl) (of_decide_eq_true (by kernel_rfl)) (by kernel_rfl) rfl (by kernel_rfl) (by kernel_rfl) (by decide)
 obtain ⟨L2,h2⟩:=laid_texts (ss:=builtinsT) (g:=2) (t:=37) (e:=9) (zero:=#[.slice none 0 0]) h.tail hsh (by kernel_rfl) (by kernel_rfl) (by kernel_rfl) (by kernel_rfl) (by kernel_rfl) (of_decide_eq_true (by kernel_rfl)) (by kernel_rfl) rfl (by kernel_rfl) (by kernel_rfl) (by decide)
 obtain ⟨L3,h3⟩:=laid_texts (ss:=bannedT) (g:=3) (t:=37) (e:=9) (zero:=#[.slice none 0 0]) h.tail.tail hsh (by kernel_rfl) (by kernel_rfl) (by kernel_rfl) (by kernel_rfl) (by kernel_rfl) (of_decide_eq_true (by kernel_rfl)) (by kernel_rfl) rfl (by kernel_rfl) (by kernel_rfl) (by decide)
 obtain ⟨m,hm⟩:=cell_of_shapedOpen_int (P:=Tryz.prog) (g:=4) (t:=3) (zero:=#[.int .i64 0]) hsh (of_decide_eq_true (by kernel_rfl)) (by kernel_rfl) rfl (by kernel_rfl) (by kernel_rfl) (by kernel_rfl)
 obtain ⟨cs,hh,hs,_⟩:=hsh.1 4 #[.int .i64 0] 3 (of_decide_eq_true (by kernel_rfl)) (by kernel_rfl)
 have hcs:cs = #[.int .i64 m]:=by
  unfold World.cell? at hm
  simp only [hh,Option.isSome_none,Bool.false_eq_true,if_false] at hm
  have hs:cs.size = 1:=hs
  apply Array.ext_getElem?
  intro i
  rcases Nat.eq_zero_or_pos i with c | c
  ·subst c; rw [hm]; rfl
  ·rw [Array.getElem?_eq_none (by omega),Array.getElem?_eq_none (by simp; omega)]
 subst hcs
 exact ⟨L1,L2,L3,m,h1,h2,h3,⟨_,_,hh⟩⟩
def hP (m:Int):H:=fun b =>
 if b = 1 then some (.cells [.sl 601 0 1 16] true) else if b = 2 then some (.cells [.sl 602 0 1 13] true) else if b = 3 then some (.cells [.sl 603 0 1 6] true)
 else if b = 4 then some (.cells [.int .i64 m] true)
 else if b = 601 then some (.cells (wordsT.map .str) true) else if b = 602 then some (.cells (builtinsT.map .str) true) else if b = 603 then some (.cells (bannedT.map .str) true) else none
noncomputable def muP (L1 L2 L3:Mir.Loc):Mu:=fun b=>if b < Tryz.prog.globals.size then some ⟨b,0,1⟩ else if b = 601 then some L1 else if b = 602 then some L2 else if b = 603 then some L3 else none
theorem P_start {W:World} {L1 L2 L3:Mir.Loc} {m:Int} (S:StartP W L1 L2 L3 m):R Tryz.prog (muP L1 L2 L3) (hP m) W:=by
 have hG:=G_le
 have e1:muP L1 L2 L3 601 = some L1:=by unfold muP; rw [if_neg (by omega),if_pos rfl]
 have e2:muP L1 L2 L3 602 = some L2:=by unfold muP; rw [if_neg (by omega),if_neg (by omega),if_pos rfl]
 have e3:muP L1 L2 L3 603 = some L3:=by unfold muP; rw [if_neg (by omega),if_neg (by omega),if_neg (by omega),if_pos rfl]
 have eg:∀ b,b < 8 → muP L1 L2 L3 b = some ⟨b,0,1⟩:=fun b hb=>by unfold muP; rw [if_pos (G_lt hb)]
 refine R_ro ⟨1000,fun b hb=>?_⟩ (fun g hg=>⟨1,by unfold muP; rw [if_pos hg]⟩) fun b o hb=>?_
 ·unfold muP; rw [if_neg (by omega),if_neg (by omega),if_neg (by omega),if_neg (by omega)]
 ·unfold hP at hb
  split at hb
  ·rename_i e; subst e; cases hb
   obtain ⟨v,t,fr,q1,q2,q3⟩:=S.words.var
   exact ⟨by omega,rfl,_,_,eg _ (by omega),q1,OR_one (W:=W) q2 (q3 _ _ e1)⟩
  split at hb
  ·rename_i e; subst e; cases hb
   obtain ⟨v,t,fr,q1,q2,q3⟩:=S.builtins.var
   exact ⟨by omega,rfl,_,_,eg _ (by omega),q1,OR_one (W:=W) q2 (q3 _ _ e2)⟩
  split at hb
  ·rename_i e; subst e; cases hb
   obtain ⟨v,t,fr,q1,q2,q3⟩:=S.banned.var
   exact ⟨by omega,rfl,_,_,eg _ (by omega),q1,OR_one (W:=W) q2 (q3 _ _ e3)⟩
  split at hb
  ·rename_i e; subst e; cases hb
   obtain ⟨t,fr,q1⟩:=S.maxLen
   exact ⟨by omega,rfl,_,_,eg _ (by omega),q1,OR_one (W:=W) rfl (.int _ _)⟩
  split at hb
  ·rename_i e; subst e; cases hb
   obtain ⟨x,q1,q2⟩:=OR_txt (μ:=muP L1 L2 L3) S.words
   exact ⟨by omega,rfl,_,x,e1,q1,q2⟩
  split at hb
  ·rename_i e; subst e; cases hb
   obtain ⟨x,q1,q2⟩:=OR_txt (μ:=muP L1 L2 L3) S.builtins
   exact ⟨by omega,rfl,_,x,e2,q1,q2⟩
  split at hb
  ·rename_i e; subst e; cases hb
   obtain ⟨x,q1,q2⟩:=OR_txt (μ:=muP L1 L2 L3) S.banned
   exact ⟨by omega,rfl,_,x,e3,q1,q2⟩
  ·cases hb
theorem hP_ro {m:Int}:∀ b o,hP m b = some o → o.ro = true:=by
 intro b o hb
 unfold hP at hb
 repeat' (split at hb)
 all_goals first | (cases hb; rfl) | (cases hb)
end Go.Proofs.YtkfbldogmgofoaaGreatDoor
namespace Go.Proofs.YtkfbldogmgofoaaGreatDoor
open Mir
variable {h:H} {Q:V → H → Prop} {m:Int}
theorem words_P:Words (hP m):=⟨⟨rfl,rfl⟩,⟨rfl,rfl⟩,rfl,rfl⟩
def awk1:Tree ⊕ (Nat × Nat) → Bool
 | .inl t=>shortT t && (spellT t == [40,112,114,111,103,114,97,109,32,40,98,101,103,105,110,32,40,98,108,111,99,107,32,40,101,120,112,114,32,40,97,115,115,105,103,110,32,49,58,61,32,40,118,97,114,32,49,58,120,41,32,40,99,97,116,32,40,118,97,114,32,49,58,97,41,32,40,97,100,100,32,40,118,97,114,32,49,58,98,41,32,40,110,117,109,32,49,58,49,41,41,41,41,41,41,41,41])
 | .inr _=>false
theorem aw1:∃ t,parsedT [66,69,71,73,78,123,120,61,97,32,98,43,49,125] = .inl t ∧ shortT t = true ∧ spellT t = [40,112,114,111,103,114,97,109,32,40,98,101,103,105,110,32,40,98,108,111,99,107,32,40,101,120,112,114,32,40,97,115,115,105,103,110,32,49,58,61,32,40,118,97,114,32,49,58,120,41,32,40,99,97,116,32,40,118,97,114,32,49,58,97,41,32,40,97,100,100,32,40,118,97,114,32,49,58,98,41,32,40,110,117,109,32,49,58,49,41,41,41,41,41,41,41,41]:=by
 have e:awk1 (parsedT [66,69,71,73,78,123,120,61,97,32,98,43,49,125]) = true:=by decide +kernel
 generalize parsedT [66,69,71,73,78,123,120,61,97,32,98,43,49,125] = r at e
 cases r with
 | inl t=>exact ⟨t,rfl,(Bool.and_eq_true_iff.1 e).1,eq_of_beq (Bool.and_eq_true_iff.1 e).2⟩
 | inr x=>cases e
theorem aw2:parsedT [66,69,71,73,78,123,120,61,125] = .inr (8,9):=by
 have e:(match parsedT [66,69,71,73,78,123,120,61,125] with | .inl _=>false | .inr x=>x == (8,9)) = true:=by decide +kernel
 generalize parsedT [66,69,71,73,78,123,120,61,125] = r at e
 cases r with
 | inl t=>cases e
 | inr x=>rw [eq_of_beq e]
theorem _root_.Mir.Sub.add {h':H} (s:Sub h h') {b:Nat} (hb:h' b = none) {o:AObj}:Sub h (hadd h' b o):=s.put (s.none hb)
theorem NodeV.up {h0 h':H} {p:Nat} {t:Tree} {v:V} (k:NodeV h0 h p t v) (s:Sub h h'):NodeV h0 h' p t v:=NodeV.move (fun c o z n hc=>⟨z,s _ _ hc⟩) k
theorem KidsV.up {h0 h':H} {p:Nat} {t:List Tree} {v:V} (k:KidsV h0 h p t v) (s:Sub h h'):KidsV h0 h' p t v:=KidsV.move (fun c o z n hc=>⟨z,s _ _ hc⟩) k
theorem Words.of {h:H} (hs:Sub (hP m) h):Words h:=words_P.sub hs
theorem awake13_ac (hs:Sub (hP m) h) (hq:∀ h',Sub h h' → Q (.bool true) h'):AC pg (.fn 21) [] h Q:=by
 obtain ⟨t1,e1,x1,y1⟩:=aw1
 refine AC.fn' (g:=g21) rfl (by simp only [List.length_cons,List.length_nil,g21]; decide) ?_; simp only [g21,Mir.Ab.all]
 refine W0 ?_
 refine Parse_ac (Words.of hs) (mm:=m) (hs _ _ rfl) (by decide) (fun a e h' hp _=>by rw [e1] at hp; cases hp) fun t v p h1 hp s1 hv=>?_
 rw [e1] at hp; cases hp
 obtain ⟨kv,rfl,kb⟩:=hv.inv
 have kf:=kb.flat
 refine W1 kf ?_
 intro b1 hb1
 have K1:=hv.put (o:=.cells [.str t1.op,.str t1.text,.int .i64 t1.at',kv] false) hb1
 have s1':Sub h (hadd h1 b1 (.cells [.str t1.op,.str t1.text,.int .i64 t1.at',kv] false)):=s1.add hb1
 have c1:hadd h1 b1 (.cells [.str t1.op,.str t1.text,.int .i64 t1.at',kv] false) b1 = some (.cells [.str t1.op,.str t1.text,.int .i64 t1.at',kv] false):=hadd_same
 refine W1 kf ?_
 generalize hadd h1 b1 (.cells [.str t1.op,.str t1.text,.int .i64 t1.at',kv] false) = g1 at K1 s1' c1 ⊢
 have sg:Sub (hP m) g1:=fun x o hx=>s1' _ _ (hs _ _ hx)
 refine Parse_ac (Words.of sg) (mm:=m) (sg _ _ rfl) (by decide) (fun a e h2 hp s2=>?_) fun t v p h' hp _ _=>by rw [aw2] at hp; cases hp
 rw [aw2] at hp; cases hp
 refine W0 ?_
 intro b2 hb2
 have c2:=(s2.add (o:=.cells Z4 false) hb2) _ _ c1
 have s3:Sub g1 (hadd h2 b2 (.cells Z4 false)):=s2.add hb2
 unfold Z4 at c2 s3
 refine W2 c2 kf ?_
 refine print_ac (K1.up s3) (by rw [y1]; decide) x1 fun h3 s4=>?_
 rw [y1]
 refine W0 ?_
 exact ⟨_,Sub.refl,hq _ fun x o hx=>s4 _ _ (s3 _ _ (s1' _ _ hx))⟩
end Go.Proofs.YtkfbldogmgofoaaGreatDoor
namespace Mir
mutual
inductive LikeT:Tree → Tree → Prop
 | mk {o t:Txt} {a b:Nat} {l m:List Tree}:l.length ≤ 100000 → LikeTs l m → LikeT (.nd o t a l) (.nd o t b m)
inductive LikeTs:List Tree → List Tree → Prop
 | nil:LikeTs [] []
 | cons {x y:Tree} {l m:List Tree}:LikeT x y → LikeTs l m → LikeTs (x :: l) (y :: m)
end
theorem LikeTs.len:∀ {l m:List Tree},LikeTs l m → l.length = m.length
 | _,_,.nil=>rfl
 | _,_,.cons _ k=>congrArg (· + 1) k.len
theorem LikeTs.get:∀ {l m:List Tree},LikeTs l m → ∀ i,i < l.length → LikeT (l.getD i .zero) (m.getD i .zero)
 | _,_,.nil,i,h=>absurd h (Nat.not_lt_zero _)
 | _,_,.cons a k,0,_=>a
 | _,_,.cons a k,i + 1,h=>k.get i (by simpa using h)
mutual
theorem LikeT.symm:∀ {a b:Tree},LikeT a b → LikeT b a
 | _,_,.mk hl k=>.mk (by rw [← k.len]; exact hl) k.symm
theorem LikeTs.symm:∀ {l m:List Tree},LikeTs l m → LikeTs m l
 | _,_,.nil=>.nil
 | _,_,.cons a k=>.cons a.symm k.symm
end
theorem LikeTs.app:∀ {l m l' m':List Tree},LikeTs l m → LikeTs l' m' → LikeTs (l ++ l') (m ++ m')
 | _,_,_,_,.nil,k=>k
 | _,_,_,_,.cons a k,k'=>.cons a (k.app k')
end Mir
namespace Go.Proofs.YtkfbldogmgofoaaGreatDoor
open Mir
variable {h0 h1 h:H} {Q:V → H → Prop} {p q:Nat}
theorem kids_get {l:List Tree} {kv:V} (k:KidsV h0 h p l kv) {i:Nat} (hi:i < l.length):∃ b cs kv',kv = .sl b 0 4 l.length ∧ h b = some (.cells cs false) ∧ (cs.drop (i * 4)).take 4 = nodeC (l.getD i .zero) kv' ∧ KidsV h0 h p (l.getD i .zero).kids kv' ∧ cs.length = 4 * l.length:=by
 cases k with
 | nil=>cases hi
 | sl q1 q2 q3 q4 q5 =>
   obtain ⟨kv',e4,k5⟩:=q5.get hi
   exact ⟨_,_,kv',rfl,q4,e4,k5,q5.len⟩
theorem same_ac:∀ (N:Nat) (a b:Tree),tsz a < N → ∀ {v w:V} {h:H} {Q:V → H → Prop},NodeV h0 h p a v → NodeV h1 h q b w → LikeT a b →
  (∀ h',Sub h h' → Q (.bool true) h') → AC pg (.fn 22) [v,w] h Q
 | 0,_,_,hN,_,_,_,_,_,_,_,_=>absurd hN (Nat.not_lt_zero _)
 | N + 1,.nd op tx a l,.nd op' tx' b m,hN,v,w,h,Q,Ka,Kb,hA,hq=>by
   cases hA with | mk hk hl =>
   have len:=hl.len
   obtain ⟨kv,rfl,ka⟩:=Ka.inv
   obtain ⟨kw,rfl,kb⟩:=Kb.inv
   simp only [Tree.op,Tree.text,Tree.at',Tree.kids] at ka kb ⊢
   have fa:=ka.flat
   have fb:=kb.flat
   refine AC.fn' (g:=g22) rfl (by simp only [List.length_cons,List.length_nil,g22]; decide) ?_; simp only [g22,Mir.Ab.all]
   refine W2 fa fb ?_
   intro b2 hb2
   have sa:=(Sub.refl (h:=h)).add (o:=.cells [.str op,.str tx,.int .i64 a,kv] false) hb2
   have c2:hadd h b2 (.cells [.str op,.str tx,.int .i64 a,kv] false) b2 = some (.cells [.str op,.str tx,.int .i64 a,kv] false):=hadd_same
   refine W2 fa fb ?_
   generalize hadd h b2 (.cells [.str op,.str tx,.int .i64 a,kv] false) = g2 at sa c2 ⊢
   intro b3 hb3
   have sb:=(Sub.refl (h:=g2)).add (o:=.cells [.str op,.str tx,.int .i64 b,kw] false) hb3
   have c3:hadd g2 b3 (.cells [.str op,.str tx,.int .i64 b,kw] false) b3 = some (.cells [.str op,.str tx,.int .i64 b,kw] false):=hadd_same
   have c2':=sb _ _ c2
   refine W2 fa fb ?_
   generalize hadd g2 b3 (.cells [.str op,.str tx,.int .i64 b,kw] false) = g3 at sb c3 c2' ⊢
   have ka':=(ka.up sa).up sb
   have kb':=(kb.up sa).up sb
   refine W4 c2' c3 fa fb ?_
   have all:=ka'.ll
   have bll:=kb'.ll
   refine AC.fn' (g:=g36) rfl (by simp only [List.length_cons,List.length_nil,g36]; decide) ?_; simp only [g36,Mir.Ab.all]
   refine W3 all bll len ?_
   refine E.cut AC.mono (fun ex a' h'=>ex = .exit 0 ∧ a'.d = [] ∧ Sub g3 h') ?_ ?_
   ·refine E.loopX AC.mono (fun (i:Nat) a' h'=>i ≤ l.length ∧ Sub g3 h' ∧ a'.d = [] ∧ a'.t 1 = kw ∧ a'.t 2 = .fn 22 [] [] ∧ a'.t 15 = kv ∧ a'.t 16 = .int .i64 l.length ∧ a'.t 17 = .int .i64 i) (fun i=>l.length - i) 0 ?_ ?_
    ·exact ⟨Nat.zero_le _,Sub.refl,rfl,rfl,rfl,rfl,by rw [len]; rfl,rfl⟩
    ·rintro i ⟨t,ds⟩ h4 ⟨hi,s4,hd,t1,t2,t15,t16,t17⟩
     simp only at hd t1 t2 t15 t16 t17; subst hd
     by_cases ci:i < l.length
     ·obtain ⟨x,cs,kx,ex,hx,tx,kkx,lx⟩:=kids_get (ka'.up s4) ci
      obtain ⟨y,ds,ky,ey,hy,ty,kky,ly⟩:=kids_get (kb'.up s4) (i:=i) (by omega)
      have li:=hl.get i ci
      have sz:=size_get ci
      generalize l.getD i .zero = tm at tx kkx li sz
      generalize m.getD i .zero = tn at ty kky li
      have fx:=kkx.flat
      have fy:=kky.flat
      refine W8 t1 t2 t15 t16 t17 ex hx (And.intro tx lx) ?_
      intro b8 hb8
      have s8:=s4.add (o:=.cells (nodeC tm kx) false) hb8
      have d8:hadd h4 b8 (.cells (nodeC tm kx) false) b8 = some (.cells (nodeC tm kx) false):=hadd_same
      have hy8:hadd h4 b8 (.cells (nodeC tm kx) false) y = some (.cells ds false):=(Sub.refl.add hb8) _ _ hy
      have kkx8:=kkx.put (o:=.cells (nodeC tm kx) false) hb8
      have kky8:=kky.put (o:=.cells (nodeC tm kx) false) hb8
      refine W7 t1 t2 t15 t16 t17 ex fx ?_
      generalize hadd h4 b8 (.cells (nodeC tm kx) false) = g8 at s8 d8 hy8 kkx8 kky8 ⊢
      refine W8 t1 t2 t15 t16 t17 ey hy8 (And.intro ty (And.intro ly len)) ?_
      intro b9 hb9
      have s9:=s8.add (o:=.cells (nodeC tn ky) false) hb9
      have d9:hadd g8 b9 (.cells (nodeC tn ky) false) b9 = some (.cells (nodeC tn ky) false):=hadd_same
      have d8':=((Sub.refl (h:=g8)).add (o:=.cells (nodeC tn ky) false) hb9) _ _ d8
      have kkx9:=kkx8.put (o:=.cells (nodeC tn ky) false) hb9
      have kky9:=kky8.put (o:=.cells (nodeC tn ky) false) hb9
      refine W3 t1 t2 fy ?_
      generalize hadd g8 b9 (.cells (nodeC tn ky) false) = g9 at s9 d9 d8' kkx9 kky9 ⊢
      refine W6 t1 t2 d8' d9 fx fy ?_
      refine same_ac N tm tn (by unfold tsz at hN; omega) (NodeV.of kkx9) (NodeV.of kky9) li fun h5 s5=>?_
      refine W5 t1 t2 t15 t16 t17 ?_
      exact ⟨i + 1,by omega,by omega,fun x o hx=>s5 _ _ (s9 _ _ hx),by simp [ex,ey,len]⟩
     ·refine W5 t1 t2 t15 t16 t17 ?_
      exact s4
   ·rintro ex ⟨t,ds⟩ h4 ⟨rfl,hd,s4⟩
    simp only at hd; subst hd
    refine W0 ?_
    exact ⟨_,Sub.refl,_,Sub.refl,hq _ fun x o hx=>s4 _ _ (sb _ _ (sa _ _ hx))⟩
end Go.Proofs.YtkfbldogmgofoaaGreatDoor
namespace Go.Proofs.YtkfbldogmgofoaaGreatDoor
open Mir
structure Two (T T':List Tokn) (N k d n:Nat):Prop where
 W:TkOk T N
 len:T.length = n + 1
 len':n + k + 1 ≤ T'.length
 big:T.length ≤ 100000
 tk:∀ j,j < n → (T'.getD (j + k) tkz).k = (T.getD j tkz).k
 tt:∀ j,j < n → (T'.getD (j + k) tkz).t = (T.getD j tkz).t
 stop:(T'.getD (n + k) tkz).k = 0 ∨ (T'.getD (n + k) tkz).k = 1 ∨ (T'.getD (n + k) tkz).k = 8 ∧ (T'.getD (n + k) tkz).t = [41]
structure Rel (T:List Tokn) (N k d:Nat) (s s':PS):Prop where
 ok:SOk T N s
 e:s.err = 0
 e':s'.err = 0
 i:s'.i = s.i + k
 dp:s'.deep = s.deep + d
 fl:s'.flat = s.flat
 low:s'.deep ≤ 50
def To (T:List Tokn) (N k d:Nat) (s s':PS):Prop:=(0 < d ∧ s'.err = 14) ∨ Rel T N k d s s'
theorem back {a b:PS} (f:Kp a a → Kp a b) (e:b.err = 0):a.err = 0:=Classical.byContradiction fun h=>(f (Kp.refl h)).n e
theorem fore {a b:PS} (f:Kp a a → Kp a b) (e:a.err = 14):b.err = 14:=(f (Kp.refl (by omega))).eq.trans e
variable {T T':List Tokn} {N k d n:Nat} {s s':PS}
theorem Rel.le (X:Two T T' N k d n) (r:Rel T N k d s s'):s.i ≤ n:=by have:=r.ok.lt; have:=X.len; omega
theorem Rel.k0 (X:Two T T' N k d n) (r:Rel T N k d s s') (h:s.i = n):(s.cur T).k = 0:=by
 have:=X.W.last
 rw [X.len] at this
 rw [cur_o r.e,h]; exact this
theorem Rel.lt (X:Two T T' N k d n) (r:Rel T N k d s s') (h:(s.cur T).k ≠ 0):s.i < n:=by
 have:=r.le X
 by_cases c:s.i = n
 ·exact absurd (r.k0 X c) h
 ·omega
theorem Rel.curk (X:Two T T' N k d n) (r:Rel T N k d s s') (h:s.i < n):(s'.cur T').k = (s.cur T).k:=by
 rw [cur_o r.e,cur_o r.e',r.i]; exact X.tk _ h
theorem Rel.curt (X:Two T T' N k d n) (r:Rel T N k d s s') (h:s.i < n):(s'.cur T').t = (s.cur T).t:=by
 rw [cur_o r.e,cur_o r.e',r.i]; exact X.tt _ h
theorem Rel.stop (X:Two T T' N k d n) (r:Rel T N k d s s') (h:s.i = n):(s'.cur T').k = 0 ∨ (s'.cur T').k = 1 ∨ (s'.cur T').k = 8 ∧ (s'.cur T').t = [41]:=by
 rw [cur_o r.e',r.i,h]; exact X.stop
theorem Rel.atL (X:Two T T' N k d n) (r:Rel T N k d s s') (h:s.i < n) (l:List Txt):s'.isAt T' l = s.isAt T l:=by
 unfold PS.isAt; rw [r.curk X h,r.curt X h]
theorem Rel.at (X:Two T T' N k d n) (r:Rel T N k d s s') (l:List Txt) (hl:[41] ∉ l):s'.isAt T' l = s.isAt T l:=by
 by_cases c:s.i < n
 ·exact r.atL X c l
 ·have c:s.i = n:=by have:=r.le X; omega
  unfold PS.isAt
  rw [r.k0 X c]
  rcases r.stop X c with e | e | ⟨e,e'⟩
  ·rw [e]; rfl
  ·rw [e]; rfl
  ·rw [e,e']; simp [hl]
theorem Rel.ltA (X:Two T T' N k d n) (r:Rel T N k d s s') {l:List Txt} (h:s.isAt T l = true):s.i < n:=r.lt X (by rcases at_k h with e | e <;> omega)
theorem Rel.step (X:Two T T' N k d n) (r:Rel T N k d s s') (h:s.i < n):Rel T N k d (s.step T) (s'.step T'):=by
 have ok:=(step_fwd X.W r.ok).ok
 have h1:s.step T = { s with i:=s.i + 1 }:=by unfold PS.step; rw [if_pos ⟨r.e,by rw [X.len]; omega⟩]
 have h2:s'.step T' = { s' with i:=s'.i + 1 }:=by unfold PS.step; rw [if_pos ⟨r.e',by have:=X.len'; have:=r.i; omega⟩]
 rw [h1] at ok ⊢
 rw [h2]
 exact ⟨ok,r.e,r.e',by show s'.i + 1 = s.i + 1 + k; have:=r.i; omega,r.dp,r.fl,r.low⟩
theorem Rel.stepA (X:Two T T' N k d n) (r:Rel T N k d s s') {l:List Txt} (h:s.isAt T l = true):Rel T N k d (s.step T) (s'.step T'):=r.step X (r.ltA X h)
theorem Rel.expect (X:Two T T' N k d n) (r:Rel T N k d s s') (x:Txt) (h:(s.expect T x).err = 0):s.isAt T [x] = true ∧ Rel T N k d (s.expect T x) (s'.expect T' x):=by
 unfold PS.expect at h ⊢
 cases c:s.isAt T [x]
 ·rw [c,if_neg (by decide)] at h
  exact absurd h (fail_adv X.W r.ok)
 ·rw [if_pos rfl,r.atL X (r.ltA X c),c,if_pos rfl]
  exact ⟨rfl,r.stepA X c⟩
theorem linesN_rel (X:Two T T' N k d n):∀ (K K':Nat) {s s':PS},Rel T N k d s s' → n ≤ s.i + K → n ≤ s.i + K' → (linesN T K s).i ≠ n → Rel T N k d (linesN T K s) (linesN T' K' s')
 | 0,K',s,s',r,h,_,hn=>by
   have:=r.le X
   exact absurd (show s.i = n by omega) hn
 | K + 1,K',s,s',r,h,h',hn=>by
   rw [linesN] at hn ⊢
   by_cases c:(s.cur T).k = 1
   ·have lt:=r.lt X (by omega)
    have st:(s.step T).i = s.i + 1:=by unfold PS.step; rw [if_pos ⟨r.e,by rw [X.len]; omega⟩]
    rw [if_pos c] at hn ⊢
    obtain ⟨K',rfl⟩:∃ j,K' = j + 1:=⟨K' - 1,by omega⟩
    rw [linesN,if_pos (by rw [r.curk X lt]; exact c)]
    exact linesN_rel X K K' (r.step X lt) (by omega) (by omega) hn
   ·rw [if_neg c] at hn ⊢
    have lt:s.i < n:=by have:=r.le X; omega
    cases K' with
    | zero=>exact r
    | succ K'=>rw [linesN,if_neg (by rw [r.curk X lt]; exact c)]; exact r
theorem Rel.lines (X:Two T T' N k d n) (r:Rel T N k d s s') (h:(s.lines T).i ≠ n):Rel T N k d (s.lines T) (s'.lines T') :=
 linesN_rel X _ _ r (by have:=X.len; omega) (by have:=X.len'; omega) h
theorem Rel.linesE (X:Two T T' N k d n) (r:Rel T N k d s s'):(s.lines T).err = 0:=by
 have f:=lines_fwd X.W r.ok
 unfold PS.lines
 have:∀ K (s:PS),s.err = 0 → (linesN T K s).err = 0:=fun K=>by
  induction K with
  | zero=>exact fun s h=>h
  | succ K ih =>
    intro s h
    rw [linesN]
    split
    ·refine ih _ ?_
     unfold PS.step; split <;> exact h
    ·exact h
 exact this _ _ r.e
theorem Rel.name (X:Two T T' N k d n) (r:Rel T N k d s s') (ks:List Nat) (h0:0 ∉ ks) (h:(s.name T ks).2.err = 0) :
  s.i < n ∧ (s'.name T' ks).1.t = (s.name T ks).1.t ∧ Rel T N k d (s.name T ks).2 (s'.name T' ks).2:=by
 unfold PS.name at h ⊢
 by_cases c:(s.cur T).k ∈ ks
 ·have lt:=r.lt X (fun e=>h0 (by rw [← e]; exact c))
  rw [if_pos c,if_pos (by rw [r.curk X lt]; exact c)]
  exact ⟨lt,r.curt X lt,r.step X lt⟩
 ·rw [if_neg c] at h
  exact absurd h (fail_adv X.W r.ok)
theorem Rel.flat (r:Rel T N k d s s') (f:Bool):Rel T N k d { s with flat:=f } { s' with flat:=f }:=⟨⟨r.ok.lt,r.ok.code,r.ok.bad,r.ok.low⟩,r.e,r.e',r.i,r.dp,rfl,r.low⟩
theorem Rel.down (X:Two T T' N k d n) (r:Rel T N k d s s') (h:(s.down T).err = 0):To T N k d (s.down T) (s'.down T'):=by
 have ok:=(down_ok X.W r.ok).1
 have c:¬ (50 < s.deep + 1 ∧ s.err = 0):=fun c=>by unfold PS.down at h; rw [if_pos c] at h; cases h
 have h1:s.down T = { s with deep:=s.deep + 1 }:=by unfold PS.down; rw [if_neg c]
 have e:=r.e
 have dp:=r.dp
 by_cases c':50 < s'.deep + 1
 ·refine .inl ⟨by omega,?_⟩
  unfold PS.down; rw [if_pos ⟨c',r.e'⟩]
 ·have h2:s'.down T' = { s' with deep:=s'.deep + 1 }:=by unfold PS.down; rw [if_neg (fun x=>c' x.1)]
  rw [h1] at ok ⊢
  rw [h2]
  exact .inr ⟨ok,r.e,r.e',r.i,by show s'.deep + 1 = s.deep + 1 + d; omega,r.fl,by show s'.deep + 1 ≤ 50; omega⟩
theorem Rel.up (r:Rel T N k d s s') (h:0 < s.deep):Rel T N k d s.up s'.up:=by
 have dp:=r.dp
 have low:=r.low
 have:=r.ok.low r.e
 exact ⟨⟨r.ok.lt,r.ok.code,r.ok.bad,fun _=>by show s.deep - 1 ≤ 50; omega⟩,r.e,r.e',r.i,by show s'.deep - 1 = s.deep - 1 + d; omega,r.fl,by show s'.deep - 1 ≤ 50; omega⟩
end Go.Proofs.YtkfbldogmgofoaaGreatDoor
namespace Go.Proofs.YtkfbldogmgofoaaGreatDoor
open Mir
variable {T T':List Tokn} {N k d n m m':Nat} {s s':PS} {M M':PF}
def Both2 (T:List Tokn) (N k d:Nat) (x x':Tree × PS):Prop:=(0 < d ∧ x'.2.err = 14) ∨ (Rel T N k d x.2 x'.2 ∧ LikeT x.1 x'.1)
structure SF (T:List Tokn) (N k d m m':Nat) (M M':PF):Prop where
 fwd:∀ s,SOk T N s → lvl m 100 s → Fwd T N s (M s).2
 adv:∀ s,SOk T N s → lvl m 100 s → Adv s (M s).2
 kf:KF M
 kf':KF M'
 sim:∀ s s',Rel T N k d s s' → s.deep + m = 51 → s'.deep + m' = 51 → (M s).2.err = 0 → Both2 T N k d (M s) (M' s')
theorem lv {s:PS} (ok:SOk T N s) (e:s.err = 0) (h:s.deep + m = 51):lvl m 100 s:=⟨fun _=>h,by have:=ok.low e; omega⟩
theorem SF.lt (F:SF T N k d m m' M M') (X:Two T T' N k d n) (ok:SOk T N s) (e0:s.err = 0) (h:s.deep + m = 51) (e:(M s).2.err = 0):s.i < (M s).2.i ∧ (M s).2.i ≤ n ∧ (M s).2.deep = s.deep ∧ SOk T N (M s).2:=by
 have f:=F.fwd s ok (lv ok e0 h)
 have:=f.ok.lt
 have:=X.len
 rcases F.adv s ok (lv ok e0 h) e0 with a | a
 ·exact ⟨a,by omega,f.deep,f.ok⟩
 ·exact absurd e a
theorem at_of_expect (X:Two T T' N k d n) (ok:SOk T N s) {x:Txt} (h:(s.expect T x).err = 0):s.isAt T [x] = true:=by
 unfold PS.expect at h
 cases c:s.isAt T [x]
 ·rw [c,if_neg (by decide)] at h; exact absurd h (fail_adv X.W ok)
 ·rfl
theorem lt_of_at (X:Two T T' N k d n) (ok:SOk T N s) {l:List Txt} (h:s.isAt T l = true):s.i < n:=by
 have:=not_last X.W (by rcases at_k h with e | e <;> omega) ok
 have:=X.len; omega
theorem at_n (X:Two T T' N k d n) (h:s.i = n) (e:s.err = 0) (l:List Txt):s.isAt T l = false:=by
 have:=X.W.last
 rw [X.len] at this
 unfold PS.isAt
 rw [cur_o e,h,show n + 1 - 1 = n from rfl] at *
 rw [this]; rfl
theorem _root_.Mir.LikeT.op {a b:Tree} (h:LikeT a b):b.op = a.op:=by cases h; rfl
theorem _root_.Mir.LikeT.text {a b:Tree} (h:LikeT a b):b.text = a.text:=by cases h; rfl
theorem _root_.Mir.LikeT.place {a b:Tree} (h:LikeT a b):b.isPlace = a.isPlace:=by unfold Tree.isPlace; rw [h.op]
theorem _root_.Mir.LikeTs.nilIff {l l':List Tree} (h:LikeTs l l'):l' = [] ↔ l = []:=by cases h <;> simp
theorem _root_.Mir.LikeTs.one {a b:Tree} (h:LikeT a b):LikeTs [a] [b]:=.cons h .nil
theorem like_node (o:Txt) {l l':List Tree} (h:LikeTs l l') (hl:l.length ≤ 100000):LikeT (nodeM o l) (nodeM o l'):=.mk hl h
theorem like_leaf (o:Txt) {t t':Tokn} (e:t'.t = t.t) {l l':List Tree} (h:LikeTs l l') (hl:l.length ≤ 100000):LikeT (leafM o t l) (leafM o t' l'):=by
 unfold leafM; rw [e]; exact .mk hl h
theorem like_leaf0 (o:Txt) {t t':Tokn} (e:t'.t = t.t):LikeT (leafM o t []) (leafM o t' []):=like_leaf o e .nil (by simp)
theorem like1 (o:Txt) {a b:Tree} (h:LikeT a b):LikeT (nodeM o [a]) (nodeM o [b]):=.mk (by simp) (.one h)
theorem like2 (o:Txt) {a b a' b':Tree} (h:LikeT a a') (h2:LikeT b b'):LikeT (nodeM o [a,b]) (nodeM o [a',b']):=.mk (by simp) (.cons h (.one h2))
theorem like3 (o:Txt) {a b c a' b' c':Tree} (h:LikeT a a') (h2:LikeT b b') (h3:LikeT c c'):LikeT (nodeM o [a,b,c]) (nodeM o [a',b',c']):=.mk (by simp) (.cons h (.cons h2 (.one h3)))
theorem listN_s (e:Txt) (K:Nat) (l:List Tree) (s:PS):listN T M e (K + 1) l s = if s.err = 0 ∧ s.isAt T [e] = false then listN T M e K (l ++ [(M (if l = [] then s else (s.expect T [44]).lines T)).1]) ((M (if l = [] then s else (s.expect T [44]).lines T)).2.lines T) else (l,s):=by rw [listN]
theorem listN_lt (X:Two T T' N k d n) (F:SF T N k d m m' M M') (e:Txt) {K:Nat} {l:List Tree} (ok:SOk T N s) (e0:s.err = 0) (h:s.deep + m = 51) (hK:0 < K) (he:(listN T M e K l s).2.isAt T [e] = true):s.i < n:=by
 obtain ⟨K,rfl⟩:∃ j,K = j + 1:=⟨K - 1,by omega⟩
 have l1:=ok.lt
 have l2:=X.len
 refine Classical.byContradiction fun c=>?_
 have c:s.i = n:=by omega
 rw [listN,if_pos ⟨e0,at_n X c e0 _⟩] at he
 dsimp only at he
 have z:∀ y:PS,(M y).2.err ≠ 0 → (listN T M e K (l ++ [(M y).1]) ((M y).2.lines T)).2.isAt T [e] = false:=fun y hy=>((Kp.refl hy).lines.listN e K _).at _
 by_cases el:l = []
 ·rw [if_pos el] at he
  refine absurd he ?_
  rw [z s (fun q=>by have:=F.lt X ok e0 h q; omega)]; decide
 ·rw [if_neg el] at he
  refine absurd he ?_
  have:(s.expect T [44]).err ≠ 0:=fun q=>by have:=lt_of_at X ok (at_of_expect X ok q); omega
  rw [z _ (F.kf _ _ (Kp.refl this).lines).n]; decide
theorem listN_sim (X:Two T T' N k d n) (F:SF T N k d m m' M M') (e:Txt):∀ (K K':Nat) {l l':List Tree} {s s':PS},Rel T N k d s s' → LikeTs l l' → l.length ≤ s.i → n < s.i + K → n < s.i + K' → s.deep + m = 51 → s'.deep + m' = 51 →
  (listN T M e K l s).2.isAt T [e] = true → (0 < d ∧ (listN T' M' e K' l' s').2.err = 14) ∨ (Rel T N k d (listN T M e K l s).2 (listN T' M' e K' l' s').2 ∧ LikeTs (listN T M e K l s).1 (listN T' M' e K' l' s').1 ∧ (listN T M e K l s).1.length ≤ 99999)
 | 0,K',l,l',s,s',r,_,_,h,_,_,_,_=>by have:=r.le X; omega
 | K + 1,0,l,l',s,s',r,_,_,_,h,_,_,_=>by have:=r.le X; omega
 | K + 1,K' + 1,l,l',s,s',r,L,ll,hK,hK',hm,hm',he=>by
   have lt:=listN_lt X F e r.ok r.e hm (Nat.succ_pos _) he
   have len:=X.len
   have big:=X.big
   rw [listN_s] at he
   rw [listN_s e K l s,listN_s e K' l' s',r.atL X lt]
   by_cases ea:s.isAt T [e] = false
   ·rw [if_pos ⟨r.e,ea⟩] at he
    rw [if_pos (c:=s.err = 0 ∧ s.isAt T [e] = false) ⟨r.e,ea⟩,if_pos (c:=s'.err = 0 ∧ s.isAt T [e] = false) ⟨r.e',ea⟩]
    obtain ⟨y,hy⟩:∃ y,y = (if l = [] then s else (s.expect T [44]).lines T):=⟨_,rfl⟩
    obtain ⟨y',hy'⟩:∃ y',y' = (if l' = [] then s' else (s'.expect T' [44]).lines T'):=⟨_,rfl⟩
    rw [← hy] at he
    rw [← hy,← hy']
    have e1:(M y).2.err = 0:=Classical.byContradiction fun c=>by
     rw [((Kp.refl c).lines.listN e K _).at] at he; cases he
    have ey:y.err = 0:=back (fun q=>F.kf _ _ q) e1
    have ry:Rel T N k d y y' ∧ s.i ≤ y.i ∧ y.deep = s.deep ∧ y'.deep = s'.deep:=by
     by_cases el:l = []
     ·rw [if_pos el] at hy; rw [if_pos (L.nilIff.2 el)] at hy'
      rw [hy,hy']; exact ⟨r,Nat.le_refl _,rfl,rfl⟩
     ·rw [if_neg el] at hy; rw [if_neg (fun q=>el (L.nilIff.1 q))] at hy'
      have f1:=expect_fwd X.W r.ok [44]
      have f2:=f1.trans (lines_fwd X.W f1.ok)
      have ee:(s.expect T [44]).err = 0:=back (fun q=>q.lines) (by rw [← hy]; exact ey)
      obtain ⟨_,r1⟩:=r.expect X _ ee
      have:=F.lt X (s:=y) (by rw [hy]; exact f2.ok) ey (by rw [hy,f2.deep]; exact hm) e1
      have r2:=r1.lines X (by rw [← hy]; omega)
      rw [hy,hy']
      refine ⟨r2,f2.le,f2.deep,?_⟩
      have a:=r2.dp; have b:=r.dp; have c:=f2.deep; omega
    obtain ⟨ry,yi,yd,yd'⟩:=ry
    obtain ⟨g1,g2,g3,g4⟩:=F.lt X ry.ok ry.e (by omega) e1
    rcases F.sim _ _ ry (by omega) (by omega) e1 with ⟨d0,b⟩ | ⟨rx,lx⟩
    ·exact .inl ⟨d0,fore (fun q=>q.lines.listN e K' _) b⟩
    ·generalize M y = x at he e1 g1 g2 g3 g4 rx lx
     generalize M' y' = x' at rx lx
     have f3:=lines_fwd X.W rx.ok
     have ez:=rx.linesE X
     have lz:(x.2.lines T).i < n:=by
      refine listN_lt X F e f3.ok ez (by rw [f3.deep]; omega) (K:=K) ?_ he
      have:=f3.le
      have:=f3.ok.lt
      omega
     have rz:=rx.lines X (by omega)
     have q1:=rz.dp; have q2:=r.dp; have q3:=f3.deep; have q4:=f3.le
     exact listN_sim X F e K K' rz (L.app (.one lx)) (by rw [List.length_append]; show l.length + 1 ≤ _; omega) (by omega) (by omega) (by omega) (by omega) he
   ·rw [if_neg (fun q=>ea q.2),if_neg (fun q=>ea q.2)]
    exact .inr ⟨r,L,by show l.length ≤ 99999; have:=r.le X; omega⟩
theorem listM_sim (X:Two T T' N k d n) (F:SF T N k d m m' M M') (e:Txt) (r:Rel T N k d s s') (hm:s.deep + m = 51) (hm':s'.deep + m' = 51) (h:(listM T M e s).2.err = 0) :
  (0 < d ∧ (listM T' M' e s').2.err = 14) ∨ (Rel T N k d (listM T M e s).2 (listM T' M' e s').2 ∧ LikeTs (listM T M e s).1 (listM T' M' e s').1 ∧ (listM T M e s).1.length ≤ 99999):=by
 have r0:=r.flat false
 have f1:=lines_fwd X.W r0.ok
 have e1:=r0.linesE X
 have fl:=r.fl
 unfold listM at h ⊢
 dsimp only at h ⊢
 have f2:=listN_fwd X.W F.fwd e (T.length + 1) (l:=[]) f1.ok (lv f1.ok e1 (by rw [f1.deep]; exact hm))
 have he:(listN T M e (T.length + 1) [] (PS.lines T { s with flat:=false })).2.isAt T [e] = true:=at_of_expect X f2.ok h
 have lt:=listN_lt X F e f1.ok e1 (by rw [f1.deep]; exact hm) (Nat.succ_pos _) he
 have r1:=r0.lines X (by omega)
 have q1:=r1.dp; have q2:=r.dp; have q3:(PS.lines T { s with flat:=false }).deep = s.deep:=f1.deep
 have:=X.len; have:=X.len'
 rcases listN_sim X F e (T.length + 1) (T'.length + 1) r1 .nil (Nat.zero_le _) (by omega) (by omega) (by omega) (by omega) he with ⟨d0,b⟩ | ⟨r2,L,ll⟩
 ·exact .inl ⟨d0,fore (fun q=>(q.expect e).flat _) b⟩
 ·have r3:=(r2.expect X e h).2
  rw [fl]
  exact .inr ⟨r3.flat _,L,ll⟩
theorem insideM_sim (X:Two T T' N k d n) (F:SF T N k d m m' M M') (e:Txt) (r:Rel T N k d s s') (hm:s.deep + m = 51) (hm':s'.deep + m' = 51) (h:(insideM T M e s).2.err = 0):Both2 T N k d (insideM T M e s) (insideM T' M' e s'):=by
 have r0:=r.flat false
 have f1:=lines_fwd X.W r0.ok
 have e1:=r0.linesE X
 have fl:=r.fl
 unfold insideM at h ⊢
 dsimp only at h ⊢
 have e2:(M (PS.lines T { s with flat:=false })).2.err = 0:=back (fun q=>(q.lines.expect e)) h
 obtain ⟨g1,g2,g3,g4⟩:=F.lt X f1.ok e1 (by rw [f1.deep]; exact hm) e2
 have r1:=r0.lines X (by omega)
 have q1:=r1.dp; have q2:=r.dp; have q3:(PS.lines T { s with flat:=false }).deep = s.deep:=f1.deep
 rcases F.sim _ _ r1 (by omega) (by omega) e2 with ⟨d0,b⟩ | ⟨rx,lx⟩
 ·exact .inl ⟨d0,fore (fun q=>(q.lines.expect e).flat _) b⟩
 ·have f3:=lines_fwd X.W rx.ok
  have lt:=lt_of_at X f3.ok (at_of_expect X f3.ok h)
  have r3:=((rx.lines X (by omega)).expect X e h).2
  refine .inr ⟨?_,lx⟩
  rw [fl]; exact r3.flat _
end Go.Proofs.YtkfbldogmgofoaaGreatDoor
namespace Go.Proofs.YtkfbldogmgofoaaGreatDoor
open Mir
variable {T T':List Tokn} {N k d n m m':Nat} {s s':PS} {M M' E E' P P' R R' U U':PF}
theorem wrong_no {a e:Nat} (he:e ≠ 0) {q:Prop} [Decidable q] (e0:s.err = 0) (h:(s.wrong a q e).err = 0):¬ q ∧ s.wrong a q e = s:=by
 by_cases c:q
 ·unfold PS.wrong at h; rw [if_pos ⟨c,e0⟩] at h; exact absurd h he
 ·exact ⟨c,by unfold PS.wrong; rw [if_neg (fun x=>c x.1)]⟩
theorem wrong_of {a e:Nat} {q:Prop} [Decidable q] (h:¬ q):s.wrong a q e = s:=by unfold PS.wrong; rw [if_neg (fun x=>h x.1)]
theorem wrong_sim {a a' e:Nat} (he:e ≠ 0) {q q':Prop} [Decidable q] [Decidable q'] (hq:q' ↔ q) (r:Rel T N k d s s') (h:(s.wrong a q e).err = 0):¬ q ∧ Rel T N k d (s.wrong a q e) (s'.wrong a' q' e):=by
 obtain ⟨h1,h2⟩:=wrong_no he r.e h
 rw [h2,wrong_of (fun x=>h1 (hq.1 x))]
 exact ⟨h1,r⟩
theorem _root_.Mir.LikeTs.at {l l':List Tree} (h:LikeTs l l') (i:Nat):LikeT (l.getD i .zero) (l'.getD i .zero):=by
 by_cases c:i < l.length
 ·exact h.get i c
 ·have len:=h.len
  rw [List.getD_eq_getElem?_getD,List.getD_eq_getElem?_getD,List.getElem?_eq_none (by omega),List.getElem?_eq_none (by omega)]
  exact .mk (by simp) .nil
theorem _root_.Mir.LikeT.withOp {a b:Tree} (h:LikeT a b) (o:Txt):LikeT (a.withOp o) (b.withOp o):=by
 cases h with | mk hl k=>exact .mk hl k
theorem _root_.Mir.LikeTs.set {l l':List Tree} {a b:Tree} (h:LikeTs l l') (i:Nat) (hab:LikeT a b):LikeTs (l.set i a) (l'.set i b):=by
 induction i generalizing l l' with
 | zero=>cases h with
   | nil=>exact .nil
   | cons x y=>exact .cons hab y
 | succ i ih=>cases h with
   | nil=>exact .nil
   | cons x y=>exact .cons x (ih y)
theorem biPost_sim {t t':Tokn} (et:t'.t = t.t) {l l':List Tree} (L:LikeTs l l') (ll:l.length ≤ 99999) (r:Rel T N k d s s') (h:(biPost t l s).2.err = 0) :
  Rel T N k d (biPost t l s).2 (biPost t' l' s').2 ∧ LikeTs (biPost t l s).1 (biPost t' l' s').1 ∧ (biPost t l s).1.length ≤ 100000:=by
 have len:=L.len
 have p1:=(L.at 1).op
 have p2:=(L.at 2).place
 unfold biPost at h ⊢
 rw [et]
 dsimp only at h ⊢
 rw [← len,p1,p2]
 by_cases c1:t.t = [108,101,110,103,116,104]
 ·rw [if_pos c1] at h
  rw [if_pos c1,if_pos c1]
  exact ⟨(wrong_sim (by decide) Iff.rfl r h).2,L,Nat.le_trans ll (by decide)⟩
 rw [if_neg c1] at h
 rw [if_neg c1,if_neg c1]
 by_cases c2:t.t = [115,117,98,115,116,114]
 ·rw [if_pos c2] at h
  rw [if_pos c2,if_pos c2]
  exact ⟨(wrong_sim (by decide) Iff.rfl r h).2,L,Nat.le_trans ll (by decide)⟩
 rw [if_neg c2] at h
 rw [if_neg c2,if_neg c2]
 by_cases c3:t.t = [115,112,108,105,116]
 ·rw [if_pos c3] at h
  rw [if_pos c3,if_pos c3]
  dsimp only at h ⊢
  have r2:=(wrong_sim (a:=t.a) (a':=t'.a) (by decide) Iff.rfl r h).2
  rw [if_pos h,if_pos r2.e']
  exact ⟨r2,L.set 1 ((L.at 1).withOp _),by rw [List.length_set]; omega⟩
 rw [if_neg c3] at h
 rw [if_neg c3,if_neg c3]
 by_cases c4:t.t = [115,117,98] ∨ t.t = [103,115,117,98]
 ·rw [if_pos c4] at h
  rw [if_pos c4,if_pos c4]
  refine ⟨(wrong_sim (by decide) Iff.rfl r h).2,?_,?_⟩
  ·dsimp only
   split
   ·exact L.app (.one (.mk (by simp) (.one (.mk (by simp) .nil))))
   ·exact L
  ·dsimp only
   split
   ·rw [List.length_append]; show l.length + 1 ≤ _; omega
   ·omega
 rw [if_neg c4] at h
 rw [if_neg c4,if_neg c4]
 by_cases c5:t.t = [105,110,100,101,120] ∨ t.t = [109,97,116,99,104]
 ·rw [if_pos c5] at h
  rw [if_pos c5,if_pos c5]
  exact ⟨(wrong_sim (by decide) Iff.rfl r h).2,L,Nat.le_trans ll (by decide)⟩
 rw [if_neg c5] at h
 rw [if_neg c5,if_neg c5]
 by_cases c6:t.t = [115,112,114,105,110,116,102]
 ·rw [if_pos c6] at h
  rw [if_pos c6,if_pos c6]
  exact ⟨(wrong_sim (by decide) Iff.rfl r h).2,L,Nat.le_trans ll (by decide)⟩
 rw [if_neg c6] at h
 rw [if_neg c6,if_neg c6]
 by_cases c7:t.t = [114,97,110,100]
 ·rw [if_pos c7] at h
  rw [if_pos c7,if_pos c7]
  exact ⟨(wrong_sim (by decide) Iff.rfl r h).2,L,Nat.le_trans ll (by decide)⟩
 rw [if_neg c7] at h
 rw [if_neg c7,if_neg c7]
 by_cases c8:t.t = [115,114,97,110,100]
 ·rw [if_pos c8] at h
  rw [if_pos c8,if_pos c8]
  dsimp only at h ⊢
  have h1:(s.wrong t.a (l.length = 0) 10).err = 0:=back (fun q=>q.wrong _ _ _) h
  have r1:=(wrong_sim (a:=t.a) (a':=t'.a) (by decide) Iff.rfl r h1).2
  exact ⟨(wrong_sim (by decide) Iff.rfl r1 h).2,L,Nat.le_trans ll (by decide)⟩
 ·rw [if_neg c8] at h
  rw [if_neg c8,if_neg c8]
  exact ⟨(wrong_sim (by decide) Iff.rfl r h).2,L,Nat.le_trans ll (by decide)⟩
theorem builtinM_sim (X:Two T T' N k d n) (F:SF T N k d m m' M M') (r:Rel T N k d s s') (lt:s.i < n) (hm:s.deep + m = 51) (hm':s'.deep + m' = 51) (h:(builtinM T M s).2.err = 0):Both2 T N k d (builtinM T M s) (builtinM T' M' s'):=by
 have r1:=r.step X lt
 have ct:=r.curt X lt
 unfold builtinM at h ⊢
 rw [ct,r1.at X _ (by decide)]
 by_cases c:(s.cur T).t = [108,101,110,103,116,104] ∧ (s.step T).isAt T [[40]] = false
 ·rw [if_pos c,if_pos c]
  exact .inr ⟨r1,like_leaf0 _ ct⟩
 ·rw [if_neg c] at h
  rw [if_neg c,if_neg c]
  dsimp only at h ⊢
  have e2:(listM T M [41] ((s.step T).expect T [40])).2.err = 0:=back (fun q=>q.biPost _ _) h
  have e1:((s.step T).expect T [40]).err = 0:=back (fun q=>q.listM _) e2
  have r2:=(r1.expect X _ e1).2
  have f1:=(step_fwd X.W r.ok).trans (expect_fwd X.W (step_fwd X.W r.ok).ok [40])
  have d1:=f1.deep; have q1:=r2.dp; have q2:=r.dp
  rcases listM_sim X F [41] r2 (by omega) (by omega) e2 with ⟨d0,b⟩ | ⟨r3,L,ll⟩
  ·exact .inl ⟨d0,fore (fun q=>q.biPost _ _) b⟩
  ·obtain ⟨r4,L4,l4⟩:=biPost_sim ct L ll r3 h
   exact .inr ⟨r4,like_leaf _ ct L4 l4⟩
theorem primM_sim (X:Two T T' N k d n) (FE:SF T N k d (m + 1) (m' + 1) E E') (FP:SF T N k d m m' P P') (FR:SF T N k d m m' R R') (r:Rel T N k d s s') (hm:s.deep + (m + 1) = 51) (hm':s'.deep + (m' + 1) = 51) (h:(primM T E P R s).2.err = 0) :
  Both2 T N k d (primM T E P R s) (primM T' E' P' R' s'):=by
 have le:=r.le X
 unfold primM at h ⊢
 dsimp only at h ⊢
 have lt:s.i < n:=by
  refine Classical.byContradiction fun c=>?_
  have c:s.i = n:=by omega
  have k0:=r.k0 X c
  simp only [k0,at_n X c r.e,z2,z3,z4,z5,z6,z9,if_false,Bool.false_eq_true] at h
  exact fail_adv X.W r.ok h
 have ck:=r.curk X lt
 have ct:=r.curt X lt
 have r1:=r.step X lt
 have f1:=step_fwd X.W r.ok
 have d1:=f1.deep
 have q2:=r.dp; have q1:=r1.dp
 rw [ck,ct,r.atL X lt,r.atL X lt]
 by_cases c2:(s.cur T).k = 2
 ·rw [if_pos c2] at h; rw [if_pos c2,if_pos c2]; exact .inr ⟨r1,like_leaf0 _ ct⟩
 rw [if_neg c2] at h; rw [if_neg c2,if_neg c2]
 by_cases c3:(s.cur T).k = 3
 ·rw [if_pos c3] at h; rw [if_pos c3,if_pos c3]; exact .inr ⟨r1,like_leaf0 _ ct⟩
 rw [if_neg c3] at h; rw [if_neg c3,if_neg c3]
 by_cases c4:(s.cur T).k = 4
 ·rw [if_pos c4] at h; rw [if_pos c4,if_pos c4]
  by_cases cr:reErr (s.cur T).t ≠ 0
  ·rw [if_pos cr] at h
   exact absurd (back (fun q=>q.step) h) (fail_adv X.W r.ok)
  ·rw [if_neg cr,if_neg cr]; exact .inr ⟨r1,like_leaf0 _ ct⟩
 rw [if_neg c4] at h; rw [if_neg c4,if_neg c4]
 by_cases c5:(s.cur T).k = 5
 ·rw [if_pos c5] at h; rw [if_pos c5,if_pos c5]
  rw [r1.at X _ (by decide)]
  by_cases cb:(s.step T).isAt T [[91]] = true
  ·rw [if_pos cb] at h; rw [if_pos cb,if_pos cb]
   have r2:=r1.stepA X cb
   have d2:=(f1.trans (step_fwd X.W f1.ok)).deep
   have q3:=r2.dp
   rcases insideM_sim X FE [93] r2 (by omega) (by omega) h with ⟨d0,b⟩ | ⟨r3,l3⟩
   ·exact .inl ⟨d0,b⟩
   ·exact .inr ⟨r3,like_leaf _ ct (.one l3) (by simp)⟩
  ·rw [if_neg cb,if_neg cb]; exact .inr ⟨r1,like_leaf0 _ ct⟩
 rw [if_neg c5] at h; rw [if_neg c5,if_neg c5]
 by_cases c6:(s.cur T).k = 6
 ·rw [if_pos c6] at h; rw [if_pos c6,if_pos c6]
  have e1:((s.step T).expect T [40]).err = 0:=back (fun q=>q.listM _) h
  have r2:=(r1.expect X _ e1).2
  have d2:=(f1.trans (expect_fwd X.W f1.ok [40])).deep
  have q3:=r2.dp
  rcases listM_sim X FE [41] r2 (by omega) (by omega) h with ⟨d0,b⟩ | ⟨r3,L,ll⟩
  ·exact .inl ⟨d0,b⟩
  ·exact .inr ⟨r3,like_leaf _ ct L (by omega)⟩
 rw [if_neg c6] at h; rw [if_neg c6,if_neg c6]
 by_cases c9:(s.cur T).k = 9
 ·rw [if_pos c9] at h; rw [if_pos c9,if_pos c9]
  exact builtinM_sim X FE r lt hm hm' h
 rw [if_neg c9] at h; rw [if_neg c9,if_neg c9]
 by_cases cp:s.isAt T [[40]] = true
 ·rw [if_pos cp] at h; rw [if_pos cp,if_pos cp]
  exact insideM_sim X FE [41] r1 (by omega) (by omega) h
 rw [if_neg cp] at h; rw [if_neg cp,if_neg cp]
 by_cases cd:s.isAt T [[36]] = true
 ·rw [if_pos cd] at h; rw [if_pos cd,if_pos cd]
  have key:∀ (A A':PF),SF T N k d m m' A A' → (A ((s.step T).down T)).2.err = 0 → Both2 T N k d (nodeM [102,105,101,108,100] [(A ((s.step T).down T)).1],(A ((s.step T).down T)).2.up) (nodeM [102,105,101,108,100] [(A' ((s'.step T').down T')).1],(A' ((s'.step T').down T')).2.up):=fun A A' FA e=>by
   have e1:((s.step T).down T).err = 0:=back (fun q=>FA.kf _ _ q) e
   obtain ⟨ok3,_,d3,_,_⟩:=down_ok X.W f1.ok
   rcases r1.down X e1 with ⟨d0,b⟩ | r2
   ·exact .inl ⟨d0,fore (fun q=>(FA.kf' _ _ q).up) b⟩
   ·have q3:=r2.dp
    obtain ⟨_,_,g3,_⟩:=FA.lt X r2.ok r2.e (by omega) e
    rcases FA.sim _ _ r2 (by omega) (by omega) e with ⟨d0,b⟩ | ⟨r3,l3⟩
    ·exact .inl ⟨d0,b⟩
    ·exact .inr ⟨r3.up (by omega),like1 _ l3⟩
  by_cases cc:((s.step T).down T).isAt T [[43,43],[45,45]] = true
  ·rw [if_pos cc] at h; rw [if_pos cc]
   have e1:((s.step T).down T).err = 0:=at_err cc
   rcases r1.down X e1 with ⟨d0,b⟩ | r2
   ·refine .inl ⟨d0,?_⟩
    have ne:((s'.step T').down T').err ≠ 0:=by omega
    dsimp only
    rw [k_at ne,if_neg (by decide)]
    exact fore (fun q=>(FR.kf' _ _ q).up) b
   ·rw [r2.at X _ (by decide),if_pos cc]
    exact key _ _ FP h
  ·rw [if_neg cc] at h; rw [if_neg cc]
   have e1:((s.step T).down T).err = 0:=back (fun q=>FR.kf _ _ q) h
   rcases r1.down X e1 with ⟨d0,b⟩ | r2
   ·refine .inl ⟨d0,?_⟩
    have ne:((s'.step T').down T').err ≠ 0:=by omega
    dsimp only
    rw [k_at ne,if_neg (by decide)]
    exact fore (fun q=>(FR.kf' _ _ q).up) b
   ·rw [r2.at X _ (by decide),if_neg cc]
    exact key _ _ FR h
 ·rw [if_neg cd] at h
  exact absurd h (fail_adv X.W r.ok)
end Go.Proofs.YtkfbldogmgofoaaGreatDoor
namespace Go.Proofs.YtkfbldogmgofoaaGreatDoor
open Mir
variable {T T':List Tokn} {N k d n m m':Nat} {s s':PS} {M M' E E' P P' R R' U U':PF}
theorem postM_sim (X:Two T T' N k d n) (F:SF T N k d m m' R R') (r:Rel T N k d s s') (hm:s.deep + m = 51) (hm':s'.deep + m' = 51) (h:(postM T R s).2.err = 0):Both2 T N k d (postM T R s) (postM T' R' s'):=by
 unfold postM at h ⊢
 dsimp only at h ⊢
 rw [r.at X _ (by decide),r.at X _ (by decide)]
 have key:∀ (o:Txt) (l:List Txt),s.isAt T l = true → (if (R (s.step T)).1.isPlace = true then (nodeM o [(R (s.step T)).1],(R (s.step T)).2) else (.zero,(R (s.step T)).2.fail T)).2.err = 0 →
   Both2 T N k d (if (R (s.step T)).1.isPlace = true then (nodeM o [(R (s.step T)).1],(R (s.step T)).2) else (.zero,(R (s.step T)).2.fail T)) (if (R' (s'.step T')).1.isPlace = true then (nodeM o [(R' (s'.step T')).1],(R' (s'.step T')).2) else (.zero,(R' (s'.step T')).2.fail T')):=fun o l c e=>by
  have r1:=r.stepA X c
  have d1:=(step_fwd X.W r.ok).deep
  have q1:=r1.dp; have q2:=r.dp
  by_cases cp:(R (s.step T)).1.isPlace = true
  ·rw [if_pos cp] at e; rw [if_pos cp]
   rcases F.sim _ _ r1 (by omega) (by omega) e with ⟨d0,b⟩ | ⟨r2,l2⟩
   ·refine .inl ⟨d0,?_⟩
    split
    ·exact b
    ·exact fore (fun q=>q.fail) b
   ·rw [if_pos (by rw [l2.place]; exact cp)]
    exact .inr ⟨r2,like1 _ l2⟩
  ·rw [if_neg cp] at e
   have e2:(R (s.step T)).2.err = 0:=back (fun q=>q.fail) e
   obtain ⟨_,_,_,ok⟩:=F.lt X r1.ok r1.e (by omega) e2
   exact absurd e (fail_adv X.W ok)
 by_cases c1:s.isAt T [[43,43]] = true
 ·rw [if_pos c1] at h; rw [if_pos c1,if_pos c1]
  exact key _ _ c1 h
 rw [if_neg c1] at h; rw [if_neg c1,if_neg c1]
 by_cases c2:s.isAt T [[45,45]] = true
 ·rw [if_pos c2] at h; rw [if_pos c2,if_pos c2]
  exact key _ _ c2 h
 rw [if_neg c2] at h; rw [if_neg c2,if_neg c2]
 have e1:(R s).2.err = 0:=back (fun q=>by
  split
  ·exact q
  split
  ·exact q.step
  split
  ·exact q.step
  ·exact q) h
 rcases F.sim _ _ r hm hm' e1 with ⟨d0,b⟩ | ⟨r2,l2⟩
 ·refine .inl ⟨d0,fore (fun q=>by
   split
   ·exact q
   split
   ·exact q.step
   split
   ·exact q.step
   ·exact q) b⟩
 ·generalize R s = x at h e1 r2 l2
  generalize R' s' = x' at r2 l2
  rw [l2.place,r2.at X _ (by decide),r2.at X _ (by decide)]
  by_cases c3:x.1.isPlace = false
  ·rw [if_pos c3,if_pos c3]; exact .inr ⟨r2,l2⟩
  rw [if_neg c3,if_neg c3]
  by_cases c4:x.2.isAt T [[43,43]] = true
  ·rw [if_pos c4,if_pos c4]; exact .inr ⟨r2.stepA X c4,like1 _ l2⟩
  rw [if_neg c4,if_neg c4]
  by_cases c5:x.2.isAt T [[45,45]] = true
  ·rw [if_pos c5,if_pos c5]; exact .inr ⟨r2.stepA X c5,like1 _ l2⟩
  ·rw [if_neg c5,if_neg c5]; exact .inr ⟨r2,l2⟩
theorem unaryM_sim (X:Two T T' N k d n) (FU:SF T N k d m m' U U') (FP:SF T N k d (m + 1) (m' + 1) P P') (r:Rel T N k d s s') (hm:s.deep + (m + 1) = 51) (hm':s'.deep + (m' + 1) = 51) (h:(unaryM T U P s).2.err = 0) :
  Both2 T N k d (unaryM T U P s) (unaryM T' U' P' s'):=by
 unfold unaryM at h ⊢
 dsimp only at h ⊢
 rw [r.at X _ (by decide),r.at X _ (by decide),r.at X _ (by decide)]
 have key:∀ (o:Txt) (l:List Txt),s.isAt T l = true → (U ((s.step T).down T)).2.err = 0 → Both2 T N k d (nodeM o [(U ((s.step T).down T)).1],(U ((s.step T).down T)).2.up) (nodeM o [(U' ((s'.step T').down T')).1],(U' ((s'.step T').down T')).2.up):=fun o l c e=>by
  have r1:=r.stepA X c
  have f1:=step_fwd X.W r.ok
  have d1:=f1.deep
  have q1:=r1.dp; have q2:=r.dp
  have e1:((s.step T).down T).err = 0:=back (fun q=>FU.kf _ _ q) e
  obtain ⟨_,_,d3,_,_⟩:=down_ok X.W f1.ok
  rcases r1.down X e1 with ⟨d0,b⟩ | r2
  ·exact .inl ⟨d0,fore (fun q=>(FU.kf' _ _ q).up) b⟩
  ·have q3:=r2.dp
   obtain ⟨_,_,g3,_⟩:=FU.lt X r2.ok r2.e (by omega) e
   rcases FU.sim _ _ r2 (by omega) (by omega) e with ⟨d0,b⟩ | ⟨r3,l3⟩
   ·exact .inl ⟨d0,b⟩
   ·exact .inr ⟨r3.up (by omega),like1 _ l3⟩
 by_cases c1:s.isAt T [[33]] = true
 ·rw [if_pos c1] at h; rw [if_pos c1,if_pos c1]; exact key _ _ c1 h
 rw [if_neg c1] at h; rw [if_neg c1,if_neg c1]
 by_cases c2:s.isAt T [[45]] = true
 ·rw [if_pos c2] at h; rw [if_pos c2,if_pos c2]; exact key _ _ c2 h
 rw [if_neg c2] at h; rw [if_neg c2,if_neg c2]
 by_cases c3:s.isAt T [[43]] = true
 ·rw [if_pos c3] at h; rw [if_pos c3,if_pos c3]; exact key _ _ c3 h
 rw [if_neg c3] at h; rw [if_neg c3,if_neg c3]
 exact FP.sim _ _ r hm hm' h
theorem chainN_s (ln:Bool) (ops:List (Txt × Txt)) (K:Nat) (t:Tree) (s:PS):chainN T M ln ops (K + 1) t s = if (s.cur T).k = 8 then match ops.lookup (s.cur T).t with
   | none=>(t,s)
   | some op=>chainN T M ln ops K (nodeM op [t,(M (if ln then (s.step T).lines T else s.step T)).1]) (M (if ln then (s.step T).lines T else s.step T)).2
  else (t,s):=by rw [chainN]; rfl
theorem chainN_sim (X:Two T T' N k d n) (F:SF T N k d m m' M M') (ln:Bool) {ops:List (Txt × Txt)} (ho:ops.lookup [41] = none):∀ (K K':Nat) {t t':Tree} {s s':PS},Rel T N k d s s' → LikeT t t' → n < s.i + K → n < s.i + K' → s.deep + m = 51 → s'.deep + m' = 51 →
  (chainN T M ln ops K t s).2.err = 0 → Both2 T N k d (chainN T M ln ops K t s) (chainN T' M' ln ops K' t' s')
 | 0,K',t,t',s,s',r,_,h,_,_,_,_=>by have:=r.le X; omega
 | K + 1,0,t,t',s,s',r,_,_,h,_,_,_=>by have:=r.le X; omega
 | K + 1,K' + 1,t,t',s,s',r,L,hK,hK',hm,hm',h=>by
   rw [chainN_s] at h
   rw [chainN_s ln ops K t s,chainN_s ln ops K' t' s']
   by_cases lt:s.i < n
   ·rw [r.curk X lt,r.curt X lt]
    by_cases c:(s.cur T).k = 8
    ·rw [if_pos c] at h; rw [if_pos c,if_pos c]
     cases ho':ops.lookup (s.cur T).t with
     | none=>exact .inr ⟨r,L⟩
     | some op =>
       rw [ho'] at h
       dsimp only at h ⊢
       obtain ⟨y,hy⟩:∃ y,y = (if ln = true then (s.step T).lines T else s.step T):=⟨_,rfl⟩
       obtain ⟨y',hy'⟩:∃ y',y' = (if ln = true then (s'.step T').lines T' else s'.step T'):=⟨_,rfl⟩
       rw [← hy] at h
       rw [← hy,← hy']
       have e1:(M y).2.err = 0:=back (fun q=>q.chainN _ _ _ _) h
       have ey:y.err = 0:=back (fun q=>F.kf _ _ q) e1
       have r1:=r.step X lt
       have f1:=step_fwd X.W r.ok
       have si:(s.step T).i = s.i + 1:=by unfold PS.step; rw [if_pos ⟨r.e,by rw [X.len]; omega⟩]
       have ry:Rel T N k d y y' ∧ s.i + 1 ≤ y.i ∧ y.deep = s.deep:=by
        cases ln with
        | false =>
          rw [if_neg (by decide)] at hy hy'
          rw [hy,hy']; exact ⟨r1,by omega,f1.deep⟩
        | true =>
          rw [if_pos rfl] at hy hy'
          have f2:=lines_fwd X.W f1.ok
          have f3:=f1.trans f2
          have g:=F.lt X (s:=y) (by rw [hy]; exact f3.ok) ey (by rw [hy,f3.deep]; exact hm) e1
          have:=f2.le
          rw [hy,hy']
          exact ⟨r1.lines X (by rw [← hy]; omega),by omega,f3.deep⟩
       obtain ⟨ry,yi,yd⟩:=ry
       have q1:=ry.dp; have q2:=r.dp
       obtain ⟨g1,g2,g3,g4⟩:=F.lt X ry.ok ry.e (by omega) e1
       rcases F.sim _ _ ry (by omega) (by omega) e1 with ⟨d0,b⟩ | ⟨rx,lx⟩
       ·exact .inl ⟨d0,fore (fun q=>q.chainN _ _ _ _) b⟩
       ·have q3:=rx.dp
        exact chainN_sim X F ln ho K K' rx (like2 op L lx) (by omega) (by omega) (by omega) (by omega) h
    ·rw [if_neg c,if_neg c]; exact .inr ⟨r,L⟩
   ·have c:s.i = n:=by have:=r.le X; omega
    rw [if_neg (by rw [r.k0 X c]; decide)]
    have:(if (s'.cur T').k = 8 then match ops.lookup (s'.cur T').t with
      | none=>(t',s')
      | some op=>chainN T' M' ln ops K' (nodeM op [t',(M' (if ln then (s'.step T').lines T' else s'.step T')).1]) (M' (if ln then (s'.step T').lines T' else s'.step T')).2
     else (t',s')) = (t',s'):=by
     rcases r.stop X c with e | e | ⟨e,e'⟩
     ·rw [if_neg (by omega)]
     ·rw [if_neg (by omega)]
     ·rw [if_pos e,e',ho]
    rw [this]
    exact .inr ⟨r,L⟩
theorem chain_sf (X:Two T T' N k d n) (F:SF T N k d m m' M M') (ln:Bool) {ops:List (Txt × Txt)} (ho:ops.lookup [41] = none):SF T N k d m m' (chainM T M ln ops) (chainM T' M' ln ops):=by
 refine ⟨fun s ok hl=>(F.fwd s ok hl).trans (chainN_fwd X.W F.fwd ln ops _ (F.fwd s ok hl).ok (hl.fwd (F.fwd s ok hl))),fun s ok hl=>(F.adv s ok hl).left (chainN_fwd X.W F.fwd ln ops _ (F.fwd s ok hl).ok (hl.fwd (F.fwd s ok hl))),k_chainM F.kf _ _,k_chainM F.kf' _ _,fun s s' r hm hm' h=>?_⟩
 unfold chainM at h ⊢
 dsimp only at h ⊢
 have e1:(M s).2.err = 0:=back (fun q=>q.chainN _ _ _ _) h
 obtain ⟨g1,g2,g3,g4⟩:=F.lt X r.ok r.e hm e1
 rcases F.sim _ _ r hm hm' e1 with ⟨d0,b⟩ | ⟨rx,lx⟩
 ·exact .inl ⟨d0,fore (fun q=>q.chainN _ _ _ _) b⟩
 ·have q3:=rx.dp; have q2:=r.dp; have:=X.len; have:=X.len'
  exact chainN_sim X F ln ho _ _ rx lx (by omega) (by omega) (by omega) (by omega) h
end Go.Proofs.YtkfbldogmgofoaaGreatDoor
namespace Go.Proofs.YtkfbldogmgofoaaGreatDoor
open Mir
variable {T T':List Tokn} {N k d n m m':Nat} {s s':PS} {M M' E E' P P' R R' U U':PF}
theorem catN_s (K:Nat) (t:Tree) (s:PS):catN T M (K + 1) t s = if (s.cur T).k ∈ [2,3,5,6,9] ∨ s.isAt T [[36],[40]] = true then catN T M K (nodeM [99,97,116] [t,(M s).1]) (M s).2 else (t,s):=by rw [catN]
theorem catN_sim (X:Two T T' N k d n) (F:SF T N k d m m' M M'):∀ (K K':Nat) {t t':Tree} {s s':PS},Rel T N k d s s' → LikeT t t' → n < s.i + K → n < s.i + K' → s.deep + m = 51 → s'.deep + m' = 51 →
  (catN T M K t s).2.err = 0 → Both2 T N k d (catN T M K t s) (catN T' M' K' t' s')
 | 0,K',t,t',s,s',r,_,h,_,_,_,_=>by have:=r.le X; omega
 | K + 1,0,t,t',s,s',r,_,_,h,_,_,_=>by have:=r.le X; omega
 | K + 1,K' + 1,t,t',s,s',r,L,hK,hK',hm,hm',h=>by
   rw [catN_s] at h
   rw [catN_s K t s,catN_s K' t' s',r.at X _ (by decide)]
   have hc:((s'.cur T').k ∈ [2,3,5,6,9] ∨ s.isAt T [[36],[40]] = true) ↔ ((s.cur T).k ∈ [2,3,5,6,9] ∨ s.isAt T [[36],[40]] = true):=by
    by_cases lt:s.i < n
    ·rw [r.curk X lt]
    ·have c:s.i = n:=by have:=r.le X; omega
     rw [r.k0 X c]
     rcases r.stop X c with e | e | ⟨e,_⟩ <;> rw [e] <;> simp
   by_cases c:(s.cur T).k ∈ [2,3,5,6,9] ∨ s.isAt T [[36],[40]] = true
   ·rw [if_pos c] at h
    rw [if_pos c,if_pos (hc.2 c)]
    have e1:(M s).2.err = 0:=back (fun q=>q.catN _ _) h
    obtain ⟨g1,g2,g3,g4⟩:=F.lt X r.ok r.e hm e1
    rcases F.sim _ _ r hm hm' e1 with ⟨d0,b⟩ | ⟨rx,lx⟩
    ·exact .inl ⟨d0,fore (fun q=>q.catN _ _) b⟩
    ·have q3:=rx.dp; have q2:=r.dp
     exact catN_sim X F K K' rx (like2 _ L lx) (by omega) (by omega) (by omega) (by omega) h
   ·rw [if_neg c,if_neg (fun q=>c (hc.1 q))]; exact .inr ⟨r,L⟩
theorem cat_sf (X:Two T T' N k d n) (F:SF T N k d m m' (addM T M) (addM T' M')):SF T N k d m m' (catEM T M) (catEM T' M'):=by
 refine ⟨fun s ok hl=>(F.fwd s ok hl).trans (catN_fwd F.fwd _ (F.fwd s ok hl).ok (hl.fwd (F.fwd s ok hl))),fun s ok hl=>(F.adv s ok hl).left (catN_fwd F.fwd _ (F.fwd s ok hl).ok (hl.fwd (F.fwd s ok hl))),fun s0 s q=>(F.kf _ _ q).catN _ _,fun s0 s q=>(F.kf' _ _ q).catN _ _,fun s s' r hm hm' h=>?_⟩
 unfold catEM at h ⊢
 dsimp only at h ⊢
 have e1:(addM T M s).2.err = 0:=back (fun q=>q.catN _ _) h
 obtain ⟨g1,g2,g3,g4⟩:=F.lt X r.ok r.e hm e1
 rcases F.sim _ _ r hm hm' e1 with ⟨d0,b⟩ | ⟨rx,lx⟩
 ·exact .inl ⟨d0,fore (fun q=>q.catN _ _) b⟩
 ·have q3:=rx.dp; have q2:=r.dp; have:=X.len; have:=X.len'
  exact catN_sim X F _ _ rx lx (by omega) (by omega) (by omega) (by omega) h
theorem Kp.relStep {s0:PS} {C:PF} {x:Tree × PS} (q:Kp s0 x.2):Kp s0 (relStep T C x).2:=by
 unfold Go.Proofs.YtkfbldogmgofoaaGreatDoor.relStep
 rw [if_neg (by rw [cur_z q.n]; exact fun x=>absurd x.1 (by decide))]; exact q
theorem relStep_eq (C:PF) (x:Tree × PS):relStep T C x = if (x.2.cur T).k = 8 ∧ ¬ ((x.2.cur T).t = [62] ∧ x.2.flat = true) then match relOps.lookup (x.2.cur T).t with
  | none=>x
  | some op=>(nodeM op [x.1,(C (x.2.step T)).1],(C (x.2.step T)).2)
 else x:=by unfold relStep; rfl
theorem rel_sf (X:Two T T' N k d n) (F:SF T N k d m m' (catEM T M) (catEM T' M')):SF T N k d m m' (relM T M) (relM T' M'):=by
 refine ⟨fun s ok hl=>?_,fun s ok hl=>?_,fun s0 s q=>?_,fun s0 s q=>?_,fun s s' r hm hm' h=>?_⟩
 ·rw [relM_eq]; exact (F.fwd s ok hl).trans (relStep_fwd X.W F.fwd (F.fwd s ok hl).ok (hl.fwd (F.fwd s ok hl)))
 ·rw [relM_eq]; exact (F.adv s ok hl).left (relStep_fwd X.W F.fwd (F.fwd s ok hl).ok (hl.fwd (F.fwd s ok hl)))
 ·rw [relM_eq]; exact (F.kf _ _ q).relStep
 ·rw [relM_eq]; exact (F.kf' _ _ q).relStep
 rw [relM_eq] at h ⊢
 rw [relM_eq]
 have e1:(catEM T M s).2.err = 0:=back (fun q=>q.relStep) h
 obtain ⟨g1,g2,g3,g4⟩:=F.lt X r.ok r.e hm e1
 rcases F.sim _ _ r hm hm' e1 with ⟨d0,b⟩ | ⟨rx,lx⟩
 ·exact .inl ⟨d0,fore (fun q=>q.relStep) b⟩
 ·generalize catEM T M s = x at h e1 g1 g2 g3 g4 rx lx
  generalize catEM T' M' s' = x' at rx lx
  have q3:=rx.dp; have q2:=r.dp
  rw [relStep_eq] at h
  rw [relStep_eq _ x,relStep_eq _ x']
  by_cases lt:x.2.i < n
  ·rw [rx.curk X lt,rx.curt X lt,rx.fl]
   by_cases c:(x.2.cur T).k = 8 ∧ ¬ ((x.2.cur T).t = [62] ∧ x.2.flat = true)
   ·rw [if_pos c] at h; rw [if_pos c,if_pos c]
    cases ho:relOps.lookup (x.2.cur T).t with
    | none=>exact .inr ⟨rx,lx⟩
    | some op =>
      rw [ho] at h
      dsimp only at h ⊢
      have r3:=rx.step X lt
      have d3:=(step_fwd X.W rx.ok).deep
      have q4:=r3.dp
      rcases F.sim _ _ r3 (by omega) (by omega) h with ⟨d0,b⟩ | ⟨ry,ly⟩
      ·exact .inl ⟨d0,b⟩
      ·exact .inr ⟨ry,like2 _ lx ly⟩
   ·rw [if_neg c,if_neg c]; exact .inr ⟨rx,lx⟩
  ·have c:x.2.i = n:=by omega
   rw [if_neg (by rw [rx.k0 X c]; exact fun q=>absurd q.1 (by decide))]
   have:(if (x'.2.cur T').k = 8 ∧ ¬ ((x'.2.cur T').t = [62] ∧ x'.2.flat = true) then match relOps.lookup (x'.2.cur T').t with
     | none=>x'
     | some op=>(nodeM op [x'.1,(catEM T' M' (x'.2.step T')).1],(catEM T' M' (x'.2.step T')).2)
    else x') = x':=by
    rcases rx.stop X c with e | e | ⟨e,e'⟩
    ·rw [if_neg (by omega)]
    ·rw [if_neg (by omega)]
    ·rw [if_pos ⟨e,by rw [e']; exact fun q=>absurd q.1 (by decide)⟩,e',show relOps.lookup [41] = none from by decide]
   rw [this]
   exact .inr ⟨rx,lx⟩
theorem inN_s (K:Nat) (t:Tree) (s:PS):inN T (K + 1) t s = if s.isAt T [[105,110]] = true then inN T K (leafM [105,110] ((s.step T).name T [5]).1 [t]) ((s.step T).name T [5]).2 else (t,s):=by rw [inN]
theorem inN_sim (X:Two T T' N k d n):∀ (K K':Nat) {t t':Tree} {s s':PS},Rel T N k d s s' → LikeT t t' → n < s.i + K → n < s.i + K' → (inN T K t s).2.err = 0 → Rel T N k d (inN T K t s).2 (inN T' K' t' s').2 ∧ LikeT (inN T K t s).1 (inN T' K' t' s').1
 | 0,K',t,t',s,s',r,_,h,_,_=>by have:=r.le X; omega
 | K + 1,0,t,t',s,s',r,_,_,h,_=>by have:=r.le X; omega
 | K + 1,K' + 1,t,t',s,s',r,L,hK,hK',h=>by
   rw [inN_s] at h
   rw [inN_s K t s,inN_s K' t' s',r.at X _ (by decide)]
   by_cases c:s.isAt T [[105,110]] = true
   ·rw [if_pos c] at h
    rw [if_pos c,if_pos c]
    have lt:=r.ltA X c
    have r1:=r.step X lt
    have e1:((s.step T).name T [5]).2.err = 0:=back (fun q=>q.inN _ _) h
    obtain ⟨_,et,r2⟩:=r1.name X [5] (by decide) e1
    have f1:=step_fwd X.W r.ok
    have f2:=name_fwd X.W f1.ok [5]
    have si:(s.step T).i = s.i + 1:=by unfold PS.step; rw [if_pos ⟨r.e,by rw [X.len]; omega⟩]
    have:=f2.le
    exact inN_sim X K K' r2 (like_leaf _ et (.one L) (by simp)) (by omega) (by omega) h
   ·rw [if_neg c,if_neg c]; exact ⟨r,L⟩
theorem in_sf (X:Two T T' N k d n) (F:SF T N k d m m' (matchM T M) (matchM T' M')):SF T N k d m m' (inM T M) (inM T' M'):=by
 refine ⟨fun s ok hl=>?_,fun s ok hl=>?_,fun s0 s q=>?_,fun s0 s q=>?_,fun s s' r hm hm' h=>?_⟩
 ·rw [inM_eq]; exact (F.fwd s ok hl).trans (inN_fwd X.W _ (F.fwd s ok hl).ok)
 ·rw [inM_eq]; exact (F.adv s ok hl).left (inN_fwd X.W _ (F.fwd s ok hl).ok)
 ·rw [inM_eq]; exact (F.kf _ _ q).inN _ _
 ·rw [inM_eq]; exact (F.kf' _ _ q).inN _ _
 rw [inM_eq] at h ⊢
 rw [inM_eq]
 have e1:(matchM T M s).2.err = 0:=back (fun q=>q.inN _ _) h
 obtain ⟨g1,g2,g3,g4⟩:=F.lt X r.ok r.e hm e1
 rcases F.sim _ _ r hm hm' e1 with ⟨d0,b⟩ | ⟨rx,lx⟩
 ·exact .inl ⟨d0,fore (fun q=>q.inN _ _) b⟩
 ·have:=X.len; have:=X.len'
  exact .inr (inN_sim X _ _ rx lx (by omega) (by omega) h)
theorem or_sf (X:Two T T' N k d n) (F:SF T N k d m m' U U'):SF T N k d m m' (catEM T U) (catEM T' U') ∧ SF T N k d m m' (orM T U) (orM T' U'):=by
 have a1:SF T N k d m m' (mulM T U) (mulM T' U'):=by unfold mulM; exact chain_sf X F false (by decide)
 have a2:SF T N k d m m' (addM T U) (addM T' U'):=by unfold addM; exact chain_sf X a1 false (by decide)
 have c:=cat_sf X a2
 have a4:=rel_sf X c
 have a5:SF T N k d m m' (matchM T U) (matchM T' U'):=by unfold matchM; exact chain_sf X a4 false (by decide)
 have a6:=in_sf X a5
 have a7:SF T N k d m m' (andM T U) (andM T' U'):=by unfold Mir.andM; exact chain_sf X a6 true (by decide)
 exact ⟨c,by unfold Mir.orM; exact chain_sf X a7 true (by decide)⟩
theorem Kp.exprStep {s0:PS} {x:Tree × PS} (q:Kp s0 x.2):Kp s0 (exprStep T E x).2:=by
 unfold Go.Proofs.YtkfbldogmgofoaaGreatDoor.exprStep
 rw [if_neg (by rw [q.at]; decide),if_neg (by rw [cur_z q.n]; exact fun x=>absurd x.2.1 (by decide))]; exact q
theorem exprStep_s (x:Tree × PS):exprStep T E x = if x.2.isAt T [[63]] = true then
   (nodeM [99,111,110,100] [x.1,(E ((x.2.step T).lines T)).1,(E ((((E ((x.2.step T).lines T)).2.lines T).expect T [58]).lines T)).1],(E ((((E ((x.2.step T).lines T)).2.lines T).expect T [58]).lines T)).2)
  else if x.1.isPlace = true ∧ (x.2.cur T).k = 8 ∧ (x.2.cur T).t ∈ assignOps then (.nd [97,115,115,105,103,110] (x.2.cur T).t 0 [x.1,(E ((x.2.step T).lines T)).1],(E ((x.2.step T).lines T)).2)
  else x:=by unfold exprStep; rfl
theorem exprStep_b {x:Tree × PS} (h:(exprStep T E x).2.err = 0):x.2.err = 0:=back (fun q=>q.exprStep) h
theorem exprStep_f {x:Tree × PS} (h:x.2.err = 14):(exprStep T E x).2.up.err = 14:=fore (fun q=>q.exprStep.up) h
theorem up_err {x:PS} (h:x.up.err = 0):x.err = 0:=h
theorem exprM_sim (X:Two T T' N k d n) (FE:SF T N k d m m' E E') (FO:SF T N k d m m' (orM T U) (orM T' U')) (r:Rel T N k d s s') (hm:s.deep + (m + 1) = 51) (hm':s'.deep + (m' + 1) = 51) (h:(exprM T E U s).2.err = 0) :
  Both2 T N k d (exprM T E U s) (exprM T' E' U' s'):=by
 rw [exprM_eq] at h ⊢
 rw [exprM_eq]
 replace h:(exprStep T E (orM T U (s.down T))).2.err = 0:=up_err h
 have e2:(orM T U (s.down T)).2.err = 0:=exprStep_b h
 have e1:(s.down T).err = 0:=back (fun q=>FO.kf _ _ q) e2
 obtain ⟨_,_,d3,_,_⟩:=down_ok X.W r.ok
 rcases r.down X e1 with ⟨d0,b⟩ | r1
 ·exact .inl ⟨d0,exprStep_f (fore (fun q=>FO.kf' _ _ q) b)⟩
 have q1:=r1.dp; have q2:=r.dp
 obtain ⟨g1,g2,g3,g4⟩:=FO.lt X r1.ok r1.e (by omega) e2
 rcases FO.sim _ _ r1 (by omega) (by omega) e2 with ⟨d0,b⟩ | ⟨rx,lx⟩
 ·exact .inl ⟨d0,exprStep_f b⟩
 generalize orM T U (s.down T) = x at h e2 g1 g2 g3 g4 rx lx
 generalize orM T' U' (s'.down T') = x' at rx lx
 have q3:=rx.dp
 have main:Both2 T N k d (exprStep T E x) (exprStep T' E' x') ∧ (exprStep T E x).2.deep = x.2.deep:=by
  rw [exprStep_s] at h
  rw [exprStep_s x,exprStep_s x',rx.at X _ (by decide),lx.place]
  by_cases c1:x.2.isAt T [[63]] = true
  ·rw [if_pos c1] at h; rw [if_pos c1,if_pos c1]
   dsimp only at h ⊢
   have r2:=rx.stepA X c1
   have f2:=step_fwd X.W rx.ok
   have f3:=lines_fwd X.W f2.ok
   have a1:((E ((x.2.step T).lines T)).2.lines T |>.expect T [58]).err = 0:=back (fun q=>FE.kf _ _ q.lines) h
   have a2:(E ((x.2.step T).lines T)).2.err = 0:=back (fun q=>q.lines.expect _) a1
   have dl:((x.2.step T).lines T).deep = x.2.deep:=(f2.trans f3).deep
   obtain ⟨k1,k2,k3,k4⟩:=FE.lt X f3.ok (r2.linesE X) (by omega) a2
   have r3:=r2.lines X (by omega)
   have q4:=r3.dp
   rcases FE.sim _ _ r3 (by omega) (by omega) a2 with ⟨d0,b⟩ | ⟨ra,la⟩
   ·refine ⟨.inl ⟨d0,fore (fun q=>FE.kf' _ _ ((q.lines.expect _).lines)) b⟩,?_⟩
    have f4:=lines_fwd X.W k4
    have f5:=f4.trans (expect_fwd X.W f4.ok [58])
    have f6:=f5.trans (lines_fwd X.W f5.ok)
    have e6:((((E ((x.2.step T).lines T)).2.lines T).expect T [58]).lines T).err = 0:=back (fun q=>FE.kf _ _ q) h
    have:=(FE.lt X f6.ok e6 (by rw [f6.deep]; omega) h).2.2.1
    rw [this,f6.deep,k3,dl]
   ·generalize E ((x.2.step T).lines T) = a at h a1 a2 k1 k2 k3 k4 ra la
    generalize E' ((x'.2.step T').lines T') = a' at ra la
    have f4:=lines_fwd X.W ra.ok
    have lt4:=lt_of_at X f4.ok (at_of_expect X f4.ok a1)
    have r4:=((ra.lines X (by omega)).expect X _ a1).2
    have f5:=f4.trans (expect_fwd X.W f4.ok [58])
    have f6:=f5.trans (lines_fwd X.W f5.ok)
    obtain ⟨p1,p2,p3,p4⟩:=FE.lt X f6.ok (r4.linesE X) (by rw [f6.deep]; omega) h
    have r5:=r4.lines X (by omega)
    have q5:=r5.dp; have q6:=f6.deep
    refine ⟨?_,by rw [p3]; omega⟩
    rcases FE.sim _ _ r5 (by omega) (by omega) h with ⟨d0,b⟩ | ⟨rb,lb⟩
    ·exact .inl ⟨d0,b⟩
    ·exact .inr ⟨rb,like3 _ lx la lb⟩
  ·rw [if_neg c1] at h; rw [if_neg c1,if_neg c1]
   by_cases lt:x.2.i < n
   ·rw [rx.curk X lt,rx.curt X lt]
    by_cases c2:x.1.isPlace = true ∧ (x.2.cur T).k = 8 ∧ (x.2.cur T).t ∈ assignOps
    ·rw [if_pos c2] at h; rw [if_pos c2,if_pos c2]
     dsimp only at h ⊢
     have r2:=rx.step X lt
     have f2:=step_fwd X.W rx.ok
     have f3:=lines_fwd X.W f2.ok
     have dl:((x.2.step T).lines T).deep = x.2.deep:=(f2.trans f3).deep
     obtain ⟨k1,k2,k3,k4⟩:=FE.lt X f3.ok (r2.linesE X) (by omega) h
     have r3:=r2.lines X (by omega)
     have q4:=r3.dp
     refine ⟨?_,by rw [k3,dl]⟩
     rcases FE.sim _ _ r3 (by omega) (by omega) h with ⟨d0,b⟩ | ⟨ra,la⟩
     ·exact .inl ⟨d0,b⟩
     ·exact .inr ⟨ra,.mk (by simp) (.cons lx (.one la))⟩
    ·rw [if_neg c2,if_neg c2]; exact ⟨.inr ⟨rx,lx⟩,rfl⟩
   ·have c:x.2.i = n:=by omega
    rw [if_neg (by rw [rx.k0 X c]; exact fun q=>absurd q.2.1 (by decide)),if_neg]
    ·exact ⟨.inr ⟨rx,lx⟩,rfl⟩
    ·rcases rx.stop X c with e | e | ⟨e,e'⟩
     ·rw [e]; exact fun q=>absurd q.2.1 (by decide)
     ·rw [e]; exact fun q=>absurd q.2.1 (by decide)
     ·rw [e']; exact fun q=>absurd q.2.2 (by decide)
 rcases main.1 with ⟨d0,b⟩ | ⟨ry,ly⟩
 ·exact .inl ⟨d0,b⟩
 ·exact .inr ⟨ry.up (by rw [main.2]; omega),ly⟩
structure SL (T T':List Tokn) (N k d m m':Nat):Prop where
 expr:SF T N k d m m' (lev T m).expr (lev T' m').expr
 unary:SF T N k d m m' (lev T m).unary (lev T' m').unary
 post:SF T N k d m m' (lev T m).post (lev T' m').post
 prim:SF T N k d m m' (lev T m).prim (lev T' m').prim
theorem levels (X:Two T T' N k d n):∀ m',m' + d < 600 → SL T T' N k d (m' + d) m'
 | 0,hb=>by
   have G:=good X.W (0 + d) 100 (by omega)
   have K:=k_lev T (0 + d)
   have K':=k_lev T' 0
   have no:∀ {s s':PS} {Q:Prop},Rel T N k d s s' → s'.deep + 0 = 51 → Q:=fun r h=>by have:=r.low; omega
   exact ⟨⟨G.expr.fwd,G.expr.adv,K.1,K'.1,fun s s' r _ h _=>no r h⟩,⟨G.unary.fwd,G.unary.adv,K.2.1,K'.2.1,fun s s' r _ h _=>no r h⟩,
    ⟨G.post.fwd,G.post.adv,K.2.2.1,K'.2.2.1,fun s s' r _ h _=>no r h⟩,⟨G.prim.fwd,G.prim.adv,K.2.2.2,K'.2.2.2,fun s s' r _ h _=>no r h⟩⟩
 | m' + 1,hb=>by
   have S:=levels X m' (by omega)
   rw [show m' + 1 + d = (m' + d) + 1 from by omega]
   have G:=good X.W (m' + d + 1) 100 (by omega)
   have K:=k_lev T (m' + d + 1)
   have K':=k_lev T' (m' + 1)
   have FE:SF T N k d (m' + d + 1) (m' + 1) (lev T (m' + d + 1)).expr (lev T' (m' + 1)).expr:=⟨G.expr.fwd,G.expr.adv,K.1,K'.1,fun s s' r hm hm' h=>by
    rw [lev_expr] at h ⊢; rw [lev_expr]; exact exprM_sim X S.expr (or_sf X S.unary).2 r hm hm' h⟩
   have FR:SF T N k d (m' + d + 1) (m' + 1) (lev T (m' + d + 1)).prim (lev T' (m' + 1)).prim:=⟨G.prim.fwd,G.prim.adv,K.2.2.2,K'.2.2.2,fun s s' r hm hm' h=>by
    rw [lev_prim] at h ⊢; rw [lev_prim]; exact primM_sim X FE S.post S.prim r hm hm' h⟩
   have FP:SF T N k d (m' + d + 1) (m' + 1) (lev T (m' + d + 1)).post (lev T' (m' + 1)).post:=⟨G.post.fwd,G.post.adv,K.2.2.1,K'.2.2.1,fun s s' r hm hm' h=>by
    rw [lev_post] at h ⊢; rw [lev_post]; exact postM_sim X FR r hm hm' h⟩
   exact ⟨FE,⟨G.unary.fwd,G.unary.adv,K.2.1,K'.2.1,fun s s' r hm hm' h=>by
    rw [lev_unary] at h ⊢; rw [lev_unary]; exact unaryM_sim X S.unary FP r hm hm' h⟩,FP,FR⟩
end Go.Proofs.YtkfbldogmgofoaaGreatDoor
namespace Go.Proofs.YtkfbldogmgofoaaGreatDoor
open Mir
variable {T:List Tokn} {N n m c:Nat} {s s':PS} {M E P R U:PF}
def wgt (t:Tokn):Int:=if t.k = 8 ∧ t.t = [40] then 1 else if t.k = 8 ∧ t.t = [41] then -1 else 0
def psum (T:List Tokn):Nat → Int
 | 0=>0
 | i + 1=>psum T i + wgt (T.getD i tkz)
def pb (T:List Tokn) (s:PS):Int:=psum T s.i
theorem wgt_k {t:Tokn} (h:t.k ≠ 8):wgt t = 0:=by unfold wgt; rw [if_neg (fun x=>h x.1),if_neg (fun x=>h x.1)]
theorem wgt_t {t:Tokn} (h:t.t ≠ [40]) (h2:t.t ≠ [41]):wgt t = 0:=by unfold wgt; rw [if_neg (fun x=>h x.2),if_neg (fun x=>h2 x.2)]
theorem pb_step (W:TkOk T N) (hs:s.i < T.length) (e:s.err = 0):pb T (s.step T) = pb T s + wgt (s.cur T):=by
 unfold PS.step pb
 rw [cur_o e]
 by_cases c:s.i + 1 < T.length
 ·rw [if_pos ⟨e,c⟩]; rfl
 ·rw [if_neg (fun x=>c x.2),show s.i = T.length - 1 from by omega,wgt_k (by rw [W.last]; decide)]; omega
theorem pb_stepK (W:TkOk T N) (hs:s.i < T.length) (e:s.err = 0) (hk:(s.cur T).k ≠ 8):pb T (s.step T) = pb T s:=by rw [pb_step W hs e,wgt_k hk]; omega
theorem pb_stepA (W:TkOk T N) (hs:s.i < T.length) {l:List Txt} (h:s.isAt T l = true) (h1:[40] ∉ l) (h2:[41] ∉ l):pb T (s.step T) = pb T s:=by
 have:(s.cur T).t ∈ l:=by unfold PS.isAt at h; simp only [Bool.and_eq_true,decide_eq_true_eq] at h; exact h.2
 rw [pb_step W hs (at_err h),wgt_t (fun x=>h1 (x ▸ this)) (fun x=>h2 (x ▸ this))]; omega
theorem stp_lt (hs:s.i < T.length):(s.step T).i < T.length:=by unfold PS.step; split; rename_i c; exact c.2; exact hs
def wtx (x:Txt):Int:=if x = [40] then 1 else if x = [41] then -1 else 0
def Wp (T:List Tokn):Prop:=∀ i,(T.getD i tkz).k = 7 → (T.getD i tkz).t ≠ [40] ∧ (T.getD i tkz).t ≠ [41]
theorem at_t {l:List Txt} (h:s.isAt T l = true):(s.cur T).t ∈ l:=by unfold PS.isAt at h; simp only [Bool.and_eq_true,decide_eq_true_eq] at h; exact h.2
theorem pb_at (W:TkOk T N) (V:Wp T) (hs:s.i < T.length) {x:Txt} (c:s.isAt T [x] = true):pb T (s.step T) = pb T s + wtx x:=by
 rw [pb_step W hs (at_err c)]
 have ct:(s.cur T).t = x:=List.mem_singleton.1 (at_t c)
 have v:=V s.i
 rw [← cur_o (at_err c)] at v
 have ck:=at_k c
 unfold wgt wtx
 rw [ct] at *
 by_cases x1:x = [40]
 ·rw [if_pos x1,if_pos ⟨ck.elim id fun k=>absurd x1 (v k).1,x1⟩]
 ·rw [if_neg x1,if_neg (fun q=>x1 q.2)]
  by_cases x2:x = [41]
  ·rw [if_pos x2,if_pos ⟨ck.elim id fun k=>absurd x2 (v k).2,x2⟩]
  ·rw [if_neg x2,if_neg (fun q=>x2 q.2)]
theorem at_ex (W:TkOk T N) (ok:SOk T N s) {x:Txt} (h:(s.expect T x).err = 0):s.isAt T [x] = true:=by
 unfold PS.expect at h
 cases c:s.isAt T [x]
 ·rw [c,if_neg (by decide)] at h; exact absurd h (fail_adv W ok)
 ·rfl
theorem pb_expect (W:TkOk T N) (V:Wp T) (ok:SOk T N s) {x:Txt} (h:(s.expect T x).err = 0):pb T (s.expect T x) = pb T s + wtx x:=by
 have c:=at_ex W ok h
 unfold PS.expect
 rw [if_pos c]
 exact pb_at W V ok.lt c
theorem pb_lines (W:TkOk T N) (hs:s.i < T.length):pb T (s.lines T) = pb T s:=by
 unfold PS.lines
 have:∀ (K:Nat) (s:PS),s.i < T.length → pb T (linesN T K s) = pb T s:=fun K=>by
  induction K with
  | zero=>exact fun _ _=>rfl
  | succ K ih =>
    intro s hs
    rw [linesN]
    split
    ·rename_i c
     have e:s.err = 0:=cur_err (T:=T) (by omega)
     rw [ih _ (stp_lt hs),pb_stepK W hs e (by omega)]
    ·rfl
 exact this _ _ hs
theorem lines_e (e:s.err = 0):(s.lines T).err = 0:=by
 have:∀ K (s:PS),s.err = 0 → (linesN T K s).err = 0:=fun K=>by
  induction K with
  | zero=>exact fun s h=>h
  | succ K ih =>
    intro s h
    rw [linesN]
    split
    ·refine ih _ ?_
     unfold PS.step; split <;> exact h
    ·exact h
 exact this _ _ e
structure BF (T:List Tokn) (N m:Nat) (M:PF):Prop where
 fwd:∀ s,SOk T N s → lvl m 100 s → Fwd T N s (M s).2
 kf:KF M
 bal:∀ s,SOk T N s → s.err = 0 → s.deep + m = 51 → (M s).2.err = 0 → pb T (M s).2 = pb T s
theorem BF.go (F:BF T N m M) (ok:SOk T N s) (e:s.err = 0) (hm:s.deep + m = 51) (h:(M s).2.err = 0):SOk T N (M s).2 ∧ (M s).2.deep = s.deep ∧ pb T (M s).2 = pb T s :=
 have f:=F.fwd s ok (lv ok e hm)
 ⟨f.ok,f.deep,F.bal s ok e hm h⟩
variable (W:TkOk T N) (V:Wp T)
include W V
theorem listN_bal (F:BF T N m M) (e:Txt):∀ (K:Nat) (l:List Tree) (s:PS),SOk T N s → s.err = 0 → s.deep + m = 51 → (listN T M e K l s).2.err = 0 → pb T (listN T M e K l s).2 = pb T s
 | 0,_,_,_,_,_,_=>rfl
 | K + 1,l,s,ok,e0,hm,h=>by
   rw [listN_s] at h ⊢
   by_cases c:s.err = 0 ∧ s.isAt T [e] = false
   ·rw [if_pos c] at h ⊢
    have e1:(M (if l = [] then s else (s.expect T [44]).lines T)).2.err = 0:=back (fun q=>q.lines.listN e K _) h
    have ey:(if l = [] then s else (s.expect T [44]).lines T).err = 0:=back (fun q=>F.kf _ _ q) e1
    obtain ⟨y,hy⟩:∃ y,y = (if l = [] then s else (s.expect T [44]).lines T):=⟨_,rfl⟩
    rw [← hy] at h e1 ey ⊢
    have gy:SOk T N y ∧ y.deep = s.deep ∧ pb T y = pb T s:=by
     by_cases el:l = []
     ·rw [if_pos el] at hy; rw [hy]; exact ⟨ok,rfl,rfl⟩
     ·rw [if_neg el] at hy
      have f1:=expect_fwd W ok [44]
      have f2:=f1.trans (lines_fwd W f1.ok)
      have ee:(s.expect T [44]).err = 0:=back (fun q=>q.lines) (by rw [← hy]; exact ey)
      rw [hy]
      refine ⟨f2.ok,f2.deep,?_⟩
      rw [pb_lines W f1.ok.lt,pb_expect W V ok ee,show wtx [44] = 0 from by decide]; omega
    obtain ⟨oy,dy,py⟩:=gy
    obtain ⟨ox,dx,px⟩:=F.go oy ey (by omega) e1
    have f3:=lines_fwd W ox
    have d3:=f3.deep
    rw [listN_bal F e K _ _ f3.ok (lines_e e1) (by omega) h,pb_lines W ox.lt,px,py]
   ·rw [if_neg c]
theorem listM_bal (F:BF T N m M) (e:Txt) (ok:SOk T N s) (e0:s.err = 0) (hm:s.deep + m = 51) (h:(listM T M e s).2.err = 0):pb T (listM T M e s).2 = pb T s + wtx e:=by
 have ok0:SOk T N { s with flat:=false }:=(flat_fwd ok false).ok
 have f1:=lines_fwd W ok0
 have e1:(PS.lines T { s with flat:=false }).err = 0:=lines_e e0
 have d1:(PS.lines T { s with flat:=false }).deep = s.deep:=f1.deep
 have p1:pb T (PS.lines T { s with flat:=false }) = pb T s:=pb_lines W ok0.lt
 unfold listM at h ⊢
 dsimp only at h ⊢
 have f2:=listN_fwd W F.fwd e (T.length + 1) (l:=[]) f1.ok (lv f1.ok e1 (by omega))
 have e2:(listN T M e (T.length + 1) [] (PS.lines T { s with flat:=false })).2.err = 0:=back (fun q=>q.expect e) h
 have p2:=listN_bal W V F e (T.length + 1) [] _ f1.ok e1 (by omega) e2
 have p3:=pb_expect W V f2.ok h
 show pb T (PS.expect T (listN T M e (T.length + 1) [] (PS.lines T { s with flat:=false })).2 e) = _
 omega
theorem insideM_bal (F:BF T N m M) (e:Txt) (ok:SOk T N s) (e0:s.err = 0) (hm:s.deep + m = 51) (h:(insideM T M e s).2.err = 0):pb T (insideM T M e s).2 = pb T s + wtx e:=by
 have ok0:SOk T N { s with flat:=false }:=(flat_fwd ok false).ok
 have f1:=lines_fwd W ok0
 have e1:(PS.lines T { s with flat:=false }).err = 0:=lines_e e0
 have d1:(PS.lines T { s with flat:=false }).deep = s.deep:=f1.deep
 have p1:pb T (PS.lines T { s with flat:=false }) = pb T s:=pb_lines W ok0.lt
 unfold insideM at h ⊢
 dsimp only at h ⊢
 have e2:(M (PS.lines T { s with flat:=false })).2.err = 0:=back (fun q=>q.lines.expect e) h
 obtain ⟨ox,dx,px⟩:=F.go f1.ok e1 (by omega) e2
 have f3:=lines_fwd W ox
 have p3:=pb_expect W V f3.ok h
 have p4:=pb_lines W ox.lt
 show pb T (PS.expect T (PS.lines T (M (PS.lines T { s with flat:=false })).2) e) = _
 omega
theorem biPost_i (t:Tokn) (l:List Tree):(biPost t l s).2.i = s.i:=by
 have _:=W; have _:=V
 have w:∀ (s:PS) (a e:Nat) (q:Prop) [Decidable q],(s.wrong a q e).i = s.i:=fun s a e q _=>by unfold PS.wrong; split <;> rfl
 unfold biPost
 dsimp only
 repeat' split
 all_goals first | exact w _ _ _ _ | exact (w _ _ _ _).trans (w _ _ _ _)
theorem builtinM_bal (F:BF T N m M) (ok:SOk T N s) (e0:s.err = 0) (hm:s.deep + m = 51) (hk:(s.cur T).k ≠ 8) (h:(builtinM T M s).2.err = 0):pb T (builtinM T M s).2 = pb T s:=by
 have p1:=pb_stepK W ok.lt e0 hk
 have f1:=step_fwd W ok
 unfold builtinM at h ⊢
 split at h
 ·rename_i c; rw [if_pos c]; exact p1
 ·rename_i c
  rw [if_neg c]
  dsimp only at h ⊢
  have e2:(listM T M [41] ((s.step T).expect T [40])).2.err = 0:=back (fun q=>q.biPost _ _) h
  have e1:((s.step T).expect T [40]).err = 0:=back (fun q=>q.listM _) e2
  have f2:=expect_fwd W f1.ok [40]
  have d2:=(f1.trans f2).deep
  have p2:=pb_expect W V f1.ok e1
  have p3:=listM_bal W V F [41] f2.ok e1 (by omega) e2
  rw [show wtx [41] = -1 from by decide] at p3
  rw [show wtx [40] = 1 from by decide] at p2
  show psum T _ = _
  rw [biPost_i W V]
  show pb T (listM T M [41] ((s.step T).expect T [40])).2 = _
  omega
theorem primM_bal (FE:BF T N (m + 1) E) (FP:BF T N m P) (FR:BF T N m R) (ok:SOk T N s) (e0:s.err = 0) (hm:s.deep + (m + 1) = 51) (h:(primM T E P R s).2.err = 0):pb T (primM T E P R s).2 = pb T s:=by
 have f1:=step_fwd W ok
 have d1:=f1.deep
 have p0:(s.cur T).k ≠ 8 → pb T (s.step T) = pb T s:=fun k=>pb_stepK W ok.lt e0 k
 unfold primM at h ⊢
 dsimp only at h ⊢
 by_cases c2:(s.cur T).k = 2
 ·rw [if_pos c2]; exact p0 (by omega)
 rw [if_neg c2] at h ⊢
 by_cases c3:(s.cur T).k = 3
 ·rw [if_pos c3]; exact p0 (by omega)
 rw [if_neg c3] at h ⊢
 by_cases c4:(s.cur T).k = 4
 ·rw [if_pos c4] at h ⊢
  by_cases cr:reErr (s.cur T).t ≠ 0
  ·rw [if_pos cr] at h
   exact absurd (back (fun q=>q.step) h) (fail_adv W ok)
  ·rw [if_neg cr]; exact p0 (by omega)
 rw [if_neg c4] at h ⊢
 by_cases c5:(s.cur T).k = 5
 ·rw [if_pos c5] at h ⊢
  by_cases cb:(s.step T).isAt T [[91]] = true
  ·rw [if_pos cb] at h ⊢
   have f2:=step_fwd W f1.ok
   have d2:=f2.deep
   have p1:=pb_stepA W f1.ok.lt cb (by decide) (by decide)
   have p2:=insideM_bal W V FE [93] f2.ok (back (fun q=>q.insideM FE.kf _) h) (by omega) h
   rw [show wtx [93] = 0 from by decide] at p2
   have:=p0 (by omega)
   show pb T (insideM T E [93] ((s.step T).step T)).2 = _
   omega
  ·rw [if_neg cb]; exact p0 (by omega)
 rw [if_neg c5] at h ⊢
 by_cases c6:(s.cur T).k = 6
 ·rw [if_pos c6] at h ⊢
  have e1:((s.step T).expect T [40]).err = 0:=back (fun q=>q.listM _) h
  have f2:=expect_fwd W f1.ok [40]
  have d2:=f2.deep
  have p2:=pb_expect W V f1.ok e1
  have p3:=listM_bal W V FE [41] f2.ok e1 (by omega) h
  rw [show wtx [41] = -1 from by decide] at p3
  rw [show wtx [40] = 1 from by decide] at p2
  have:=p0 (by omega)
  show pb T (listM T E [41] ((s.step T).expect T [40])).2 = _
  omega
 rw [if_neg c6] at h ⊢
 by_cases c9:(s.cur T).k = 9
 ·rw [if_pos c9] at h ⊢; exact builtinM_bal W V FE ok e0 hm (by omega) h
 rw [if_neg c9] at h ⊢
 by_cases cp:s.isAt T [[40]] = true
 ·rw [if_pos cp] at h ⊢
  have p1:=pb_at W V ok.lt cp
  have p2:=insideM_bal W V FE [41] f1.ok (back (fun q=>q.insideM FE.kf _) h) (by omega) h
  rw [show wtx [41] = -1 from by decide] at p2
  rw [show wtx [40] = 1 from by decide] at p1
  omega
 rw [if_neg cp] at h ⊢
 by_cases cd:s.isAt T [[36]] = true
 ·rw [if_pos cd] at h ⊢
  have p1:=pb_stepA W ok.lt cd (by decide) (by decide)
  obtain ⟨o3,i3,d3,_,_⟩:=down_ok W f1.ok
  have p3:pb T ((s.step T).down T) = pb T (s.step T):=by unfold pb; rw [i3]
  have key:∀ A:PF,BF T N m A → (A ((s.step T).down T)).2.err = 0 → pb T (A ((s.step T).down T)).2.up = pb T s:=fun A FA e=>by
   have:=FA.bal _ o3 (back (fun q=>FA.kf _ _ q) e) (by omega) e
   show pb T (A ((s.step T).down T)).2 = _
   omega
  split at h
  ·rename_i c; rw [if_pos c]; exact key _ FP h
  ·rename_i c; rw [if_neg c]; exact key _ FR h
 ·rw [if_neg cd] at h; exact absurd h (fail_adv W ok)
end Go.Proofs.YtkfbldogmgofoaaGreatDoor
namespace Go.Proofs.YtkfbldogmgofoaaGreatDoor
open Mir
variable {T:List Tokn} {N n m c:Nat} {s s':PS} {M E P R U:PF}
theorem postM_bal (W:TkOk T N) (V:Wp T) (F:BF T N m R) (ok:SOk T N s) (e0:s.err = 0) (hm:s.deep + m = 51) (h:(postM T R s).2.err = 0):pb T (postM T R s).2 = pb T s:=by
 unfold postM at h ⊢
 dsimp only at h ⊢
 have key:∀ (o:Txt) (x:Txt),x ≠ [40] → x ≠ [41] → s.isAt T [x] = true → (if (R (s.step T)).1.isPlace = true then (nodeM o [(R (s.step T)).1],(R (s.step T)).2) else (.zero,(R (s.step T)).2.fail T)).2.err = 0 →
   pb T (if (R (s.step T)).1.isPlace = true then (nodeM o [(R (s.step T)).1],(R (s.step T)).2) else (.zero,(R (s.step T)).2.fail T)).2 = pb T s:=fun o x x1 x2 c e=>by
  have p1:=pb_stepA W ok.lt c (by simpa using x1.symm) (by simpa using x2.symm)
  have f1:=step_fwd W ok
  have d1:=f1.deep
  have e1:(R (s.step T)).2.err = 0:=back (fun q=>by split; exact q; exact q.fail) e
  obtain ⟨ox,dx,px⟩:=F.go f1.ok (back (fun q=>F.kf _ _ q) e1) (by omega) e1
  split at e
  ·rename_i c; rw [if_pos c]; show pb T (R (s.step T)).2 = _; omega
  ·exact absurd e (fail_adv W ox)
 by_cases c1:s.isAt T [[43,43]] = true
 ·rw [if_pos c1] at h ⊢; exact key _ _ (by decide) (by decide) c1 h
 rw [if_neg c1] at h ⊢
 by_cases c2:s.isAt T [[45,45]] = true
 ·rw [if_pos c2] at h ⊢; exact key _ _ (by decide) (by decide) c2 h
 rw [if_neg c2] at h ⊢
 have e1:(R s).2.err = 0:=back (fun q=>by
  split
  ·exact q
  split
  ·exact q.step
  split
  ·exact q.step
  ·exact q) h
 obtain ⟨ox,dx,px⟩:=F.go ok e0 hm e1
 split
 ·exact px
 split
 ·rename_i c
  show pb T ((R s).2.step T) = _
  rw [pb_stepA W ox.lt c (by decide) (by decide)]; exact px
 split
 ·rename_i c
  show pb T ((R s).2.step T) = _
  rw [pb_stepA W ox.lt c (by decide) (by decide)]; exact px
 ·exact px
theorem unaryM_bal (W:TkOk T N) (V:Wp T) (FU:BF T N m U) (FP:BF T N (m + 1) P) (ok:SOk T N s) (e0:s.err = 0) (hm:s.deep + (m + 1) = 51) (h:(unaryM T U P s).2.err = 0):pb T (unaryM T U P s).2 = pb T s:=by
 unfold unaryM at h ⊢
 dsimp only at h ⊢
 have key:∀ x:Txt,x ≠ [40] → x ≠ [41] → s.isAt T [x] = true → (U ((s.step T).down T)).2.err = 0 → pb T (U ((s.step T).down T)).2.up = pb T s:=fun x x1 x2 c e=>by
  have p1:=pb_stepA W ok.lt c (by simpa using x1.symm) (by simpa using x2.symm)
  have f1:=step_fwd W ok
  have d1:=f1.deep
  obtain ⟨o3,i3,d3,_,_⟩:=down_ok W f1.ok
  have p3:pb T ((s.step T).down T) = pb T (s.step T):=by unfold pb; rw [i3]
  have:=FU.bal _ o3 (back (fun q=>FU.kf _ _ q) e) (by omega) e
  show pb T (U ((s.step T).down T)).2 = _
  omega
 by_cases c1:s.isAt T [[33]] = true
 ·rw [if_pos c1] at h ⊢; exact key _ (by decide) (by decide) c1 h
 rw [if_neg c1] at h ⊢
 by_cases c2:s.isAt T [[45]] = true
 ·rw [if_pos c2] at h ⊢; exact key _ (by decide) (by decide) c2 h
 rw [if_neg c2] at h ⊢
 by_cases c3:s.isAt T [[43]] = true
 ·rw [if_pos c3] at h ⊢; exact key _ (by decide) (by decide) c3 h
 rw [if_neg c3] at h ⊢
 exact FP.bal _ ok e0 hm h
theorem chainN_bal (W:TkOk T N) (V:Wp T) (F:BF T N m M) (ln:Bool) {ops:List (Txt × Txt)} (ho:ops.lookup [41] = none) (ho2:ops.lookup [40] = none):∀ (K:Nat) (t:Tree) (s:PS),SOk T N s → s.err = 0 → s.deep + m = 51 → (chainN T M ln ops K t s).2.err = 0 → pb T (chainN T M ln ops K t s).2 = pb T s
 | 0,_,_,_,_,_,_=>rfl
 | K + 1,t,s,ok,e0,hm,h=>by
   rw [chainN_s] at h ⊢
   by_cases c:(s.cur T).k = 8
   ·rw [if_pos c] at h ⊢
    cases ho':ops.lookup (s.cur T).t with
    | none=>rfl
    | some op =>
      rw [ho'] at h
      dsimp only at h ⊢
      have e1:(M (if ln = true then (s.step T).lines T else s.step T)).2.err = 0:=back (fun q=>q.chainN _ _ _ _) h
      have f1:=step_fwd W ok
      have p1:pb T (s.step T) = pb T s:=by
       rw [pb_step W ok.lt e0,wgt_t (fun x=>by rw [x,ho2] at ho'; cases ho') (fun x=>by rw [x,ho] at ho'; cases ho')]; omega
      obtain ⟨y,hy⟩:∃ y,y = (if ln = true then (s.step T).lines T else s.step T):=⟨_,rfl⟩
      rw [← hy] at h e1 ⊢
      have gy:SOk T N y ∧ y.deep = s.deep ∧ pb T y = pb T s:=by
       cases ln with
       | false=>rw [if_neg (by decide)] at hy; rw [hy]; exact ⟨f1.ok,f1.deep,p1⟩
       | true =>
         rw [if_pos rfl] at hy
         have f2:=f1.trans (lines_fwd W f1.ok)
         rw [hy]
         exact ⟨f2.ok,f2.deep,by rw [pb_lines W f1.ok.lt,p1]⟩
      obtain ⟨oy,dy,py⟩:=gy
      obtain ⟨ox,dx,px⟩:=F.go oy (back (fun q=>F.kf _ _ q) e1) (by omega) e1
      rw [chainN_bal W V F ln ho ho2 K _ _ ox e1 (by omega) h,px,py]
   ·rw [if_neg c]
theorem chain_bf (W:TkOk T N) (V:Wp T) (F:BF T N m M) (ln:Bool) {ops:List (Txt × Txt)} (ho:ops.lookup [41] = none) (ho2:ops.lookup [40] = none):BF T N m (chainM T M ln ops):=by
 refine ⟨fun s ok hl=>(F.fwd s ok hl).trans (chainN_fwd W F.fwd ln ops _ (F.fwd s ok hl).ok (hl.fwd (F.fwd s ok hl))),k_chainM F.kf _ _,fun s ok e0 hm h=>?_⟩
 unfold chainM at h ⊢
 dsimp only at h ⊢
 have e1:(M s).2.err = 0:=back (fun q=>q.chainN _ _ _ _) h
 obtain ⟨ox,dx,px⟩:=F.go ok e0 hm e1
 rw [chainN_bal W V F ln ho ho2 _ _ _ ox e1 (by omega) h,px]
theorem catN_bal (W:TkOk T N) (V:Wp T) (F:BF T N m M):∀ (K:Nat) (t:Tree) (s:PS),SOk T N s → s.err = 0 → s.deep + m = 51 → (catN T M K t s).2.err = 0 → pb T (catN T M K t s).2 = pb T s
 | 0,_,_,_,_,_,_=>rfl
 | K + 1,t,s,ok,e0,hm,h=>by
   rw [catN_s] at h ⊢
   split at h
   ·rename_i c
    rw [if_pos c]
    have e1:(M s).2.err = 0:=back (fun q=>q.catN _ _) h
    obtain ⟨ox,dx,px⟩:=F.go ok e0 hm e1
    rw [catN_bal W V F K _ _ ox e1 (by omega) h,px]
   ·rename_i c; rw [if_neg c]
theorem cat_bf (W:TkOk T N) (V:Wp T) (F:BF T N m (addM T M)):BF T N m (catEM T M):=by
 refine ⟨fun s ok hl=>(F.fwd s ok hl).trans (catN_fwd F.fwd _ (F.fwd s ok hl).ok (hl.fwd (F.fwd s ok hl))),fun s0 s q=>(F.kf _ _ q).catN _ _,fun s ok e0 hm h=>?_⟩
 unfold catEM at h ⊢
 dsimp only at h ⊢
 have e1:(addM T M s).2.err = 0:=back (fun q=>q.catN _ _) h
 obtain ⟨ox,dx,px⟩:=F.go ok e0 hm e1
 rw [catN_bal W V F _ _ _ ox e1 (by omega) h,px]
theorem rel_bf (W:TkOk T N) (V:Wp T) (F:BF T N m (catEM T M)):BF T N m (relM T M):=by
 refine ⟨fun s ok hl=>?_,fun s0 s q=>?_,fun s ok e0 hm h=>?_⟩
 ·rw [relM_eq]; exact (F.fwd s ok hl).trans (relStep_fwd W F.fwd (F.fwd s ok hl).ok (hl.fwd (F.fwd s ok hl)))
 ·rw [relM_eq]; exact (F.kf _ _ q).relStep
 rw [relM_eq] at h ⊢
 have e1:(catEM T M s).2.err = 0:=back (fun q=>q.relStep) h
 obtain ⟨ox,dx,px⟩:=F.go ok e0 hm e1
 generalize catEM T M s = x at h e1 ox dx px
 rw [relStep_eq] at h ⊢
 by_cases c:(x.2.cur T).k = 8 ∧ ¬ ((x.2.cur T).t = [62] ∧ x.2.flat = true)
 ·rw [if_pos c] at h ⊢
  cases ho:relOps.lookup (x.2.cur T).t with
  | none=>exact px
  | some op =>
    rw [ho] at h
    dsimp only at h ⊢
    have f1:=step_fwd W ox
    have d1:=f1.deep
    have p1:pb T (x.2.step T) = pb T x.2:=by
     rw [pb_step W ox.lt e1,wgt_t (fun y=>by rw [y,show relOps.lookup [40] = none from by decide] at ho; cases ho) (fun y=>by rw [y,show relOps.lookup [41] = none from by decide] at ho; cases ho)]; omega
    rw [F.bal _ f1.ok (back (fun q=>F.kf _ _ q) h) (by omega) h,p1,px]
 ·rw [if_neg c]; exact px
theorem inN_bal (W:TkOk T N) (V:Wp T):∀ (K:Nat) (t:Tree) (s:PS),SOk T N s → s.err = 0 → (inN T K t s).2.err = 0 → pb T (inN T K t s).2 = pb T s
 | 0,_,_,_,_,_=>rfl
 | K + 1,t,s,ok,e0,h=>by
   rw [inN_s] at h ⊢
   by_cases c:s.isAt T [[105,110]] = true
   ·rw [if_pos c] at h ⊢
    have f1:=step_fwd W ok
    have e1:((s.step T).name T [5]).2.err = 0:=back (fun q=>q.inN _ _) h
    have f2:=name_fwd W f1.ok [5]
    have p1:=pb_stepA W ok.lt c (by decide) (by decide)
    have es:(s.step T).err = 0:=back (fun q=>q.name _) e1
    have p2:pb T ((s.step T).name T [5]).2 = pb T (s.step T):=by
     unfold PS.name at e1 ⊢
     by_cases ck:((s.step T).cur T).k ∈ [5]
     ·rw [if_pos ck]; exact pb_stepK W f1.ok.lt es (by rw [List.mem_singleton.1 ck]; decide)
     ·rw [if_neg ck] at e1; exact absurd e1 (fail_adv W f1.ok)
    rw [inN_bal W V K _ _ f2.ok e1 h,p2,p1]
   ·rw [if_neg c]
theorem in_bf (W:TkOk T N) (V:Wp T) (F:BF T N m (matchM T M)):BF T N m (inM T M):=by
 refine ⟨fun s ok hl=>?_,fun s0 s q=>?_,fun s ok e0 hm h=>?_⟩
 ·rw [inM_eq]; exact (F.fwd s ok hl).trans (inN_fwd W _ (F.fwd s ok hl).ok)
 ·rw [inM_eq]; exact (F.kf _ _ q).inN _ _
 rw [inM_eq] at h ⊢
 have e1:(matchM T M s).2.err = 0:=back (fun q=>q.inN _ _) h
 obtain ⟨ox,dx,px⟩:=F.go ok e0 hm e1
 rw [inN_bal W V _ _ _ ox e1 h,px]
theorem or_bf (W:TkOk T N) (V:Wp T) (F:BF T N m U):BF T N m (orM T U):=by
 have a1:BF T N m (mulM T U):=by unfold mulM; exact chain_bf W V F false (by decide) (by decide)
 have a2:BF T N m (addM T U):=by unfold addM; exact chain_bf W V a1 false (by decide) (by decide)
 have a4:=rel_bf W V (cat_bf W V a2)
 have a5:BF T N m (matchM T U):=by unfold matchM; exact chain_bf W V a4 false (by decide) (by decide)
 have a6:=in_bf W V a5
 have a7:BF T N m (andM T U):=by unfold Mir.andM; exact chain_bf W V a6 true (by decide) (by decide)
 unfold Mir.orM; exact chain_bf W V a7 true (by decide) (by decide)
theorem exprM_bal (W:TkOk T N) (V:Wp T) (FE:BF T N m E) (FO:BF T N m (orM T U)) (ok:SOk T N s) (e0:s.err = 0) (hm:s.deep + (m + 1) = 51) (h:(exprM T E U s).2.err = 0):pb T (exprM T E U s).2 = pb T s:=by
 rw [exprM_eq] at h ⊢
 replace h:(exprStep T E (orM T U (s.down T))).2.err = 0:=up_err h
 have e2:(orM T U (s.down T)).2.err = 0:=exprStep_b h
 have e1:(s.down T).err = 0:=back (fun q=>FO.kf _ _ q) e2
 obtain ⟨o1,i1,d1,_,_⟩:=down_ok W ok
 have p1:pb T (s.down T) = pb T s:=by unfold pb; rw [i1]
 obtain ⟨ox,dx,px⟩:=FO.go o1 e1 (by omega) e2
 generalize orM T U (s.down T) = x at h e2 ox dx px
 show pb T (exprStep T E x).2 = _
 rw [exprStep_s] at h ⊢
 by_cases c1:x.2.isAt T [[63]] = true
 ·rw [if_pos c1] at h ⊢
  dsimp only at h ⊢
  have p2:=pb_stepA W ox.lt c1 (by decide) (by decide)
  have f2:=step_fwd W ox
  have f3:=lines_fwd W f2.ok
  have d3:=(f2.trans f3).deep
  have p3:=pb_lines W f2.ok.lt
  have a1:(((E ((x.2.step T).lines T)).2.lines T).expect T [58]).err = 0:=back (fun q=>FE.kf _ _ q.lines) h
  have a2:(E ((x.2.step T).lines T)).2.err = 0:=back (fun q=>q.lines.expect _) a1
  obtain ⟨oa,da,pa⟩:=FE.go f3.ok (back (fun q=>FE.kf _ _ q) a2) (by omega) a2
  have f4:=lines_fwd W oa
  have p4:=pb_lines W oa.lt
  have p5:=pb_expect W V f4.ok a1
  rw [show wtx [58] = 0 from by decide] at p5
  have f5:=f4.trans (expect_fwd W f4.ok [58])
  have p6:=pb_lines W f5.ok.lt
  have f6:=f5.trans (lines_fwd W f5.ok)
  have d6:=f6.deep
  have p7:=FE.bal _ f6.ok (back (fun q=>FE.kf _ _ q) h) (by omega) h
  omega
 ·rw [if_neg c1] at h ⊢
  by_cases c2:x.1.isPlace = true ∧ (x.2.cur T).k = 8 ∧ (x.2.cur T).t ∈ assignOps
  ·rw [if_pos c2] at h ⊢
   dsimp only at h ⊢
   have p2:pb T (x.2.step T) = pb T x.2:=by
    rw [pb_step W ox.lt e2,wgt_t (fun y=>by rw [y] at c2; exact absurd c2.2.2 (by decide)) (fun y=>by rw [y] at c2; exact absurd c2.2.2 (by decide))]; omega
   have f2:=step_fwd W ox
   have f3:=lines_fwd W f2.ok
   have d3:=(f2.trans f3).deep
   have p3:=pb_lines W f2.ok.lt
   have p4:=FE.bal _ f3.ok (back (fun q=>FE.kf _ _ q) h) (by omega) h
   omega
  ·rw [if_neg c2]; omega
structure BL (T:List Tokn) (N m:Nat):Prop where
 expr:BF T N m (lev T m).expr
 unary:BF T N m (lev T m).unary
 post:BF T N m (lev T m).post
 prim:BF T N m (lev T m).prim
theorem bals (W:TkOk T N) (V:Wp T):∀ m,m < 600 → BL T N m
 | 0,_=>by
   have G:=good W 0 100 (by omega)
   have K:=k_lev T 0
   have no:∀ {s:PS} {Q:Prop},SOk T N s → s.err = 0 → s.deep + 0 = 51 → Q:=fun ok e h=>by have:=ok.low e; omega
   exact ⟨⟨G.expr.fwd,K.1,fun s ok e h _=>no ok e h⟩,⟨G.unary.fwd,K.2.1,fun s ok e h _=>no ok e h⟩,⟨G.post.fwd,K.2.2.1,fun s ok e h _=>no ok e h⟩,⟨G.prim.fwd,K.2.2.2,fun s ok e h _=>no ok e h⟩⟩
 | m + 1,hb=>by
   have S:=bals W V m (by omega)
   have G:=good W (m + 1) 100 (by omega)
   have K:=k_lev T (m + 1)
   have FE:BF T N (m + 1) (lev T (m + 1)).expr:=⟨G.expr.fwd,K.1,fun s ok e hm h=>by rw [lev_expr] at h ⊢; exact exprM_bal W V S.expr (or_bf W V S.unary) ok e hm h⟩
   have FR:BF T N (m + 1) (lev T (m + 1)).prim:=⟨G.prim.fwd,K.2.2.2,fun s ok e hm h=>by rw [lev_prim] at h ⊢; exact primM_bal W V FE S.post S.prim ok e hm h⟩
   have FP:BF T N (m + 1) (lev T (m + 1)).post:=⟨G.post.fwd,K.2.2.1,fun s ok e hm h=>by rw [lev_post] at h ⊢; exact postM_bal W V FR ok e hm h⟩
   exact ⟨FE,⟨G.unary.fwd,K.2.1,fun s ok e hm h=>by rw [lev_unary] at h ⊢; exact unaryM_bal W V S.unary FP ok e hm h⟩,FP,FR⟩
end Go.Proofs.YtkfbldogmgofoaaGreatDoor
namespace Go.Proofs.YtkfbldogmgofoaaGreatDoor
open Mir
variable {T T':List Tokn} {N k d n m m':Nat} {s s':PS} {M M' E E' P P' R R' U U':PF}
structure Stm (T T':List Tokn) (N k d n:Nat):Prop where
 X:Two T T' N k d n
 V:Wp T
 nb:(T'.getD (n + k) tkz).k ≠ 8
 nz:∀ j,j < n → (T.getD j tkz).k ≠ 0
 el:∀ j,n + k ≤ j → (∀ i,n + k ≤ i → i < j → (T'.getD i tkz).k = 1 ∨ ((T'.getD i tkz).k = 8 ∨ (T'.getD i tkz).k = 7) ∧ (T'.getD i tkz).t = [59]) → ¬ (((T'.getD j tkz).k = 8 ∨ (T'.getD j tkz).k = 7) ∧ (T'.getD j tkz).t = [101,108,115,101])
theorem Stm.stop (Y:Stm T T' N k d n):(T'.getD (n + k) tkz).k = 0 ∨ (T'.getD (n + k) tkz).k = 1:=by
 rcases Y.X.stop with e | e | e
 ·exact .inl e
 ·exact .inr e
 ·exact absurd e.1 Y.nb
theorem Stm.last (Y:Stm T T' N k d n):(T.getD n tkz).k = 0:=by
 have:=Y.X.W.last
 rw [Y.X.len] at this; exact this
theorem Rel.over (Y:Stm T T' N k d n) (r:Rel T N k d s s'):s'.over T' = s.over T:=by
 unfold PS.over
 by_cases lt:s.i < n
 ·rw [r.atL Y.X lt,r.curk Y.X lt]
 ·have c:s.i = n:=by have:=r.le Y.X; omega
  have e:(s'.cur T').k = 0 ∨ (s'.cur T').k = 1:=by rw [cur_o r.e',r.i,c]; exact Y.stop
  rw [r.k0 Y.X c]
  rcases e with e | e <;> rw [e] <;> simp
theorem listedN_s (K i:Nat) (z:Int):listedN T (K + 1) i z = if T.length ≤ i then false else
  if z + wgt (T.getD i tkz) = 0 then
   decide ((T.getD (min (i + 1) (T.length - 1)) tkz).k = 0) || decide ((T.getD (min (i + 1) (T.length - 1)) tkz).k = 1) || decide ((T.getD (min (i + 1) (T.length - 1)) tkz).k = 8) && decide (0 ≤ idxS ([32] ++ (T.getD (min (i + 1) (T.length - 1)) tkz).t ++ [32]) [32,59,32,125,32,62,32,62,62,32])
  else listedN T K (i + 1) (z + wgt (T.getD i tkz)):=by
 have:(if (T.getD i tkz).k = 8 ∧ (T.getD i tkz).t = [40] then z + 1 else if (T.getD i tkz).k = 8 ∧ (T.getD i tkz).t = [41] then z - 1 else z) = z + wgt (T.getD i tkz):=by
  unfold wgt; split; rfl; split; omega; omega
 rw [listedN,← this]
theorem listedN_eq (Y:Stm T T' N k d n):∀ (K K' i j:Nat) (z:Int),i ≤ j → j < n → z + psum T (j + 1) - psum T i = 0 → n < i + K → n < i + K' → listedN T' K' (i + k) z = listedN T K i z
 | 0,K',i,j,z,h1,h2,_,h3,_=>by omega
 | K + 1,0,i,j,z,h1,h2,_,_,h3=>by omega
 | K + 1,K' + 1,i,j,z,h1,h2,h,h3,h4=>by
   have len:=Y.X.len
   have len':=Y.X.len'
   have tw:wgt (T'.getD (i + k) tkz) = wgt (T.getD i tkz):=by unfold wgt; rw [Y.X.tk i (by omega),Y.X.tt i (by omega)]
   rw [listedN_s K i z,listedN_s K' (i + k) z,if_neg (c:=T.length ≤ i) (by omega),if_neg (c:=T'.length ≤ i + k) (by omega),tw]
   by_cases c:z + wgt (T.getD i tkz) = 0
   ·rw [if_pos c,if_pos c,Nat.min_eq_left (by omega),Nat.min_eq_left (by omega),show i + k + 1 = i + 1 + k from by omega]
    by_cases l:i + 1 < n
    ·rw [Y.X.tk _ l,Y.X.tt _ l]
    ·rw [show i + 1 = n from by omega,Y.last]
     rcases Y.stop with e | e <;> rw [e] <;> simp
   ·rw [if_neg c,if_neg c,show i + k + 1 = i + 1 + k from by omega]
    have ij:i ≠ j:=fun e=>by
     subst e
     exact c (by rw [show psum T (i + 1) = psum T i + wgt (T.getD i tkz) from rfl] at h; omega)
    exact listedN_eq Y K K' (i + 1) j _ (by omega) h2 (by rw [show psum T (i + 1) = psum T i + wgt (T.getD i tkz) from rfl]; omega) (by omega) (by omega)
theorem listedN_no (Y:Stm T T' N k d n):∀ (K i:Nat) (z:Int),z ≠ 0 → (∀ j,i ≤ j → j < n → z + psum T (j + 1) - psum T i ≠ 0) → listedN T K i z = false
 | 0,_,_,_,_=>rfl
 | K + 1,i,z,hz,h=>by
   rw [listedN_s]
   have len:=Y.X.len
   by_cases c:T.length ≤ i
   ·rw [if_pos c]
   ·rw [if_neg c]
    by_cases l:i < n
    ·have h0:=h i (Nat.le_refl _) l
     rw [show psum T (i + 1) = psum T i + wgt (T.getD i tkz) from rfl] at h0
     rw [if_neg (by omega)]
     exact listedN_no Y K (i + 1) _ (by omega) fun j a b=>by
      have:=h j (by omega) b
      rw [show psum T (i + 1) = psum T i + wgt (T.getD i tkz) from rfl]; omega
    ·have:wgt (T.getD i tkz) = 0:=by rw [show i = n from by omega]; exact wgt_k (by rw [Y.last]; decide)
     rw [this,if_neg (by omega)]
     exact listedN_no Y K (i + 1) _ (by omega) fun j a b=>by omega
theorem outN_s (K:Nat) (l:List Tree) (s:PS):outN T E (K + 1) l s = if s.err = 0 ∧ s.over T = false ∧ s.isAt T [[62],[62,62]] = false then
   outN T E K (l ++ [(E (if l = [] then s else (s.expect T [44]).lines T)).1]) (E (if l = [] then s else (s.expect T [44]).lines T)).2
  else (l,s):=by rw [outN]
theorem outN_sim (Y:Stm T T' N k d n) (F:SF T N k d m m' E E'):∀ (K K':Nat) {l l':List Tree} {s s':PS},Rel T N k d s s' → LikeTs l l' → l.length ≤ s.i → n < s.i + K → n < s.i + K' → s.deep + m = 51 → s'.deep + m' = 51 →
  (outN T E K l s).2.err = 0 → (0 < d ∧ (outN T' E' K' l' s').2.err = 14) ∨ (Rel T N k d (outN T E K l s).2 (outN T' E' K' l' s').2 ∧ LikeTs (outN T E K l s).1 (outN T' E' K' l' s').1 ∧ (outN T E K l s).1.length ≤ 99999)
 | 0,K',l,l',s,s',r,_,_,h,_,_,_,_=>by have:=r.le Y.X; omega
 | K + 1,0,l,l',s,s',r,_,_,_,h,_,_,_=>by have:=r.le Y.X; omega
 | K + 1,K' + 1,l,l',s,s',r,L,ll,hK,hK',hm,hm',h=>by
   have X:=Y.X
   have len:=X.len
   have big:=X.big
   rw [outN_s] at h
   rw [outN_s K l s,outN_s K' l' s',r.over Y,r.at X _ (by decide)]
   by_cases c:s.over T = false ∧ s.isAt T [[62],[62,62]] = false
   ·rw [if_pos ⟨r.e,c⟩] at h
    rw [if_pos (c:=s.err = 0 ∧ _) ⟨r.e,c⟩,if_pos (c:=s'.err = 0 ∧ _) ⟨r.e',c⟩]
    obtain ⟨y,hy⟩:∃ y,y = (if l = [] then s else (s.expect T [44]).lines T):=⟨_,rfl⟩
    obtain ⟨y',hy'⟩:∃ y',y' = (if l' = [] then s' else (s'.expect T' [44]).lines T'):=⟨_,rfl⟩
    rw [← hy] at h
    rw [← hy,← hy']
    have e1:(E y).2.err = 0:=back (fun q=>q.outN _ _) h
    have ey:y.err = 0:=back (fun q=>F.kf _ _ q) e1
    have ry:Rel T N k d y y' ∧ s.i ≤ y.i ∧ y.deep = s.deep ∧ y'.deep = s'.deep:=by
     by_cases el:l = []
     ·rw [if_pos el] at hy; rw [if_pos (L.nilIff.2 el)] at hy'
      rw [hy,hy']; exact ⟨r,Nat.le_refl _,rfl,rfl⟩
     ·rw [if_neg el] at hy; rw [if_neg (fun q=>el (L.nilIff.1 q))] at hy'
      have f1:=expect_fwd X.W r.ok [44]
      have f2:=f1.trans (lines_fwd X.W f1.ok)
      have ee:(s.expect T [44]).err = 0:=back (fun q=>q.lines) (by rw [← hy]; exact ey)
      obtain ⟨_,r1⟩:=r.expect X _ ee
      have:=F.lt X (s:=y) (by rw [hy]; exact f2.ok) ey (by rw [hy,f2.deep]; exact hm) e1
      have r2:=r1.lines X (by rw [← hy]; omega)
      rw [hy,hy']
      refine ⟨r2,f2.le,f2.deep,?_⟩
      have a:=r2.dp; have b:=r.dp; have c:=f2.deep; omega
    obtain ⟨ry,yi,yd,yd'⟩:=ry
    obtain ⟨g1,g2,g3,g4⟩:=F.lt X ry.ok ry.e (by omega) e1
    rcases F.sim _ _ ry (by omega) (by omega) e1 with ⟨d0,b⟩ | ⟨rx,lx⟩
    ·exact .inl ⟨d0,fore (fun q=>q.outN _ _) b⟩
    ·have q1:=rx.dp; have q2:=r.dp
     exact outN_sim Y F K K' rx (L.app (.one lx)) (by rw [List.length_append]; show l.length + 1 ≤ _; omega) (by omega) (by omega) (by omega) (by omega) h
   ·rw [if_neg (fun q=>c q.2),if_neg (fun q=>c q.2)]
    exact .inr ⟨r,L,by show l.length ≤ 99999; have:=r.le X; omega⟩
theorem outArgs_sim (Y:Stm T T' N k d n) (F:SF T N k d m m' E E') (B:BF T N m E) (r:Rel T N k d s s') (hm:s.deep + m = 51) (hm':s'.deep + m' = 51) (h:(outArgs T E s).2.err = 0) :
  (0 < d ∧ (outArgs T' E' s').2.err = 14) ∨ (Rel T N k d (outArgs T E s).2 (outArgs T' E' s').2 ∧ LikeTs (outArgs T E s).1 (outArgs T' E' s').1 ∧ (outArgs T E s).1.length ≤ 99999):=by
 have X:=Y.X
 have len:=X.len
 have len':=X.len'
 have lis:s'.listed T' = s.listed T:=by
  unfold PS.listed
  cases ca:s.isAt T [[40]]
  ·have:s'.isAt T' [[40]] = false:=by rw [r.at X _ (by decide)]; exact ca
   rw [this]; rfl
  ·have lt:=r.ltA X ca
   have ca':s'.isAt T' [[40]] = true:=by rw [r.at X _ (by decide)]; exact ca
   rw [ca',Bool.true_and,Bool.true_and,r.i]
   by_cases hj:∃ j,s.i ≤ j ∧ j < n ∧ (0:Int) + psum T (j + 1) - psum T s.i = 0
   ·obtain ⟨j,j1,j2,j3⟩:=hj
    exact listedN_eq Y _ _ _ j _ j1 j2 j3 (by omega) (by omega)
   ·exfalso
    have no:listedN T (T.length + 1) s.i 0 = false:=by
     rw [listedN_s,if_neg (by omega)]
     have w1:wgt (T.getD s.i tkz) = 1:=by
      have ct:(s.cur T).t = [40]:=List.mem_singleton.1 (at_t ca)
      have v:=Y.V s.i
      rw [← cur_o r.e] at v ⊢
      unfold wgt
      rw [if_pos ⟨(at_k ca).elim id fun q=>absurd ct (v q).1,ct⟩]
     rw [w1,if_neg (by decide)]
     exact listedN_no Y _ _ _ (by decide) fun j a b q=>hj ⟨j,by omega,b,by
      rw [show psum T (s.i + 1) = psum T s.i + wgt (T.getD s.i tkz) from rfl,w1] at q; omega⟩
    have hl:s.listed T = false:=by unfold PS.listed; rw [no]; exact Bool.and_false _
    unfold outArgs at h
    rw [if_neg (by rw [hl]; decide),outN_s] at h
    have co:s.over T = false:=by
     have ct:(s.cur T).t = [40]:=List.mem_singleton.1 (at_t ca)
     have ck:=at_k ca
     unfold PS.over PS.isAt
     rw [ct]
     rcases ck with e | e <;> rw [e] <;> decide
    have cg:s.isAt T [[62],[62,62]] = false:=by
     have ct:(s.cur T).t = [40]:=List.mem_singleton.1 (at_t ca)
     unfold PS.isAt
     rw [ct]; simp
    rw [if_pos ⟨r.e,co,cg⟩,if_pos rfl] at h
    have e1:(E s).2.err = 0:=back (fun q=>q.outN _ _) h
    obtain ⟨g1,g2,g3,g4⟩:=F.lt X r.ok r.e hm e1
    have bal:=B.bal s r.ok r.e hm e1
    unfold pb at bal
    exact hj ⟨(E s).2.i - 1,by omega,by omega,by rw [show (E s).2.i - 1 + 1 = (E s).2.i from by omega]; omega⟩
 unfold outArgs at h ⊢
 rw [lis]
 by_cases c:s.listed T = true
 ·rw [if_pos c] at h
  rw [if_pos c,if_pos c]
  have ca:s.isAt T [[40]] = true:=by unfold PS.listed at c; exact (Bool.and_eq_true_iff.1 c).1
  have r1:=r.stepA X ca
  have f1:=step_fwd X.W r.ok
  have d1:=f1.deep; have q1:=r1.dp; have q2:=r.dp
  exact listM_sim X F [41] r1 (by omega) (by omega) h
 ·rw [if_neg c] at h
  rw [if_neg c,if_neg c]
  exact outN_sim Y F _ _ r .nil (Nat.zero_le _) (by omega) (by omega) hm hm' h
end Go.Proofs.YtkfbldogmgofoaaGreatDoor
namespace Go.Proofs.YtkfbldogmgofoaaGreatDoor
open Mir
variable {T T':List Tokn} {N k d n m m':Nat} {s s':PS} {M M' E E' P P' R R' U U' S S':PF}
theorem outTo_sim (Y:Stm T T' N k d n) (F:SF T N k d m m' (catEM T U) (catEM T' U')) (r:Rel T N k d s s') (hm:s.deep + m = 51) (hm':s'.deep + m' = 51) (h:(outTo T (catEM T U) s).2.err = 0):Both2 T N k d (outTo T (catEM T U) s) (outTo T' (catEM T' U') s'):=by
 have X:=Y.X
 have key:∀ (o:Txt) (l:List Txt),s.isAt T l = true → (catEM T U (s.step T)).2.err = 0 → Both2 T N k d (nodeM o [(catEM T U (s.step T)).1],(catEM T U (s.step T)).2) (nodeM o [(catEM T' U' (s'.step T')).1],(catEM T' U' (s'.step T')).2):=fun o l c e=>by
  have r1:=r.stepA X c
  have d1:=(step_fwd X.W r.ok).deep
  have q1:=r1.dp; have q2:=r.dp
  rcases F.sim _ _ r1 (by omega) (by omega) e with ⟨d0,b⟩ | ⟨r2,l2⟩
  ·exact .inl ⟨d0,b⟩
  ·exact .inr ⟨r2,like1 _ l2⟩
 unfold outTo at h ⊢
 rw [r.at X _ (by decide),r.at X _ (by decide)]
 by_cases c1:s.isAt T [[62]] = true
 ·rw [if_pos c1] at h; rw [if_pos c1,if_pos c1]; exact key _ _ c1 h
 rw [if_neg c1] at h; rw [if_neg c1,if_neg c1]
 by_cases c2:s.isAt T [[62,62]] = true
 ·rw [if_pos c2] at h; rw [if_pos c2,if_pos c2]; exact key _ _ c2 h
 ·rw [if_neg c2,if_neg c2]; exact .inr ⟨r,.mk (by simp) .nil⟩
theorem Kp.outTo {s0:PS} (q:Kp s0 s) (hU:KF (catEM T U)):Kp s0 (outTo T (catEM T U) s).2:=by
 unfold Go.Proofs.YtkfbldogmgofoaaGreatDoor.outTo
 exact Kp.ite (hU _ _ q.step) (Kp.ite (hU _ _ q.step) q)
theorem Kp.outEnd {s0:PS} (q:Kp s0 s) (op:Txt) (l:List Tree):Kp s0 (outEnd T op l s):=by
 unfold Go.Proofs.YtkfbldogmgofoaaGreatDoor.outEnd
 exact Kp.iteS (q.flat false).fail (q.flat false)
theorem Kp.outArgs {s0:PS} (q:Kp s0 s):Kp s0 (outArgs T E s).2:=by
 unfold Go.Proofs.YtkfbldogmgofoaaGreatDoor.outArgs
 exact Kp.iteL (q.step.listM _) (q.outN _ _)
theorem outputM_sim (Y:Stm T T' N k d n) (FE:SF T N k d m m' E E') (FC:SF T N k d m m' (catEM T U) (catEM T' U')) (B:BF T N m E) (op:Txt) (r:Rel T N k d s s') (hm:s.deep + m = 51) (hm':s'.deep + m' = 51) (h:(outputM T E U op s).2.err = 0) :
  Both2 T N k d (outputM T E U op s) (outputM T' E' U' op s'):=by
 have X:=Y.X
 rw [outputM_eq] at h ⊢
 rw [outputM_eq]
 dsimp only at h
 have r0:=r.flat true
 have e2:(outTo T (catEM T U) (outArgs T E { s with flat:=true }).2).2.err = 0:=back (fun q=>q.outEnd _ _) h
 have e1:(outArgs T E { s with flat:=true }).2.err = 0:=back (fun q=>q.outTo FC.kf) e2
 have f1:=outArgs_fwd X.W FE.fwd r0.ok (lv r0.ok r0.e hm)
 rcases outArgs_sim Y FE B r0 hm hm' e1 with ⟨d0,b⟩ | ⟨r1,L,ll⟩
 ·exact .inl ⟨d0,fore (fun q=>(q.outTo FC.kf').outEnd _ _) b⟩
 generalize outArgs T E { s with flat:=true } = x at h e2 e1 f1 r1 L ll
 generalize outArgs T' E' { s' with flat:=true } = x' at r1 L
 have d1:=f1.deep; have q1:=r1.dp; have q2:=r.dp
 dsimp only at d1
 have f2:=outTo_fwd X.W FC.fwd r1.ok (lv r1.ok r1.e (by omega))
 rcases outTo_sim Y FC r1 (by omega) (by omega) e2 with ⟨d0,b⟩ | ⟨r2,l2⟩
 ·exact .inl ⟨d0,fore (fun q=>q.outEnd _ _) b⟩
 generalize outTo T (catEM T U) x.2 = y at h e2 f2 r2 l2
 generalize outTo T' (catEM T' U') x'.2 = y' at r2 l2
 have hE:¬ (op = [112,114,105,110,116,102] ∧ x.1 = []):=fun c=>by
  unfold outEnd at h
  rw [if_pos c] at h
  exact fail_adv X.W (r2.flat false).ok h
 unfold outEnd
 rw [if_neg hE,if_neg (fun c=>hE ⟨c.1,L.nilIff.1 c.2⟩)]
 exact .inr ⟨r2.flat false,.mk (by simp; omega) (.cons l2 L)⟩
theorem simpleM_sim (Y:Stm T T' N k d n) (FE:SF T N k d m m' E E') (FC:SF T N k d m m' (catEM T U) (catEM T' U')) (B:BF T N m E) (r:Rel T N k d s s') (hm:s.deep + m = 51) (hm':s'.deep + m' = 51) (h:(simpleM T E U s).2.err = 0) :
  Both2 T N k d (simpleM T E U s) (simpleM T' E' U' s'):=by
 have X:=Y.X
 have le:=r.le X
 unfold simpleM at h ⊢
 dsimp only at h ⊢
 by_cases c7:(s.cur T).k ≠ 7
 ·rw [if_pos c7] at h
  obtain ⟨g1,g2,g3,g4⟩:=FE.lt X r.ok r.e hm h
  rw [if_pos c7,if_pos (by rw [r.curk X (by omega)]; exact c7)]
  rcases FE.sim _ _ r hm hm' h with ⟨d0,b⟩ | ⟨r2,l2⟩
  ·exact .inl ⟨d0,b⟩
  ·exact .inr ⟨r2,like1 _ l2⟩
 have k7:(s.cur T).k = 7:=by omega
 have lt:=r.lt X (by omega)
 have ct:=r.curt X lt
 have r1:=r.step X lt
 have f1:=step_fwd X.W r.ok
 have d1:=f1.deep; have q1:=r1.dp; have q2:=r.dp
 rw [if_neg c7] at h
 rw [if_neg (c:=(s.cur T).k ≠ 7) c7,if_neg (c:=(s'.cur T').k ≠ 7) (by rw [r.curk X lt]; exact c7),ct]
 by_cases c1:(s.cur T).t = [98,114,101,97,107] ∨ (s.cur T).t = [99,111,110,116,105,110,117,101] ∨ (s.cur T).t = [110,101,120,116]
 ·rw [if_pos c1,if_pos c1]; exact .inr ⟨r1,.mk (by simp) .nil⟩
 rw [if_neg c1] at h; rw [if_neg c1,if_neg c1]
 by_cases c2:(s.cur T).t = [101,120,105,116] ∨ (s.cur T).t = [114,101,116,117,114,110]
 ·rw [if_pos c2] at h; rw [if_pos c2,if_pos c2,r1.over Y]
  by_cases co:(s.step T).over T = true
  ·rw [if_pos co,if_pos co]; exact .inr ⟨r1,.mk (by simp) .nil⟩
  ·rw [if_neg co] at h; rw [if_neg co,if_neg co]
   rcases FE.sim _ _ r1 (by omega) (by omega) h with ⟨d0,b⟩ | ⟨r2,l2⟩
   ·exact .inl ⟨d0,b⟩
   ·exact .inr ⟨r2,.mk (by simp) (.one l2)⟩
 rw [if_neg c2] at h; rw [if_neg c2,if_neg c2]
 by_cases c3:(s.cur T).t = [100,101,108,101,116,101]
 ·rw [if_pos c3] at h; rw [if_pos c3,if_pos c3]
  have f2:=name_fwd X.W f1.ok [5]
  have d2:=f2.deep
  have e1:((s.step T).name T [5]).2.err = 0:=by
   by_cases cb:((s.step T).name T [5]).2.isAt T [[91]] = true
   ·exact at_err cb
   ·rw [if_neg cb] at h; exact h
  obtain ⟨_,et,r2⟩:=r1.name X [5] (by decide) e1
  have q3:=r2.dp
  rw [r2.at X _ (by decide)]
  by_cases cb:((s.step T).name T [5]).2.isAt T [[91]] = true
  ·rw [if_pos cb] at h; rw [if_pos cb,if_pos cb]
   have r3:=r2.stepA X cb
   have d3:=(step_fwd X.W f2.ok).deep
   have q4:=r3.dp
   rcases insideM_sim X FE [93] r3 (by omega) (by omega) h with ⟨d0,b⟩ | ⟨r4,l4⟩
   ·exact .inl ⟨d0,b⟩
   ·exact .inr ⟨r4,like1 _ (like_leaf _ et (.one l4) (by simp))⟩
  ·rw [if_neg cb,if_neg cb]; exact .inr ⟨r2,like1 _ (like_leaf0 _ et)⟩
 rw [if_neg c3] at h; rw [if_neg c3,if_neg c3]
 by_cases c4:(s.cur T).t = [112,114,105,110,116] ∨ (s.cur T).t = [112,114,105,110,116,102]
 ·rw [if_pos c4] at h; rw [if_pos c4,if_pos c4]
  exact outputM_sim Y FE FC B _ r1 (by omega) (by omega) h
 ·rw [if_neg c4] at h; exact absurd h (fail_adv X.W r.ok)
theorem Rel.fin (Y:Stm T T' N k d n) (r:Rel T N k d s s') (h:(s.fin T).err = 0):Rel T N k d (s.fin T) (s'.fin T'):=by
 have X:=Y.X
 unfold PS.fin at h ⊢
 rw [r.at X _ (by decide),r.at X _ (by decide)]
 by_cases c1:s.isAt T [[59]] = true
 ·rw [if_pos c1,if_pos c1]; exact r.stepA X c1
 rw [if_neg c1] at h; rw [if_neg c1,if_neg c1]
 by_cases c2:s.isAt T [[125]] = true
 ·rw [if_pos c2,if_pos c2]; exact r
 rw [if_neg c2] at h; rw [if_neg c2,if_neg c2]
 by_cases c3:(s.cur T).k = 1
 ·have lt:=r.lt X (by omega)
  rw [if_pos c3,if_pos (by rw [r.curk X lt]; exact c3)]; exact r.step X lt
 ·rw [if_neg c3] at h; exact absurd h (fail_adv X.W r.ok)
theorem body_sf (X:Two T T' N k d n) (F:SF T N k d m m' S S'):SF T N k d m m' (bodyM T S) (bodyM T' S'):=by
 refine ⟨fun s ok hl=>?_,fun s ok hl=>?_,fun s0 s q=>F.kf _ _ q.lines,fun s0 s q=>F.kf' _ _ q.lines,fun s s' r hm hm' h=>?_⟩
 ·have f:=lines_fwd X.W ok
  exact f.trans (F.fwd _ f.ok (hl.fwd f))
 ·have f:=lines_fwd X.W ok
  exact Adv.right f (F.adv _ f.ok (hl.fwd f)) (F.fwd _ f.ok (hl.fwd f))
 ·have f:=lines_fwd X.W r.ok
  have d1:=f.deep
  obtain ⟨g1,g2,_,_⟩:=F.lt X f.ok (r.linesE X) (by omega) h
  have r1:=r.lines X (by omega)
  have q1:=r1.dp; have q2:=r.dp
  exact F.sim _ _ r1 (by omega) (by omega) h
def NLs (T:List Tokn) (i j:Nat):Prop:=∀ x,i ≤ x → x < j → (T.getD x tkz).k = 1
structure Run (T:List Tokn) (s q:PS):Prop where
 eq:q = { s with i:=q.i }
 le:s.i ≤ q.i
 nls:NLs T s.i q.i
theorem lines_run (h:s.err = 0):Run T s (s.lines T):=by
 have:∀ K (s:PS),s.err = 0 → Run T s (linesN T K s):=fun K=>by
  induction K with
  | zero=>exact fun s _=>⟨rfl,Nat.le_refl _,fun x a b=>by exact absurd b (by show ¬ x < s.i; omega)⟩
  | succ K ih =>
    intro s h
    rw [linesN]
    by_cases c:(s.cur T).k = 1
    ·rw [if_pos c]
     by_cases e:s.err = 0 ∧ s.i + 1 < T.length
     ·have st:s.step T = { s with i:=s.i + 1 }:=by unfold PS.step; rw [if_pos e]
      rw [st]
      have R:=ih { s with i:=s.i + 1 } h
      have le:=R.le
      dsimp only at le
      refine ⟨R.eq,by omega,fun x a b=>?_⟩
      by_cases cx:x = s.i
      ·rw [cx,← cur_o h]; exact c
      ·exact R.nls x (by show s.i + 1 ≤ x; omega) b
     ·have st:s.step T = s:=by unfold PS.step; rw [if_neg e]
      rw [st]; exact ih s h
    ·rw [if_neg c]; exact ⟨rfl,Nat.le_refl _,fun x a b=>absurd b (by omega)⟩
 exact this _ _ h
end Go.Proofs.YtkfbldogmgofoaaGreatDoor
namespace Go.Proofs.YtkfbldogmgofoaaGreatDoor
open Mir
variable {T T':List Tokn} {N k d n m m':Nat} {s s':PS} {M M' E E' P P' R R' U U' S S':PF}
def Past (T':List Tokn) (b p:Nat):Prop:=∀ i,b ≤ i → i < p → (T'.getD i tkz).k = 1 ∨ ((T'.getD i tkz).k = 8 ∨ (T'.getD i tkz).k = 7) ∧ (T'.getD i tkz).t = [59]
theorem Past.run {b:Nat} {q:PS} (p:Past T' b s.i) (r:Run T' s q):Past T' b q.i:=fun i h1 h2=>by
 by_cases c:i < s.i
 ·exact p i h1 c
 ·exact .inl (r.nls i (by omega) h2)
theorem step_i (s:PS):s.step T = { s with i:=(s.step T).i } ∧ s.i ≤ (s.step T).i ∧ (s.step T).i ≤ s.i + 1:=by
 unfold PS.step; split
 ·exact ⟨rfl,Nat.le_succ _,Nat.le_refl _⟩
 ·exact ⟨rfl,Nat.le_refl _,Nat.le_succ _⟩
theorem Past.step {b:Nat} (p:Past T' b s.i) (c:s.isAt T' [[59]] = true):Past T' b (s.step T').i:=fun i h1 h2=>by
 obtain ⟨_,_,h3⟩:=step_i (T:=T') s
 by_cases ci:i < s.i
 ·exact p i h1 ci
 ·have:i = s.i:=by omega
  have ct:(s.cur T').t = [59]:=List.mem_singleton.1 (at_t c)
  have ck:=at_k c
  rw [cur_o (at_err c)] at ct ck
  rw [this]; exact .inr ⟨ck,ct⟩
theorem no_else (Y:Stm T T' N k d n) {a:Nat} (hn:NLs T a n) {q:PS} (e:q.err = 0) (h:a + k ≤ q.i) (p:Past T' (n + k) q.i):q.isAt T' [[101,108,115,101]] = false:=by
 cases c:q.isAt T' [[101,108,115,101]]
 ·rfl
 ·exfalso
  have ct:(q.cur T').t = [101,108,115,101]:=List.mem_singleton.1 (at_t c)
  have ck:=at_k c
  rw [cur_o e] at ct ck
  by_cases l:q.i < n + k
  ·obtain ⟨j,hj⟩:∃ j,q.i = j + k:=⟨q.i - k,by omega⟩
   rw [hj] at ck
   rw [Y.X.tk j (by omega)] at ck
   have:=hn j (by omega) (by omega)
   omega
  ·exact Y.el q.i (by omega) p ⟨ck,ct⟩
def aft (T:List Tokn) (s:PS):PS:=if (s.lines T).isAt T [[59]] = true then ((s.lines T).step T).lines T else s.lines T
theorem Kp.aft {s0:PS} (q:Kp s0 s):Kp s0 (aft T s):=Kp.iteS q.lines.step.lines q.lines
theorem ps_ext {q s:PS} (h1:q.deep = s.deep) (h2:q.flat = s.flat) (h3:q.err = s.err) (h4:q.bad = s.bad):q = { s with i:=q.i }:=by
 cases q; cases s; simp only at h1 h2 h3 h4; subst h1; subst h2; subst h3; subst h4; rfl
theorem eqd {q s:PS} {j:Nat} (h:q = { s with i:=j }):q.deep = s.deep ∧ q.flat = s.flat ∧ q.err = s.err ∧ q.bad = s.bad:=by rw [h]; exact ⟨rfl,rfl,rfl,rfl⟩
theorem aft_i (e:s.err = 0):aft T s = { s with i:=(aft T s).i } ∧ s.i ≤ (aft T s).i:=by
 have R:=lines_run (T:=T) e
 have Re:=R.eq
 have le:=R.le
 unfold aft
 split
 ·obtain ⟨s1,s2,_⟩:=step_i (T:=T) (s.lines T)
  have e1:((s.lines T).step T).err = 0:=by rw [s1,Re]; exact e
  have R2:=lines_run (T:=T) e1
  have:=R2.le
  refine ⟨?_,by omega⟩
  obtain ⟨x1,x2,x3,x4⟩:=eqd R2.eq
  obtain ⟨y1,y2,y3,y4⟩:=eqd s1
  obtain ⟨w1,w2,w3,w4⟩:=eqd Re
  exact ps_ext (x1.trans (y1.trans w1)) (x2.trans (y2.trans w2)) (x3.trans (y3.trans w3)) (x4.trans (y4.trans w4))
 ·exact ⟨Re,le⟩
theorem aft_sim (Y:Stm T T' N k d n) (r:Rel T N k d s s'):Rel T N k d (aft T s) (aft T' s') ∨ (aft T s).isAt T [[101,108,115,101]] = false ∧ (aft T' s').isAt T' [[101,108,115,101]] = false:=by
 have X:=Y.X
 have R:=lines_run (T:=T) r.e
 have R':=lines_run (T:=T') r.e'
 have i0:=r.i
 have le0:=r.le X
 have past0:Past T' (n + k) s'.i:=fun i a b=>by omega
 have past1:=past0.run R'
 have le1':=R'.le
 have e1':(s'.lines T').err = 0:=by rw [R'.eq]; exact r.e'
 by_cases c1:(s.lines T).i = n
 ·refine .inr ⟨?_,?_⟩
  ·unfold aft
   rw [if_neg (by rw [at_n X c1 (r.linesE X)]; decide)]
   exact at_n X c1 (r.linesE X) _
  ·have nl:NLs T s.i n:=by rw [← c1]; exact R.nls
   obtain ⟨ea,la⟩:=aft_i (T:=T') r.e'
   refine no_else Y nl (by rw [ea]; exact r.e') (by omega) ?_
   unfold aft
   split
   ·rename_i cs
    obtain ⟨s1,s2,_⟩:=step_i (T:=T') (s'.lines T')
    exact (past1.step cs).run (lines_run (by rw [s1]; exact e1'))
   ·exact past1
 ·have r1:=r.lines X c1
  unfold aft
  rw [r1.at X _ (by decide)]
  by_cases cs:(s.lines T).isAt T [[59]] = true
  ·rw [if_pos cs,if_pos cs]
   have r2:=r1.stepA X cs
   by_cases c2:(((s.lines T).step T).lines T).i = n
   ·have R2:=lines_run (T:=T) r2.e
    have R2':=lines_run (T:=T') r2.e'
    have i2:=r2.i
    have le2:=r2.le X
    have le2':=R2'.le
    refine .inr ⟨at_n X c2 (r2.linesE X) _,?_⟩
    have nl:NLs T ((s.lines T).step T).i n:=by rw [← c2]; exact R2.nls
    refine no_else Y nl (by rw [R2'.eq]; exact r2.e') (by omega) ?_
    exact Past.run (fun i a b=>by omega) R2'
   ·exact .inl (r2.lines X c2)
  ·rw [if_neg cs,if_neg cs]; exact .inl r1
theorem choiceM_s (s:PS):choiceM T E S s = if (aft T (bodyM T S (insideM T E [41] (s.expect T [40])).2).2).isAt T [[101,108,115,101]] = true then
   (nodeM [105,102] [(insideM T E [41] (s.expect T [40])).1,(bodyM T S (insideM T E [41] (s.expect T [40])).2).1,(bodyM T S ((aft T (bodyM T S (insideM T E [41] (s.expect T [40])).2).2).step T)).1],(bodyM T S ((aft T (bodyM T S (insideM T E [41] (s.expect T [40])).2).2).step T)).2)
  else (nodeM [105,102] [(insideM T E [41] (s.expect T [40])).1,(bodyM T S (insideM T E [41] (s.expect T [40])).2).1],
   if (aft T (bodyM T S (insideM T E [41] (s.expect T [40])).2).2).err = 0 then { aft T (bodyM T S (insideM T E [41] (s.expect T [40])).2).2 with i:=(bodyM T S (insideM T E [41] (s.expect T [40])).2).2.i } else aft T (bodyM T S (insideM T E [41] (s.expect T [40])).2).2):=by
 unfold choiceM aft; rfl
theorem choiceT {c c':List Tree} {y:PS} {B:PF} (hB:KF B):Kp y y → Kp y (if (aft T y).isAt T [[101,108,115,101]] = true then (nodeM [105,102] c,(B ((aft T y).step T)).2) else (nodeM [105,102] c',if (aft T y).err = 0 then { aft T y with i:=y.i } else aft T y)).2:=fun q=>by
 have k3:Kp y (aft T y):=q.aft
 generalize aft T y = z at k3
 refine Kp.ite (hB _ _ k3.step) ?_
 dsimp only
 rw [if_neg k3.n]; exact k3
theorem choiceM_sim (Y:Stm T T' N k d n) (FE:SF T N k d m m' E E') (FS:SF T N k d m m' S S') (r:Rel T N k d s s') (hm:s.deep + m = 51) (hm':s'.deep + m' = 51) (h:(choiceM T E S s).2.err = 0) :
  Both2 T N k d (choiceM T E S s) (choiceM T' E' S' s'):=by
 have X:=Y.X
 have FB:=body_sf X FS
 rw [choiceM_s] at h ⊢
 rw [choiceM_s]
 have e2:(bodyM T S (insideM T E [41] (s.expect T [40])).2).2.err = 0:=back (choiceT FB.kf) h
 have e1:(insideM T E [41] (s.expect T [40])).2.err = 0:=back (fun q=>FB.kf _ _ q) e2
 have e0:(s.expect T [40]).err = 0:=back (fun q=>q.insideM FE.kf _) e1
 have r0:=(r.expect X _ e0).2
 have f0:=expect_fwd X.W r.ok [40]
 have d0':=f0.deep; have q0:=r0.dp; have q2:=r.dp
 have f1:=insideM_fwd X.W FE.fwd [41] f0.ok (lv f0.ok e0 (by omega))
 rcases insideM_sim X FE [41] r0 (by omega) (by omega) e1 with ⟨dd,b⟩ | ⟨r1,l1⟩
 ·exact .inl ⟨dd,fore (choiceT FB.kf') (fore (fun q=>FB.kf' _ _ q) b)⟩
 generalize insideM T E [41] (s.expect T [40]) = x at h e2 e1 f1 r1 l1
 generalize insideM T' E' [41] (s'.expect T' [40]) = x' at r1 l1
 have d1:=f1.deep; have q1:=r1.dp
 obtain ⟨g1,g2,g3,g4⟩:=FB.lt X r1.ok r1.e (by omega) e2
 rcases FB.sim _ _ r1 (by omega) (by omega) e2 with ⟨dd,b⟩ | ⟨ry,ly⟩
 ·exact .inl ⟨dd,fore (choiceT FB.kf') b⟩
 generalize bodyM T S x.2 = y at h e2 g1 g2 g3 g4 ry ly
 generalize bodyM T' S' x'.2 = y' at ry ly
 have q3:=ry.dp
 obtain ⟨a1,_⟩:=aft_i (T:=T) ry.e
 obtain ⟨a1',_⟩:=aft_i (T:=T') ry.e'
 have b1:({ aft T y.2 with i:=y.2.i }:PS) = y.2:=by rw [a1]
 have b1':({ aft T' y'.2 with i:=y'.2.i }:PS) = y'.2:=by rw [a1']
 have z1:(aft T y.2).err = 0:=by rw [a1]; exact ry.e
 have z1':(aft T' y'.2).err = 0:=by rw [a1']; exact ry.e'
 have zd:(aft T y.2).deep = y.2.deep:=by rw [a1]
 rw [if_pos z1,if_pos z1',b1,b1']
 rcases aft_sim Y ry with rz | ⟨h1,h2⟩
 ·rw [rz.at X _ (by decide)]
  by_cases c:(aft T y.2).isAt T [[101,108,115,101]] = true
  ·rw [if_pos c] at h; rw [if_pos c,if_pos c]
   have r5:=rz.stepA X c
   have d5:=(step_fwd X.W rz.ok).deep
   have q5:=r5.dp; have q6:=rz.dp
   rcases FB.sim _ _ r5 (by omega) (by omega) h with ⟨dd,b⟩ | ⟨r6,l6⟩
   ·exact .inl ⟨dd,b⟩
   ·exact .inr ⟨r6,like3 _ l1 ly l6⟩
  ·rw [if_neg c,if_neg c]; exact .inr ⟨ry,like2 _ l1 ly⟩
 ·rw [if_neg (by rw [h1]; decide),if_neg (by rw [h2]; decide)]; exact .inr ⟨ry,like2 _ l1 ly⟩
end Go.Proofs.YtkfbldogmgofoaaGreatDoor
namespace Go.Proofs.YtkfbldogmgofoaaGreatDoor
open Mir
variable {T T':List Tokn} {N k d n m m':Nat} {s s':PS} {M M' E E' P P' R R' U U' S S':PF}
theorem skipN_s (K:Nat) (s:PS):skipN T (K + 1) s = if s.isAt T [[59]] = true ∨ (s.cur T).k = 1 then skipN T K (s.step T) else s:=by rw [skipN]
theorem skipN_rel (X:Two T T' N k d n):∀ (K K':Nat) {s s':PS},Rel T N k d s s' → n ≤ s.i + K → n ≤ s.i + K' → (skipN T K s).i ≠ n → Rel T N k d (skipN T K s) (skipN T' K' s')
 | 0,K',s,s',r,h,_,hn=>by
   have:=r.le X
   exact absurd (show s.i = n by omega) hn
 | K + 1,K',s,s',r,h,h',hn=>by
   rw [skipN_s] at hn ⊢
   by_cases c:s.isAt T [[59]] = true ∨ (s.cur T).k = 1
   ·have lt:s.i < n:=c.elim (fun e=>r.ltA X e) (fun e=>r.lt X (by omega))
    have st:(s.step T).i = s.i + 1:=by unfold PS.step; rw [if_pos ⟨r.e,by rw [X.len]; omega⟩]
    rw [if_pos c] at hn ⊢
    obtain ⟨K',rfl⟩:∃ j,K' = j + 1:=⟨K' - 1,by omega⟩
    rw [skipN_s,if_pos (by rw [r.curk X lt,r.atL X lt]; exact c)]
    exact skipN_rel X K K' (r.step X lt) (by omega) (by omega) hn
   ·rw [if_neg c] at hn ⊢
    have lt:s.i < n:=by have:=r.le X; omega
    cases K' with
    | zero=>exact r
    | succ K'=>rw [skipN_s,if_neg (by rw [r.curk X lt,r.atL X lt]; exact c)]; exact r
theorem Rel.skip (X:Two T T' N k d n) (r:Rel T N k d s s') (h:(s.skip T).i ≠ n):Rel T N k d (s.skip T) (s'.skip T') :=
 skipN_rel X _ _ r (by have:=X.len; omega) (by have:=X.len'; omega) h
theorem skip_e (e:s.err = 0):(s.skip T).err = 0:=by
 have:∀ K (s:PS),s.err = 0 → (skipN T K s).err = 0:=fun K=>by
  induction K with
  | zero=>exact fun s h=>h
  | succ K ih =>
    intro s h
    rw [skipN_s]
    split
    ·refine ih _ ?_
     unfold PS.step; split <;> exact h
    ·exact h
 exact this _ _ e
theorem Kp.blockN {s0:PS} (q:Kp s0 s) (K:Nat) (l:List Tree):Kp s0 (blockN T S K l s).2:=by
 cases K with
 | zero=>exact q
 | succ K=>rw [Mir.blockN,if_neg q.n]; exact q
theorem blockN_s (K:Nat) (l:List Tree) (s:PS):blockN T S (K + 1) l s = if s.err = 0 then
   if (s.skip T).isAt T [[125]] = true then (l,(s.skip T).step T) else blockN T S K (l ++ [(S (s.skip T)).1]) (S (s.skip T)).2
  else (l,s):=by rw [blockN]
theorem blockN_sim (X:Two T T' N k d n) (F:SF T N k d m m' S S'):∀ (K K':Nat) {l l':List Tree} {s s':PS},Rel T N k d s s' → LikeTs l l' → l.length ≤ s.i → n < s.i + K → n < s.i + K' → s.deep + m = 51 → s'.deep + m' = 51 →
  (blockN T S K l s).2.err = 0 → (0 < d ∧ (blockN T' S' K' l' s').2.err = 14) ∨ (Rel T N k d (blockN T S K l s).2 (blockN T' S' K' l' s').2 ∧ LikeTs (blockN T S K l s).1 (blockN T' S' K' l' s').1 ∧ (blockN T S K l s).1.length ≤ 99999)
 | 0,K',l,l',s,s',r,_,_,h,_,_,_,_=>by have:=r.le X; omega
 | K + 1,0,l,l',s,s',r,_,_,_,h,_,_,_=>by have:=r.le X; omega
 | K + 1,K' + 1,l,l',s,s',r,L,ll,hK,hK',hm,hm',h=>by
   have len:=X.len
   have big:=X.big
   have f1:=skip_fwd X.W r.ok
   have le1:=f1.le; have d1:=f1.deep; have q2:=r.dp
   rw [blockN_s,if_pos r.e] at h
   rw [blockN_s K l s,blockN_s K' l' s',if_pos r.e,if_pos r.e']
   by_cases c:(s.skip T).isAt T [[125]] = true
   ·have lt:=lt_of_at X f1.ok c
    have r1:=r.skip X (by omega)
    rw [if_pos c,if_pos (by rw [r1.at X _ (by decide)]; exact c)]
    exact .inr ⟨r1.stepA X c,L,by show l.length ≤ 99999; omega⟩
   ·rw [if_neg c] at h
    have e1:(S (s.skip T)).2.err = 0:=back (fun q=>q.blockN _ _) h
    obtain ⟨g1,g2,g3,g4⟩:=F.lt X f1.ok (skip_e r.e) (by omega) e1
    have r1:=r.skip X (by omega)
    have q1:=r1.dp
    rw [if_neg c,if_neg (by rw [r1.at X _ (by decide)]; exact c)]
    rcases F.sim _ _ r1 (by omega) (by omega) e1 with ⟨dd,b⟩ | ⟨rx,lx⟩
    ·exact .inl ⟨dd,fore (fun q=>q.blockN _ _) b⟩
    ·have q3:=rx.dp
     exact blockN_sim X F K K' rx (L.app (.one lx)) (by rw [List.length_append]; show l.length + 1 ≤ _; omega) (by omega) (by omega) (by omega) (by omega) h
theorem blockM_sim (X:Two T T' N k d n) (F:SF T N k d m m' S S') (r:Rel T N k d s s') (hm:s.deep + m = 51) (hm':s'.deep + m' = 51) (h:(blockM T S s).2.err = 0):Both2 T N k d (blockM T S s) (blockM T' S' s'):=by
 unfold blockM at h ⊢
 dsimp only at h ⊢
 have e1:(s.expect T [123]).err = 0:=back (fun q=>q.blockN _ _) h
 have r1:=(r.expect X _ e1).2
 have f1:=expect_fwd X.W r.ok [123]
 have d1:=f1.deep; have q1:=r1.dp; have q2:=r.dp
 have len:=X.len; have len':=X.len'
 rcases blockN_sim X F (T.length + 1) (T'.length + 1) r1 .nil (Nat.zero_le _) (by omega) (by omega) (by omega) (by omega) h with ⟨dd,b⟩ | ⟨r2,L,ll⟩
 ·exact .inl ⟨dd,b⟩
 ·exact .inr ⟨r2,like_node _ L (by omega)⟩
theorem forIn_rel (Y:Stm T T' N k d n) (r:Rel T N k d s s'):forIn T' s' ↔ forIn T s:=by
 have X:=Y.X
 have len:=X.len; have len':=X.len'
 have le:=r.le X
 have i0:=r.i
 have e:=r.e; have e':=r.e'
 have st:=Y.stop
 have la:=Y.last
 have ah:∀ j,s.i + j ≤ n → s.ahead T j = T.getD (s.i + j) tkz:=fun j h=>by unfold PS.ahead; rw [if_neg (by omega)]
 have ah':∀ j,s.i + j ≤ n → s'.ahead T' j = T'.getD (s.i + j + k) tkz:=fun j h=>by unfold PS.ahead; rw [if_neg (by omega),i0,show s.i + k + j = s.i + j + k from by omega]
 have tk:∀ j,s.i + j < n → (s'.ahead T' j).k = (s.ahead T j).k ∧ (s'.ahead T' j).t = (s.ahead T j).t:=fun j h=>by rw [ah j (by omega),ah' j (by omega)]; exact ⟨X.tk _ h,X.tt _ h⟩
 have c1:s.cur T = T.getD s.i tkz:=cur_o e
 have c1':s'.cur T' = T'.getD (s.i + k) tkz:=by rw [cur_o e',i0]
 unfold forIn
 by_cases h0:s.i = n
 ·rw [c1,c1',h0,la]
  constructor
  ·intro q; rcases st with z | z <;> rw [z] at q <;> exact absurd q.1 (by decide)
  ·intro q; exact absurd q.1 (by decide)
 rw [c1,c1',X.tk _ (by omega)]
 by_cases h1:s.i + 1 = n
 ·rw [ah 1 (by omega),ah' 1 (by omega),h1,la]
  constructor
  ·intro q; rcases st with z | z <;> rw [z] at q <;> exact absurd q.2.1 (by decide)
  ·intro q; exact absurd q.2.1 (by decide)
 rw [(tk 1 (by omega)).1,(tk 1 (by omega)).2]
 by_cases h2:s.i + 2 = n
 ·rw [ah 2 (by omega),ah' 2 (by omega),h2,la]
  constructor
  ·intro q; rcases st with z | z <;> rw [z] at q <;> exact absurd q.2.2.2.1 (by decide)
  ·intro q; exact absurd q.2.2.2.1 (by decide)
 rw [(tk 2 (by omega)).1]
 by_cases h3:s.i + 3 = n
 ·rw [ah 3 (by omega),ah' 3 (by omega),h3,la]
  constructor
  ·intro q; rcases st with z | z <;> rw [z] at q <;> exact absurd q.2.2.2.2.1 (by decide)
  ·intro q; exact absurd q.2.2.2.2.1 (by decide)
 rw [(tk 3 (by omega)).1,(tk 3 (by omega)).2]
theorem forIn_lt (Y:Stm T T' N k d n) (r:Rel T N k d s s') (h:forIn T s):s.i + 3 < n:=by
 have X:=Y.X
 have len:=X.len
 have le:=r.le X
 have la:=Y.last
 have ah:∀ j,s.i + j ≤ n → s.ahead T j = T.getD (s.i + j) tkz:=fun j h=>by unfold PS.ahead; rw [if_neg (by have:=r.e; omega)]
 have ahz:∀ j,n < s.i + j → s.ahead T j = tkz:=fun j h=>by unfold PS.ahead; rw [if_pos (.inr (by omega))]
 refine Classical.byContradiction fun c=>?_
 have k3:=h.2.2.2.2.1
 by_cases h3:s.i + 3 = n
 ·rw [ah 3 (by omega),h3,la] at k3; cases k3
 ·rw [ahz 3 (by omega)] at k3; cases k3
theorem forA_sim (X:Two T T' N k d n) (F:SF T N k d m m' M M') (x:Txt) (r:Rel T N k d s s') (lt:[41] = x → s.i < n) (hm:s.deep + m = 51) (hm':s'.deep + m' = 51) (h:(forA T M x s).2.err = 0):Both2 T N k d (forA T M x s) (forA T' M' x s'):=by
 have ha:s'.isAt T' [x] = s.isAt T [x]:=by
  by_cases c:[41] = x
  ·exact r.atL X (lt c) _
  ·exact r.at X _ (by simpa using c)
 unfold forA at h ⊢
 rw [ha]
 by_cases c:s.isAt T [x] = true
 ·rw [if_pos c,if_pos c]; exact .inr ⟨r,.mk (by simp) .nil⟩
 ·rw [if_neg c] at h; rw [if_neg c,if_neg c]; exact F.sim _ _ r hm hm' h
theorem Kp.forA {s0:PS} (q:Kp s0 s) (hF:KF M) (x:Txt):Kp s0 (forA T M x s).2:=by
 unfold Go.Proofs.YtkfbldogmgofoaaGreatDoor.forA; exact Kp.ite q (hF _ _ q)
theorem forA_lt (X:Two T T' N k d n) (F:SF T N k d m m' M M') (x:Txt) (ok:SOk T N s) (e0:s.err = 0) (hm:s.deep + m = 51) (h:(forA T M x s).2.err = 0):s.i < n ∧ SOk T N (forA T M x s).2 ∧ (forA T M x s).2.deep = s.deep:=by
 unfold forA at h ⊢
 by_cases c:s.isAt T [x] = true
 ·rw [if_pos c]; exact ⟨lt_of_at X ok c,ok,rfl⟩
 ·rw [if_neg c] at h ⊢
  obtain ⟨g1,g2,g3,g4⟩:=F.lt X ok e0 hm h
  exact ⟨by omega,g4,g3⟩
def prt (T:List Tokn) (M:PF) (s:PS):Tree × PS:=((forA T M [59] s).1,((forA T M [59] s).2.expect T [59]).lines T)
theorem Kp.prt {s0:PS} (q:Kp s0 s) (hF:KF M):Kp s0 (prt T M s).2:=((q.forA hF _).expect _).lines
theorem prt_sim (X:Two T T' N k d n) (F:SF T N k d m m' M M') (r:Rel T N k d s s') (hm:s.deep + m = 51) (hm':s'.deep + m' = 51) (h:(prt T M s).2.err = 0) (hn:(prt T M s).2.i ≠ n):Both2 T N k d (prt T M s) (prt T' M' s'):=by
 have e2:((forA T M [59] s).2.expect T [59]).err = 0:=back (fun q=>q.lines) h
 have e1:(forA T M [59] s).2.err = 0:=back (fun q=>q.expect _) e2
 rcases forA_sim X F [59] r (fun e=>absurd e (by decide)) hm hm' e1 with ⟨dd,b⟩ | ⟨r1,l1⟩
 ·exact .inl ⟨dd,fore (fun q=>(q.expect _).lines) b⟩
 ·exact .inr ⟨((r1.expect X _ e2).2).lines X hn,l1⟩
theorem prt_go (X:Two T T' N k d n) (F:SF T N k d m m' M M') (ok:SOk T N s) (e0:s.err = 0) (hm:s.deep + m = 51) (h:(prt T M s).2.err = 0):s.i < n ∧ SOk T N (prt T M s).2 ∧ (prt T M s).2.deep = s.deep:=by
 have e2:((forA T M [59] s).2.expect T [59]).err = 0:=back (fun q=>q.lines) h
 have e1:(forA T M [59] s).2.err = 0:=back (fun q=>q.expect _) e2
 obtain ⟨g1,g2,g3⟩:=forA_lt X F [59] ok e0 hm e1
 have f:=expect_fwd X.W g2 [59]
 have f2:=f.trans (lines_fwd X.W f.ok)
 exact ⟨g1,f2.ok,f2.deep.trans g3⟩
def forT (T:List Tokn) (E I B:PF) (s:PS):Tree × PS :=
 (nodeM [102,111,114] [(prt T I s).1,(prt T E (prt T I s).2).1,(forA T I [41] (prt T E (prt T I s).2).2).1,(B ((forA T I [41] (prt T E (prt T I s).2).2).2.expect T [41])).1],(B ((forA T I [41] (prt T E (prt T I s).2).2).2.expect T [41])).2)
theorem forT_sim (X:Two T T' N k d n) (FE:SF T N k d m m' E E') (FI:SF T N k d m m' P P') (FB:SF T N k d m m' R R') (r:Rel T N k d s s') (hm:s.deep + m = 51) (hm':s'.deep + m' = 51) (h:(forT T E P R s).2.err = 0):Both2 T N k d (forT T E P R s) (forT T' E' P' R' s'):=by
 unfold forT at h ⊢
 dsimp only at h ⊢
 have q2:=r.dp
 have e4:((forA T P [41] (prt T E (prt T P s).2).2).2.expect T [41]).err = 0:=back (fun q=>FB.kf _ _ q) h
 have e3:(forA T P [41] (prt T E (prt T P s).2).2).2.err = 0:=back (fun q=>q.expect _) e4
 have e2:(prt T E (prt T P s).2).2.err = 0:=back (fun q=>q.forA FI.kf _) e3
 have e1:(prt T P s).2.err = 0:=back (fun q=>q.prt FE.kf) e2
 obtain ⟨_,oa,da⟩:=prt_go X FI r.ok r.e hm e1
 obtain ⟨la,ob,db⟩:=prt_go X FE oa e1 (by omega) e2
 obtain ⟨lb,oc,dc⟩:=forA_lt X FI [41] ob e2 (by omega) e3
 rcases prt_sim X FI r hm hm' e1 (by omega) with ⟨dd,b⟩ | ⟨ra,la'⟩
 ·exact .inl ⟨dd,fore (fun q=>FB.kf' _ _ (((q.prt FE.kf').forA FI.kf' _).expect _)) b⟩
 generalize prt T P s = a at h e1 e2 e3 e4 oa da la ob db lb oc dc ra la'
 generalize prt T' P' s' = a' at ra la'
 have qa:=ra.dp
 rcases prt_sim X FE ra (by omega) (by omega) e2 (by omega) with ⟨dd,b⟩ | ⟨rb,lb'⟩
 ·exact .inl ⟨dd,fore (fun q=>FB.kf' _ _ ((q.forA FI.kf' _).expect _)) b⟩
 generalize prt T E a.2 = b at h e2 e3 e4 ob db lb oc dc rb lb'
 generalize prt T' E' a'.2 = b' at rb lb'
 have qb:=rb.dp
 rcases forA_sim X FI [41] rb (fun _=>lb) (by omega) (by omega) e3 with ⟨dd,z⟩ | ⟨rc,lc⟩
 ·exact .inl ⟨dd,fore (fun q=>FB.kf' _ _ (q.expect _)) z⟩
 generalize forA T P [41] b.2 = c at h e3 e4 oc dc rc lc
 generalize forA T' P' [41] b'.2 = c' at rc lc
 have rd:=(rc.expect X _ e4).2
 have fd:=expect_fwd X.W oc [41]
 have dd':=fd.deep; have qd:=rd.dp
 rcases FB.sim _ _ rd (by omega) (by omega) h with ⟨dd,z⟩ | ⟨re,le⟩
 ·exact .inl ⟨dd,z⟩
 ·exact .inr ⟨re,.mk (by simp) (.cons la' (.cons lb' (.cons lc (.one le))))⟩
theorem loopM_s (s:PS):loopM T E U S s = if forIn T (s.expect T [40]) then
   (leafM [102,111,114,105,110] (PS.name T (s.expect T [40]) [5]).1 [leafM [110,97,109,101] (PS.name T ((PS.name T (s.expect T [40]) [5]).2.step T) [5]).1 [],(bodyM T S ((PS.name T ((PS.name T (s.expect T [40]) [5]).2.step T) [5]).2.step T)).1],
    (bodyM T S ((PS.name T ((PS.name T (s.expect T [40]) [5]).2.step T) [5]).2.step T)).2)
  else forT T E (simpleM T E U) (bodyM T S) (s.expect T [40]):=by rw [loopM_eq]; rfl
theorem loopM_sim (Y:Stm T T' N k d n) (FE:SF T N k d m m' E E') (FI:SF T N k d m m' (simpleM T E U) (simpleM T' E' U')) (FS:SF T N k d m m' S S') (r:Rel T N k d s s') (hm:s.deep + m = 51) (hm':s'.deep + m' = 51) (h:(loopM T E U S s).2.err = 0) :
  Both2 T N k d (loopM T E U S s) (loopM T' E' U' S' s'):=by
 have X:=Y.X
 have FB:=body_sf X FS
 have len:=X.len
 have q2:=r.dp
 have e0:(s.expect T [40]).err = 0:=Classical.byContradiction fun e0=>by
  have q:=Kp.refl e0
  rw [loopM_s] at h
  split at h
  ·exact (FB.kf _ _ ((q.name _).step.name _).step).n h
  ·exact (FB.kf _ _ ((((q.prt FI.kf).prt FE.kf).forA FI.kf _).expect _)).n h
 have r1:=(r.expect X _ e0).2
 have f1:=expect_fwd X.W r.ok [40]
 have d1:=f1.deep
 rw [loopM_s] at h ⊢
 rw [loopM_s]
 generalize s.expect T [40] = s1 at h f1 d1 e0 r1
 generalize s'.expect T' [40] = s1' at r1
 have q1:=r1.dp
 by_cases c:forIn T s1
 ·rw [if_pos c] at h
  rw [if_pos c,if_pos ((forIn_rel Y r1).2 c)]
  have lt:=forIn_lt Y r1 c
  have en:(s1.name T [5]).2 = s1.step T:=by unfold PS.name; rw [if_pos (by rw [c.1]; decide)]
  have i1:(s1.step T).i = s1.i + 1:=by unfold PS.step; rw [if_pos ⟨r1.e,by omega⟩]
  have ea:(s1.name T [5]).2.err = 0:=by rw [en]; exact (r1.step X (by omega)).e
  obtain ⟨_,et,ra⟩:=r1.name X [5] (by decide) ea
  have fa:=name_fwd X.W r1.ok [5]
  have ia:(s1.name T [5]).2.i = s1.i + 1:=by rw [en,i1]
  have rb:=ra.step X (by omega)
  have fb:=fa.trans (step_fwd X.W fa.ok)
  have ib:=(step_i (T:=T) (s1.name T [5]).2).2.2
  have ec:(((s1.name T [5]).2.step T).name T [5]).2.err = 0:=back (fun q=>FB.kf _ _ q.step) h
  obtain ⟨_,et2,rc⟩:=rb.name X [5] (by decide) ec
  have fc:=fb.trans (name_fwd X.W fb.ok [5])
  have ic:(((s1.name T [5]).2.step T).name T [5]).2.i ≤ ((s1.name T [5]).2.step T).i + 1:=by
   have:∀ z:PS,(z.name T [5]).2.err = 0 → SOk T N z → (z.name T [5]).2.i ≤ z.i + 1:=fun z hz oz=>by
    unfold PS.name at hz ⊢
    by_cases cz:(z.cur T).k ∈ [5]
    ·rw [if_pos cz]; exact (step_i (T:=T) z).2.2
    ·rw [if_neg cz] at hz; exact absurd hz (fail_adv X.W oz)
   exact this _ ec fb.ok
  have rd:=rc.step X (by omega)
  have fd:=fc.trans (step_fwd X.W fc.ok)
  have dd:=fd.deep; have qd:=rd.dp
  rcases FB.sim _ _ rd (by omega) (by omega) h with ⟨z,b⟩ | ⟨re,le⟩
  ·exact .inl ⟨z,b⟩
  ·exact .inr ⟨re,like_leaf _ et (.cons (like_leaf0 _ et2) (.one le)) (by simp)⟩
 ·rw [if_neg c] at h
  rw [if_neg c,if_neg (fun z=>c ((forIn_rel Y r1).1 z))]
  exact forT_sim X FE FI FB r1 (by omega) (by omega) h
end Go.Proofs.YtkfbldogmgofoaaGreatDoor
namespace Go.Proofs.YtkfbldogmgofoaaGreatDoor
open Mir
variable {T T':List Tokn} {N k d n m m':Nat} {s s':PS} {M M' E E' P P' R R' U U' S S':PF}
theorem simple_sf (Y:Stm T T' N k d n) (FE:SF T N k d m m' E E') (FC:SF T N k d m m' (catEM T U) (catEM T' U')) (B:BF T N m E):SF T N k d m m' (simpleM T E U) (simpleM T' E' U') :=
 ⟨fun s ok hl=>(simpleM_fwd Y.X.W FE.fwd FE.adv FC.fwd ok hl).1,fun s ok hl=>(simpleM_fwd Y.X.W FE.fwd FE.adv FC.fwd ok hl).2,fun s0 s q=>q.simpleM FE.kf,fun s0 s q=>q.simpleM FE.kf',fun s s' r hm hm' h=>simpleM_sim Y FE FC B r hm hm' h⟩
theorem stStep_sim (Y:Stm T T' N k d n) (FE:SF T N k d m m' E E') (FI:SF T N k d m m' (simpleM T E U) (simpleM T' E' U')) (FS:SF T N k d m m' S S') (r:Rel T N k d s s') (hm:s.deep + m = 51) (hm':s'.deep + m' = 51) (h:(stStep T E U S s).2.err = 0) :
  Both2 T N k d (stStep T E U S s) (stStep T' E' U' S' s'):=by
 have X:=Y.X
 have f1:=step_fwd X.W r.ok
 have d1:=f1.deep; have q2:=r.dp
 unfold stStep at h ⊢
 rw [r.at X _ (by decide),r.at X _ (by decide),r.at X _ (by decide),r.at X _ (by decide),r.at X _ (by decide)]
 by_cases c1:s.isAt T [[123]] = true
 ·rw [if_pos c1] at h; rw [if_pos c1,if_pos c1]; exact blockM_sim X FS r hm hm' h
 rw [if_neg c1] at h; rw [if_neg c1,if_neg c1]
 by_cases c2:s.isAt T [[59]] = true
 ·rw [if_pos c2,if_pos c2]; exact .inr ⟨r.stepA X c2,.mk (by simp) .nil⟩
 rw [if_neg c2] at h; rw [if_neg c2,if_neg c2]
 by_cases c3:s.isAt T [[105,102]] = true
 ·have r1:=r.stepA X c3
  have q1:=r1.dp
  rw [if_pos c3] at h; rw [if_pos c3,if_pos c3]; exact choiceM_sim Y FE FS r1 (by omega) (by omega) h
 rw [if_neg c3] at h; rw [if_neg c3,if_neg c3]
 by_cases c4:s.isAt T [[119,104,105,108,101]] = true
 ·have FB:=body_sf X FS
  have r1:=r.stepA X c4
  rw [if_pos c4] at h; rw [if_pos c4,if_pos c4]
  dsimp only at h ⊢
  have e2:(insideM T E [41] ((s.step T).expect T [40])).2.err = 0:=back (fun q=>FB.kf _ _ q) h
  have e1:((s.step T).expect T [40]).err = 0:=back (fun q=>q.insideM FE.kf _) e2
  have r2:=(r1.expect X _ e1).2
  have f2:=f1.trans (expect_fwd X.W f1.ok [40])
  have d2:=f2.deep; have q1:=r2.dp
  have f3:=insideM_fwd X.W FE.fwd [41] f2.ok (lv f2.ok e1 (by omega))
  rcases insideM_sim X FE [41] r2 (by omega) (by omega) e2 with ⟨dd,b⟩ | ⟨r3,l3⟩
  ·exact .inl ⟨dd,fore (fun q=>FB.kf' _ _ q) b⟩
  have d3:=f3.deep; have q3:=r3.dp
  rcases FB.sim _ _ r3 (by omega) (by omega) h with ⟨dd,b⟩ | ⟨r4,l4⟩
  ·exact .inl ⟨dd,b⟩
  ·exact .inr ⟨r4,like2 _ l3 l4⟩
 rw [if_neg c4] at h; rw [if_neg c4,if_neg c4]
 by_cases c5:s.isAt T [[102,111,114]] = true
 ·have r1:=r.stepA X c5
  have q1:=r1.dp
  rw [if_pos c5] at h; rw [if_pos c5,if_pos c5]; exact loopM_sim Y FE FI FS r1 (by omega) (by omega) h
 rw [if_neg c5] at h; rw [if_neg c5,if_neg c5]
 dsimp only at h ⊢
 have e1:(simpleM T E U s).2.err = 0:=back (fun q=>q.fin) h
 rcases FI.sim _ _ r hm hm' e1 with ⟨dd,b⟩ | ⟨r1,l1⟩
 ·exact .inl ⟨dd,fore (fun q=>q.fin) b⟩
 ·exact .inr ⟨r1.fin Y h,l1⟩
theorem Kp.stStep {s0:PS} (q:Kp s0 s) (hE:KF E):Kp s0 (stStep T E U S s).2:=by
 unfold Go.Proofs.YtkfbldogmgofoaaGreatDoor.stStep
 simp only [q.at,if_false,Bool.false_eq_true]
 exact (q.simpleM hE).fin
theorem st_levels (Y:Stm T T' N k d n):∀ m',m' + d < 500 → SF T N k d (m' + d) m' (stL T (m' + d)) (stL T' m')
 | 0,hb=>by
   have G:=stmts Y.X.W (0 + d) 100 (by omega)
   exact ⟨G.fwd,G.adv,k_stL T _,k_stL T' _,fun s s' r _ h _=>by have:=r.low; omega⟩
 | m' + 1,hb=>by
   have X:=Y.X
   have FS:=st_levels Y m' (by omega)
   have L:=levels X m' (by omega)
   have B:=(bals X.W Y.V (m' + d) (by omega)).expr
   have G:=good X.W (m' + d) 100 (by omega)
   have GS:=stmts X.W (m' + d) 100 (by omega)
   have FI:=simple_sf Y L.expr (or_sf X L.unary).1 B
   rw [show m' + 1 + d = (m' + d) + 1 from by omega]
   have C:=stmts X.W (m' + d + 1) 100 (by omega)
   refine ⟨C.fwd,C.adv,k_stL T _,k_stL T' _,fun s s' r hm hm' h=>?_⟩
   rw [stL_succ,stmtM_eq] at h ⊢
   rw [stL_succ,stmtM_eq]
   replace h:=up_err h
   have e1:(s.down T).err = 0:=back (fun q=>q.stStep L.expr.kf) h
   obtain ⟨o1,i1,d1,_,_⟩:=down_ok X.W r.ok
   rcases r.down X e1 with ⟨dd,b⟩ | r1
   ·exact .inl ⟨dd,fore (fun q=>(q.stStep L.expr.kf').up) b⟩
   have q1:=r1.dp; have q2:=r.dp
   have f:=(stStep_fwd X.W G.expr (cat_of X.W G.unary) (fun _=>GS) o1 (lv o1 e1 (by omega))).1
   have d2:=f.deep
   rcases stStep_sim Y L.expr FI FS r1 (by omega) (by omega) h with ⟨dd,b⟩ | ⟨r2,l2⟩
   ·exact .inl ⟨dd,b⟩
   ·exact .inr ⟨r2.up (by omega),l2⟩
theorem parN_s (K:Nat) (l:List Tree) (s:PS):parN T (K + 1) l s = if s.err = 0 ∧ s.isAt T [[41]] = false then
   parN T K (l ++ [leafM [112,97,114,97,109] (PS.name T (if l = [] then s else (s.expect T [44]).lines T) [5]).1 []]) ((PS.name T (if l = [] then s else (s.expect T [44]).lines T) [5]).2.lines T)
  else (l,s):=by rw [parN]
theorem parN_lt (X:Two T T' N k d n) {K:Nat} {l:List Tree} (ok:SOk T N s) (e0:s.err = 0) (hK:0 < K) (he:(parN T K l s).2.isAt T [[41]] = true):s.i < n:=by
 obtain ⟨K,rfl⟩:∃ j,K = j + 1:=⟨K - 1,by omega⟩
 have l1:=ok.lt
 have l2:=X.len
 refine Classical.byContradiction fun c=>?_
 have c:s.i = n:=by omega
 rw [parN_s,if_pos ⟨e0,at_n X c e0 _⟩] at he
 have z:∀ y:PS,(y.name T [5]).2.err ≠ 0 → (parN T K (l ++ [leafM [112,97,114,97,109] (y.name T [5]).1 []]) ((y.name T [5]).2.lines T)).2.isAt T [[41]] = false:=fun y hy=>((Kp.refl hy).lines.parN K _).at _
 by_cases el:l = []
 ·rw [if_pos el] at he
  have:(s.name T [5]).2.err ≠ 0:=fun q=>by
   have k0:(s.cur T).k = 0:=by
    have:=X.W.last
    rw [X.len] at this
    rw [cur_o e0,c]; exact this
   unfold PS.name at q
   rw [k0,if_neg (by decide)] at q
   exact fail_adv X.W ok q
  rw [z s this] at he; cases he
 ·rw [if_neg el] at he
  have:(s.expect T [44]).err ≠ 0:=fun q=>by have:=lt_of_at X ok (at_of_expect X ok q); omega
  rw [z _ ((Kp.refl this).lines.name _).n] at he; cases he
theorem parN_sim (X:Two T T' N k d n):∀ (K K':Nat) {l l':List Tree} {s s':PS},Rel T N k d s s' → LikeTs l l' → l.length ≤ s.i → n < s.i + K → n < s.i + K' →
  (parN T K l s).2.isAt T [[41]] = true → Rel T N k d (parN T K l s).2 (parN T' K' l' s').2 ∧ LikeTs (parN T K l s).1 (parN T' K' l' s').1 ∧ (parN T K l s).1.length ≤ 99999
 | 0,K',l,l',s,s',r,_,_,h,_,_=>by have:=r.le X; omega
 | K + 1,0,l,l',s,s',r,_,_,_,h,_=>by have:=r.le X; omega
 | K + 1,K' + 1,l,l',s,s',r,L,ll,hK,hK',he=>by
   have lt:=parN_lt X r.ok r.e (Nat.succ_pos _) he
   have len:=X.len
   have big:=X.big
   rw [parN_s] at he
   rw [parN_s K l s,parN_s K' l' s',r.atL X lt]
   by_cases ea:s.isAt T [[41]] = false
   ·rw [if_pos ⟨r.e,ea⟩] at he
    rw [if_pos (c:=s.err = 0 ∧ s.isAt T [[41]] = false) ⟨r.e,ea⟩,if_pos (c:=s'.err = 0 ∧ s.isAt T [[41]] = false) ⟨r.e',ea⟩]
    obtain ⟨y,hy⟩:∃ y,y = (if l = [] then s else (s.expect T [44]).lines T):=⟨_,rfl⟩
    obtain ⟨y',hy'⟩:∃ y',y' = (if l' = [] then s' else (s'.expect T' [44]).lines T'):=⟨_,rfl⟩
    rw [← hy] at he
    rw [← hy,← hy']
    have e1:(y.name T [5]).2.err = 0:=Classical.byContradiction fun c=>by
     rw [((Kp.refl c).lines.parN K _).at] at he; cases he
    have ey:y.err = 0:=back (fun q=>q.name _) e1
    have yl:∀ {z:PS},SOk T N z → z.err = 0 → (z.name T [5]).2.err = 0 → z.i < n:=fun {z} oz ez hz=>by
     unfold PS.name at hz
     by_cases cz:(z.cur T).k ∈ [5]
     ·have:=not_last X.W (s:=z) (by rw [List.mem_singleton.1 cz]; decide) oz
      omega
     ·rw [if_neg cz] at hz; exact absurd hz (fail_adv X.W oz)
    have ry:Rel T N k d y y' ∧ s.i ≤ y.i:=by
     by_cases el:l = []
     ·rw [if_pos el] at hy; rw [if_pos (L.nilIff.2 el)] at hy'
      rw [hy,hy']; exact ⟨r,Nat.le_refl _⟩
     ·rw [if_neg el] at hy; rw [if_neg (fun q=>el (L.nilIff.1 q))] at hy'
      have f1:=expect_fwd X.W r.ok [44]
      have f2:=f1.trans (lines_fwd X.W f1.ok)
      have ee:(s.expect T [44]).err = 0:=back (fun q=>q.lines) (by rw [← hy]; exact ey)
      obtain ⟨_,r1⟩:=r.expect X _ ee
      have:=yl (z:=y) (by rw [hy]; exact f2.ok) ey e1
      have r2:=r1.lines X (by rw [← hy]; omega)
      rw [hy,hy']
      exact ⟨r2,f2.le⟩
    obtain ⟨ry,yi⟩:=ry
    obtain ⟨_,et,rx⟩:=ry.name X [5] (by decide) e1
    have ny:(y.name T [5]).2.i = y.i + 1:=by
     have cz:(y.cur T).k ∈ [5]:=Classical.byContradiction fun cz=>by
      unfold PS.name at e1; rw [if_neg cz] at e1; exact absurd e1 (fail_adv X.W ry.ok)
     unfold PS.name; rw [if_pos cz]
     have:=not_last X.W (s:=y) (by rw [List.mem_singleton.1 cz]; decide) ry.ok
     unfold PS.step; rw [if_pos ⟨ey,this⟩]
    have f3:=lines_fwd X.W rx.ok
    have le3:=f3.le
    have ez:=rx.linesE X
    have lz:((y.name T [5]).2.lines T).i < n:=by
     refine parN_lt X f3.ok ez (K:=K) ?_ he
     have:=f3.ok.lt
     omega
    have rz:=rx.lines X (by omega)
    exact parN_sim X K K' rz (L.app (.one (like_leaf0 _ et))) (by rw [List.length_append]; show l.length + 1 ≤ _; omega) (by omega) (by omega) he
   ·rw [if_neg (fun q=>ea q.2),if_neg (fun q=>ea q.2)]
    exact ⟨r,L,by show l.length ≤ 99999; have:=r.le X; omega⟩
theorem Both2.z {x x':Tree × PS} (h:Both2 T N k 0 x x'):Rel T N k 0 x.2 x'.2 ∧ LikeT x.1 x'.1:=h.elim (fun q=>absurd q.1 (Nat.lt_irrefl _)) id
theorem itemG_sim (Y:Stm T T' N k 0 n) {B B':PF} (FB:SF T N k 0 m m' S S') (FE:SF T N k 0 m m' E E') (r:Rel T N k 0 s s') (hm:s.deep + m = 51) (hm':s'.deep + m' = 51) (h:(itemG T (blockM T S) E s).2.err = 0) :
  Rel T N k 0 (itemG T (blockM T S) E s).2 (itemG T' (blockM T' S') E' s').2 ∧ LikeT (itemG T (blockM T S) E s).1 (itemG T' (blockM T' S') E' s').1:=by
 have X:=Y.X
 have f1:=step_fwd X.W r.ok
 have d1:=f1.deep; have q2:=r.dp
 have kb:∀ {s0 s:PS},Kp s0 s → Kp s0 (blockM T S s).2:=fun q=>q.blockM
 unfold itemG at h ⊢
 rw [r.at X _ (by decide),r.at X _ (by decide),r.at X _ (by decide),r.at X _ (by decide)]
 by_cases c1:s.isAt T [[66,69,71,73,78]] = true
 ·rw [if_pos c1] at h; rw [if_pos c1,if_pos c1]
  have r1:=r.stepA X c1
  have q1:=r1.dp
  obtain ⟨r2,l2⟩:=(blockM_sim X FB r1 (by omega) (by omega) h).z
  exact ⟨r2,like1 _ l2⟩
 rw [if_neg c1] at h; rw [if_neg c1,if_neg c1]
 by_cases c2:s.isAt T [[69,78,68]] = true
 ·rw [if_pos c2] at h; rw [if_pos c2,if_pos c2]
  have r1:=r.stepA X c2
  have q1:=r1.dp
  obtain ⟨r2,l2⟩:=(blockM_sim X FB r1 (by omega) (by omega) h).z
  exact ⟨r2,like1 _ l2⟩
 rw [if_neg c2] at h; rw [if_neg c2,if_neg c2]
 by_cases c3:s.isAt T [[102,117,110,99,116,105,111,110]] = true
 ·rw [if_pos c3] at h; rw [if_pos c3,if_pos c3]
  dsimp only at h ⊢
  have r1:=r.stepA X c3
  have len:=X.len; have len':=X.len'
  have e5:((parN T (T.length + 1) [] ((((s.step T).name T [5,6]).2.expect T [40]).lines T)).2.expect T [41]).err = 0:=back (fun q=>q.lines.blockM) h
  have e4:(parN T (T.length + 1) [] ((((s.step T).name T [5,6]).2.expect T [40]).lines T)).2.err = 0:=back (fun q=>q.expect _) e5
  have e3:(((s.step T).name T [5,6]).2.expect T [40]).err = 0:=back (fun q=>q.lines.parN _ _) e4
  have e2:((s.step T).name T [5,6]).2.err = 0:=back (fun q=>q.expect _) e3
  obtain ⟨_,et,r2⟩:=r1.name X [5,6] (by decide) e2
  have f2:=f1.trans (name_fwd X.W f1.ok [5,6])
  have r3:=(r2.expect X _ e3).2
  have f3:=f2.trans (expect_fwd X.W f2.ok [40])
  have f4:=f3.trans (lines_fwd X.W f3.ok)
  have ep:=parN_fwd X.W (T.length + 1) (l:=[]) f4.ok
  have at5:=at_of_expect X ep.ok e5
  have lt4:=parN_lt X f4.ok (r3.linesE X) (Nat.succ_pos _) at5
  have r4:=r3.lines X (by omega)
  obtain ⟨r5,L,ll⟩:=parN_sim X (T.length + 1) (T'.length + 1) r4 .nil (Nat.zero_le _) (by omega) (by omega) at5
  have r6:=(r5.expect X _ e5).2
  have f6:=(f4.trans ep).trans (expect_fwd X.W ep.ok [41])
  have f7:=f6.trans (lines_fwd X.W f6.ok)
  have e8:((((parN T (T.length + 1) [] ((((s.step T).name T [5,6]).2.expect T [40]).lines T)).2.expect T [41]).lines T).expect T [123]).err = 0:=by
   unfold blockM at h
   exact back (fun q=>q.blockN _ _) h
  have lt7:=lt_of_at X f7.ok (at_of_expect X f7.ok e8)
  have r7:=r6.lines X (by omega)
  have d7:=f7.deep; have q7:=r7.dp
  obtain ⟨r9,l9⟩:=(blockM_sim X FB r7 (by omega) (by omega) h).z
  exact ⟨r9,like_leaf _ et (L.app (.one l9)) (by rw [List.length_append]; show _ + 1 ≤ _; omega)⟩
 rw [if_neg c3] at h; rw [if_neg c3,if_neg c3]
 by_cases c4:s.isAt T [[123]] = true
 ·rw [if_pos c4] at h; rw [if_pos c4,if_pos c4]
  obtain ⟨r2,l2⟩:=(blockM_sim X FB r hm hm' h).z
  exact ⟨r2,like2 _ (.mk (by simp) .nil) l2⟩
 rw [if_neg c4] at h; rw [if_neg c4,if_neg c4]
 dsimp only at h ⊢
 have e1:(E s).2.err = 0:=back (fun q=>by
  split
  ·exact q.blockM
  ·dsimp only
   split
   ·exact q.fail
   ·exact q) h
 obtain ⟨g1,g2,g3,g4⟩:=FE.lt X r.ok r.e hm e1
 obtain ⟨rx,lx⟩:=(FE.sim _ _ r hm hm' e1).z
 generalize E s = x at h e1 g1 g2 g3 g4 rx lx
 generalize E' s' = x' at rx lx
 have q3:=rx.dp
 rw [rx.at X _ (by decide)]
 by_cases c5:x.2.isAt T [[123]] = true
 ·rw [if_pos c5] at h; rw [if_pos c5,if_pos c5]
  obtain ⟨r2,l2⟩:=(blockM_sim X FB rx (by omega) (by omega) h).z
  exact ⟨r2,like2 _ lx l2⟩
 rw [if_neg c5] at h; rw [if_neg c5,if_neg c5]
 dsimp only at h ⊢
 have nf:¬ ((x.2.cur T).k ≠ 1 ∧ (x.2.cur T).k ≠ 0 ∧ x.2.isAt T [[59]] = false):=fun q=>by
  rw [if_pos q] at h; exact fail_adv X.W rx.ok h
 have nf':¬ ((x'.2.cur T').k ≠ 1 ∧ (x'.2.cur T').k ≠ 0 ∧ x'.2.isAt T' [[59]] = false):=by
  rw [rx.at X _ (by decide)]
  by_cases lt:x.2.i < n
  ·rw [rx.curk X lt]; exact nf
  ·have c:x.2.i = n:=by omega
   have:(x'.2.cur T').k = 0 ∨ (x'.2.cur T').k = 1:=by rw [cur_o rx.e',rx.i,c]; exact Y.stop
   intro q; rcases this with z | z
   ·exact q.2.1 z
   ·exact q.1 z
 rw [if_neg nf,if_neg nf']
 exact ⟨rx,like2 _ lx (.mk (by simp) .nil)⟩
theorem itemM_sim (Y:Stm T T' N k 0 n) (r:Rel T N k 0 s s') (hd:s.deep = 0) (h:(itemM T s).2.err = 0):Rel T N k 0 (itemM T s).2 (itemM T' s').2 ∧ LikeT (itemM T s).1 (itemM T' s').1:=by
 have q:=r.dp
 rw [itemM_eq] at h ⊢
 rw [itemM_eq]
 exact itemG_sim (m:=51) (m':=51) (B:=zeroF) (B':=zeroF) Y (st_levels Y 51 (by decide)) (levels Y.X 51 (by decide)).expr r (by omega) (by omega) h
end Go.Proofs.YtkfbldogmgofoaaGreatDoor
namespace Go.Proofs.YtkfbldogmgofoaaGreatDoor
open Mir
variable {T T':List Tokn} {N k n:Nat} {s s':PS}
theorem itemsN_s (K:Nat) (l:List Tree) (s:PS):itemsN T (K + 1) l s = if s.err = 0 then
   if ((s.skip T).cur T).k = 0 then (l,s.skip T) else itemsN T K (l ++ [(itemM T (s.skip T)).1]) (itemM T (s.skip T)).2
  else (l,s):=by rw [itemsN]
theorem itemsN_sim {N':Nat} (Y:Stm T T' N k 0 n) (W':TkOk T' N'):∀ (K K':Nat) {l l':List Tree} {s s':PS},Rel T N k 0 s s' → SOk T' N' s' → LikeTs l l' → l.length ≤ s.i → n < s.i + K → T'.length < s'.i + K' → s.deep = 0 → s.flat = false →
  (itemsN T K l s).2.err = 0 → ∃ K'' l'' q q'',Rel T N k 0 q q'' ∧ SOk T' N' q'' ∧ SOk T N q ∧ q.deep = 0 ∧ q.flat = false ∧ (itemsN T K l s).1.length ≤ 99999 ∧ LikeTs (itemsN T K l s).1 l'' ∧ l''.length ≤ q''.i ∧ (q.skip T).i = n ∧ T'.length < q''.i + K'' ∧ itemsN T' K' l' s' = itemsN T' K'' l'' q''
 | 0,K',l,l',s,s',r,_,_,_,h,_,_,_,_=>by have:=r.le Y.X; omega
 | K + 1,K',l,l',s,s',r,ok',L,ll,hK,hK',hd,hf,h=>by
   have X:=Y.X
   have len:=X.len; have len':=X.len'; have big:=X.big
   have i0:=r.i
   have le0:=r.le X
   have lenL:=L.len
   have f1:=skip_fwd X.W r.ok
   have le1:=f1.le; have d1:=f1.deep; have q2:=r.dp
   have lt1:=f1.ok.lt
   rw [itemsN_s,if_pos r.e] at h
   rw [itemsN_s K l s,if_pos r.e]
   by_cases c:((s.skip T).cur T).k = 0
   ·rw [if_pos c]
    refine ⟨K',l',s,s',r,ok',r.ok,hd,hf,by show l.length ≤ 99999; omega,L,by omega,?_,hK',rfl⟩
    refine Classical.byContradiction fun ne=>?_
    have:=Y.nz (s.skip T).i (by omega)
    rw [cur_o (skip_e r.e)] at c
    exact this c
   ·rw [if_neg c] at h
    rw [if_neg c]
    have ne:(s.skip T).i ≠ n:=fun e=>c (by
     have:=X.W.last
     rw [len] at this
     rw [cur_o (skip_e r.e),e]; exact this)
    have r1:=r.skip X ne
    have e1:(itemM T (s.skip T)).2.err = 0:=back (fun q=>q.itemsN _ _) h
    obtain ⟨K',rfl⟩:∃ j,K' = j + 1:=⟨K' - 1,by omega⟩
    have C:=items_fc X.W
    have lv1:lvl 51 60 (s.skip T):=⟨fun _=>by omega,by omega⟩
    have fw:=C.fwd _ f1.ok lv1
    have ad:=C.adv _ f1.ok lv1 (skip_e r.e)
    obtain ⟨rx,lx⟩:=itemM_sim Y r1 (by omega) e1
    have fl:(itemM T (s.skip T)).2.flat = false:=f_itemM _ (Fl.skip (f:=false) hf)
    have eq:itemsN T' (K' + 1) l' s' = itemsN T' K' (l' ++ [(itemM T' (s'.skip T')).1]) (itemM T' (s'.skip T')).2:=by
     rw [itemsN_s,if_pos r.e',if_neg (by rw [r1.curk X (by omega)]; exact c)]
    have dx:=fw.deep
    have ix:=rx.i
    have adv:(s.skip T).i < (itemM T (s.skip T)).2.i:=ad.elim id fun z=>absurd e1 z
    have f1':=skip_fwd W' ok'
    have dd:=f1'.deep
    have C':=items_fc W'
    have fw':=C'.fwd _ f1'.ok ⟨fun _=>by omega,by omega⟩
    rw [eq]
    exact itemsN_sim Y W' K K' rx fw'.ok (L.app (.one lx)) (by rw [List.length_append]; show l.length + 1 ≤ _; omega) (by omega) (by omega) (by omega) fl h
theorem skipN_fuel (W:TkOk T N):∀ (K K':Nat) {s:PS},SOk T N s → T.length ≤ s.i + K → T.length ≤ s.i + K' → skipN T K s = skipN T K' s
 | 0,K',s,ok,h,_=>by have:=ok.lt; omega
 | K + 1,0,s,ok,_,h=>by have:=ok.lt; omega
 | K + 1,K' + 1,s,ok,h,h'=>by
   rw [skipN_s,skipN_s]
   split
   ·rename_i c
    have e:s.err = 0:=c.elim (fun z=>at_err z) (fun z=>cur_err (T:=T) (by omega))
    have nl:=not_last W (by rcases c with z | z; (rcases at_k z with y | y <;> omega); omega) ok
    have st:(s.step T).i = s.i + 1:=by unfold PS.step; rw [if_pos ⟨e,nl⟩]
    exact skipN_fuel W K K' (step_fwd W ok).ok (by omega) (by omega)
   ·rfl
def Blank (T:List Tokn) (i j:Nat):Prop:=∀ x,i ≤ x → x < j → (T.getD x tkz).k = 1 ∨ ((T.getD x tkz).k = 8 ∨ (T.getD x tkz).k = 7) ∧ (T.getD x tkz).t = [59]
theorem skip_from (W:TkOk T N):∀ (g:Nat) {s:PS} {j:Nat},SOk T N s → s.err = 0 → s.i + g = j → j < T.length → Blank T s.i j → s.skip T = ({ s with i:=j }:PS).skip T
 | 0,s,j,ok,e,h,hj,b=>by
   have:j = s.i:=by omega
   subst this; rfl
 | g + 1,s,j,ok,e,h,hj,b=>by
   have c:s.isAt T [[59]] = true ∨ (s.cur T).k = 1:=by
    rcases b s.i (Nat.le_refl _) (by omega) with z | ⟨z,z'⟩
    ·exact .inr (by rw [cur_o e]; exact z)
    ·refine .inl ?_
     unfold PS.isAt
     rw [cur_o e,z']
     rcases z with z | z <;> rw [z] <;> rfl
   have st:s.step T = { s with i:=s.i + 1 }:=by unfold PS.step; rw [if_pos ⟨e,by omega⟩]
   have ok1:SOk T N { s with i:=s.i + 1 }:=by rw [← st]; exact (step_fwd W ok).ok
   have e1:s.skip T = ({ s with i:=s.i + 1 }:PS).skip T:=by
    unfold PS.skip
    obtain ⟨K,hK⟩:∃ K,T.length = K + 1:=⟨T.length - 1,by omega⟩
    conv=>lhs; rw [hK]
    rw [skipN_s,if_pos c,st]
    exact skipN_fuel W _ _ ok1 (by show T.length ≤ s.i + 1 + K; omega) (by show T.length ≤ s.i + 1 + T.length; omega)
   rw [e1]
   exact skip_from W g (s:={ s with i:=s.i + 1 }) ok1 e (by show s.i + 1 + g = j; omega) hj (fun x h1 h2=>b x (by show s.i ≤ x; have:s.i + 1 ≤ x:=h1; omega) h2)
theorem skip_blank (W:TkOk T N) (ok:SOk T N s) (e:s.err = 0):Blank T s.i (s.skip T).i ∧ s.i ≤ (s.skip T).i:=by
 have:∀ K (s:PS),SOk T N s → s.err = 0 → Blank T s.i (skipN T K s).i ∧ s.i ≤ (skipN T K s).i:=fun K=>by
  induction K with
  | zero=>exact fun s _ _=>⟨fun x a b=>by exact absurd b (by show ¬ x < s.i; omega),Nat.le_refl _⟩
  | succ K ih =>
    intro s ok e
    rw [skipN_s]
    split
    ·rename_i c
     have nl:=not_last W (by rcases c with z | z; (rcases at_k z with y | y <;> omega); omega) ok
     have st:s.step T = { s with i:=s.i + 1 }:=by unfold PS.step; rw [if_pos ⟨e,nl⟩]
     obtain ⟨h1,h2⟩:=ih (s.step T) (step_fwd W ok).ok (by rw [st]; exact e)
     have si:(s.step T).i = s.i + 1:=by rw [st]
     rw [si] at h1 h2
     refine ⟨fun x a b=>?_,by omega⟩
     by_cases cx:x = s.i
     ·rw [cx,← cur_o e]
      rcases c with z | z
      ·exact .inr ⟨at_k z,List.mem_singleton.1 (at_t z)⟩
      ·exact .inl z
     ·exact h1 x (by omega) b
    ·exact ⟨fun x a b=>absurd b (by omega),Nat.le_refl _⟩
 exact this _ _ ok e
theorem itemsN_skip (K:Nat) (l:List Tree) {q:PS} (e:s.err = 0) (e2:q.err = 0) (h:s.skip T = q.skip T):itemsN T (K + 1) l s = itemsN T (K + 1) l q:=by
 rw [itemsN_s,itemsN_s,if_pos e,if_pos e2,h]
end Go.Proofs.YtkfbldogmgofoaaGreatDoor
namespace Go.Proofs.YtkfbldogmgofoaaGreatDoor
open Mir
variable {T T':List Tokn} {N N' k n:Nat} {s s':PS}
theorem parse_inl {t:Tree} (h:parseM T = .inl t):(itemsN T (T.length + 1) [] ps0).2.err = 0 ∧ t = nodeM [112,114,111,103,114,97,109] (itemsN T (T.length + 1) [] ps0).1:=by
 unfold parseM at h
 dsimp only at h
 split at h
 ·cases h
 ·rename_i c
  cases h
  exact ⟨Classical.byContradiction c,rfl⟩
theorem parse_of {l:List Tree} {r:PS} (h:itemsN T (T.length + 1) [] ps0 = (l,r)) (e:r.err = 0):parseM T = .inl (nodeM [112,114,111,103,114,97,109] l):=by
 unfold parseM
 dsimp only
 rw [show itemsN T (T.length + 1) [] ⟨0,0,false,0,0⟩ = (l,r) from h,if_neg (by simpa using e)]
theorem skip_stay {q:PS} (h:(q.cur T).k ≠ 1) (h2:q.isAt T [[59]] = false):q.skip T = q:=by
 unfold PS.skip
 cases T.length with
 | zero=>rfl
 | succ K=>rw [skipN_s,if_neg (by rw [h2]; simpa using h)]
theorem ps0_ok (W:TkOk T N) (h:0 < T.length):SOk T N ps0:=⟨h,.inl rfl,Nat.zero_le _,fun _=>Nat.zero_le _⟩
theorem blank_sh (Y:Stm T T' N k 0 n) {q q':PS} (ok:SOk T N q) (r:Rel T N k 0 q q') (h:(q.skip T).i = n):Blank T' q'.i (n + k):=fun x h1 h2=>by
 obtain ⟨b,_⟩:=skip_blank Y.X.W ok r.e
 have i0:=r.i
 obtain ⟨j,rfl⟩:∃ j,x = j + k:=⟨x - k,by omega⟩
 have:=b j (by omega) (by rw [h]; omega)
 rw [Y.X.tk j (by omega),Y.X.tt j (by omega)]
 exact this
theorem items_end (Y:Stm T T' N k 0 n) (W':TkOk T' N') {q q':PS} (ok:SOk T N q) (ok':SOk T' N' q') (r:Rel T N k 0 q q') (h:(q.skip T).i = n) (he:(T'.getD (n + k) tkz).k = 0) {K:Nat} (hK:T'.length < q'.i + K) (l:List Tree) :
  ∃ z,itemsN T' K l q' = (l,z) ∧ z.err = 0:=by
 have X:=Y.X
 have len':=X.len'
 have le:=r.le X
 have i0:=r.i
 obtain ⟨K,rfl⟩:∃ x,K = x + 1:=⟨K - 1,by omega⟩
 have ck:(PS.cur T' { q' with i:=n + k }).k = 0:=by rw [cur_o (s:={ q' with i:=n + k }) r.e']; exact he
 have e:q'.skip T' = { q' with i:=n + k }:=by
  rw [skip_from W' (n + k - q'.i) (j:=n + k) ok' r.e' (by omega) (by omega) (blank_sh Y ok r h)]
  exact skip_stay (by rw [ck]; decide) (by unfold PS.isAt; rw [ck]; rfl)
 refine ⟨{ q' with i:=n + k },?_,r.e'⟩
 rw [itemsN_s,if_pos r.e',e,if_pos ck]
theorem getD_l {a e:List Tokn} {j:Nat} (h:j < a.length):(a ++ e).getD j tkz = a.getD j tkz:=by
 simp [List.getD_eq_getElem?_getD,List.getElem?_append_left h]
theorem getD_r {a e:List Tokn} {j:Nat}:(a ++ e).getD (a.length + j) tkz = e.getD j tkz:=by
 simp [List.getD_eq_getElem?_getD,List.getElem?_append_right]
theorem getD_out {a:List Tokn} {j:Nat} (h:a.length ≤ j):a.getD j tkz = tkz:=by
 simp [List.getD_eq_getElem?_getD,List.getElem?_eq_none h]
theorem getD_in {a:List Tokn} {j:Nat} (h:j < a.length):a.getD j tkz ∈ a:=by
 simp only [List.getD_eq_getElem?_getD,List.getElem?_eq_getElem h,Option.getD_some]; exact List.getElem_mem h
theorem sh_get {a:List Tokn} {c j:Nat} (h:j < a.length):((a.map (shT c)).getD j tkz).k = (a.getD j tkz).k ∧ ((a.map (shT c)).getD j tkz).t = (a.getD j tkz).t:=by
 simp [List.getD_eq_getElem?_getD,h,shT]
theorem wp_of {s:Txt} {a:List Tokn} {e:Tokn} (B:Body wordsT s a) (he:e.k ≠ 7):Wp (a ++ [e]):=fun i h=>by
 by_cases c:i < a.length
 ·rw [getD_l c] at h ⊢
  have:=(B _ (getD_in c)).2.1 h
  exact ⟨fun q=>by rw [q] at this; revert this; decide,fun q=>by rw [q] at this; revert this; decide⟩
 ·by_cases c2:i = a.length
  ·rw [c2,show a.length = a.length + 0 from rfl,getD_r] at h; exact absurd h he
  ·rw [getD_out (by rw [List.length_append]; show a.length + 1 ≤ i; omega)] at h; cases h
theorem nz_of {s:Txt} {a:List Tokn} {e:Tokn} (B:Body wordsT s a):∀ j,j < a.length → ((a ++ [e]).getD j tkz).k ≠ 0:=fun j h=>by
 rw [getD_l h]; exact (B _ (getD_in h)).1
theorem lex_ok {s:Txt} (hs:s.length ≤ 4000) {U:List Tokn} (h:lexT s = .inr U):TkOk U s.length ∧ 0 < U.length ∧ U.length ≤ 100000:=lexM_ok hs h
theorem spaced_stm {a:List Tokn} {s:Txt} {e b:Nat} (W:TkOk (a ++ [⟨0,[],b⟩]) N) (B:Body wordsT s a) (hb:(a ++ [(⟨0,[],b⟩:Tokn)]).length ≤ 100000) {p:List Tokn} {c:Nat} :
  Stm (a ++ [⟨0,[],b⟩]) (p ++ a.map (shT c) ++ [⟨0,[],e⟩]) N p.length 0 a.length:=by
 have g:∀ j,j < a.length → (p ++ a.map (shT c) ++ [(⟨0,[],e⟩:Tokn)]).getD (j + p.length) tkz = (a.map (shT c)).getD j tkz:=fun j h=>by
  rw [List.append_assoc,Nat.add_comm,getD_r,getD_l (by simpa using h)]
 have gl:(p ++ a.map (shT c) ++ [(⟨0,[],e⟩:Tokn)]).getD (a.length + p.length) tkz = ⟨0,[],e⟩:=by
  have:=getD_r (a:=p ++ a.map (shT c)) (e:=[(⟨0,[],e⟩:Tokn)]) (j:=0)
  simp only [List.length_append,List.length_map,Nat.add_zero] at this
  rw [Nat.add_comm]; exact this
 have X:Two (a ++ [⟨0,[],b⟩]) (p ++ a.map (shT c) ++ [⟨0,[],e⟩]) N p.length 0 a.length :=
  ⟨W,by simp,by simp; omega,hb,fun j h=>by rw [g j h,getD_l h]; exact (sh_get h).1,fun j h=>by rw [g j h,getD_l h]; exact (sh_get h).2,.inl (by rw [gl])⟩
 refine ⟨X,wp_of B (by simp),by rw [gl]; simp,nz_of B,fun j h1 _=>?_⟩
 by_cases cj:j = a.length + p.length
 ·rw [cj,gl]; exact fun q=>by rcases q.1 with z | z <;> cases z
 ·rw [getD_out (by simp; omega)]; exact fun q=>by rcases q.1 with z | z <;> cases z
end Go.Proofs.YtkfbldogmgofoaaGreatDoor
namespace Go.Proofs.YtkfbldogmgofoaaGreatDoor
open Mir
variable {T T':List Tokn} {N N' k n m:Nat} {s s':PS} {E U P R M:PF}
theorem or_kp {s0:PS} (q:Kp s0 (U s).2):Kp s0 (orM T U s).2:=by
 have a1:Kp s0 (mulM T U s).2:=q.chainN _ _ _ _
 have a2:Kp s0 (addM T U s).2:=a1.chainN _ _ _ _
 have a3:Kp s0 (catEM T U s).2:=a2.catN _ _
 have a4:Kp s0 (relM T U s).2:=by rw [relM_eq]; exact a3.relStep
 have a5:Kp s0 (matchM T U s).2:=a4.chainN _ _ _ _
 have a6:Kp s0 (inM T U s).2:=by rw [inM_eq]; exact a5.inN _ _
 have a7:Kp s0 (Mir.andM T U s).2:=a6.chainN _ _ _ _
 exact a7.chainN _ _ _ _
theorem or0 (h:(orM T U s).2.err = 0):(U s).2.err = 0:=back (fun q=>or_kp q) h
structure Bad1 (T:List Tokn) (s:PS):Prop where
 e:s.err = 0
 k:(s.cur T).k = 7 ∨ (s.cur T).k = 8
 t:∀ x,x ∈ [[40],[36],[43,43],[45,45],[33],[45],[43],[66,69,71,73,78],[69,78,68],[102,117,110,99,116,105,111,110],[123]] → (s.cur T).t ≠ x
theorem Bad1.at (b:Bad1 T s) {l:List Txt} (hl:∀ x ∈ l,x ∈ [[40],[36],[43,43],[45,45],[33],[45],[43],[66,69,71,73,78],[69,78,68],[102,117,110,99,116,105,111,110],[123]]):s.isAt T l = false:=by
 unfold PS.isAt
 have:(s.cur T).t ∉ l:=fun h=>b.t _ (hl _ h) rfl
 simp [this]
theorem bad_prim (b:Bad1 T s) (ok:SOk T N s) (W:TkOk T N):(primM T E P R s).2.err ≠ 0:=by
 have k2:(s.cur T).k ≠ 2:=by rcases b.k with h | h <;> omega
 have k3:(s.cur T).k ≠ 3:=by rcases b.k with h | h <;> omega
 have k4:(s.cur T).k ≠ 4:=by rcases b.k with h | h <;> omega
 have k5:(s.cur T).k ≠ 5:=by rcases b.k with h | h <;> omega
 have k6:(s.cur T).k ≠ 6:=by rcases b.k with h | h <;> omega
 have k9:(s.cur T).k ≠ 9:=by rcases b.k with h | h <;> omega
 unfold primM
 dsimp only
 rw [if_neg k2,if_neg k3,if_neg k4,if_neg k5,if_neg k6,if_neg k9,if_neg (by rw [b.at (by simp)]; decide),if_neg (by rw [b.at (by simp)]; decide)]
 exact fail_adv W ok
theorem bad_unary (b:Bad1 T s) (ok:SOk T N s) (W:TkOk T N):((lev T (m + 1)).unary s).2.err ≠ 0:=by
 have pr:((lev T (m + 1)).prim s).2.err ≠ 0:=by rw [lev_prim]; exact bad_prim b ok W
 rw [lev_unary]
 unfold unaryM
 dsimp only
 rw [if_neg (by rw [b.at (by simp)]; decide),if_neg (by rw [b.at (by simp)]; decide),if_neg (by rw [b.at (by simp)]; decide),lev_post]
 unfold postM
 dsimp only
 rw [if_neg (by rw [b.at (by simp)]; decide),if_neg (by rw [b.at (by simp)]; decide)]
 intro h
 exact pr (back (fun q=>by
  split
  ·exact q
  split
  ·exact q.step
  split
  ·exact q.step
  ·exact q) h)
theorem bad_expr (b:Bad1 T s) (ok:SOk T N s) (W:TkOk T N):((lev T (m + 2)).expr s).2.err ≠ 0:=by
 rw [lev_expr,exprM_eq]
 intro h
 have e2:=or0 (exprStep_b (up_err h))
 obtain ⟨o1,i1,d1,_,_⟩:=down_ok W ok
 have e1:(s.down T).err = 0:=back (fun q=>(k_lev T (m + 1)).2.1 _ _ q) e2
 have c1:(s.down T).cur T = s.cur T:=by rw [cur_o e1,cur_o b.e,i1]
 exact bad_unary ⟨e1,by rw [c1]; exact b.k,fun x hx=>by rw [c1]; exact b.t x hx⟩ o1 W e2
theorem bad_exprN (b:Bad1 T s) (ok:SOk T N s) (W:TkOk T N) {n:Nat} (hn:2 ≤ n):((lev T n).expr s).2.err ≠ 0:=by
 obtain ⟨m,rfl⟩:∃ m,n = m + 2:=⟨n - 2,by omega⟩
 exact bad_expr b ok W
theorem bad_itemG {S:PF} (b:Bad1 T s) (be:(E s).2.err ≠ 0):(itemG T (blockM T S) E s).2.err ≠ 0:=by
 unfold itemG
 rw [if_neg (by rw [b.at (by simp)]; decide),if_neg (by rw [b.at (by simp)]; decide),if_neg (by rw [b.at (by simp)]; decide),if_neg (by rw [b.at (by simp)]; decide)]
 dsimp only
 intro h
 exact be (back (fun q=>by
  split
  ·exact q.blockM
  ·dsimp only
   split
   ·exact q.fail
   ·exact q) h)
theorem bad_item (b:Bad1 T s) (ok:SOk T N s) (W:TkOk T N):(itemM T s).2.err ≠ 0:=by
 have be:((lev T 51).expr s).2.err ≠ 0:=bad_exprN b ok W (by decide)
 generalize hE:(lev T 51).expr = E at be
 rw [itemM_eq,hE]
 exact bad_itemG b be
theorem no_else_first (W:TkOk T N) (h0:0 < T.length) (h:(itemsN T (T.length + 1) [] ps0).2.err = 0) {x:Nat} (b:Blank T 0 x):¬ (((T.getD x tkz).k = 8 ∨ (T.getD x tkz).k = 7) ∧ (T.getD x tkz).t = [101,108,115,101]):=fun c=>by
 have lt:x < T.length:=Classical.byContradiction fun l=>by
  rw [getD_out (by omega)] at c; rcases c.1 with z | z <;> cases z
 have ok0:=ps0_ok W h0
 have okx:SOk T N ⟨x,0,false,0,0⟩:=⟨lt,.inl rfl,Nat.zero_le _,fun _=>Nat.zero_le _⟩
 have cx:PS.cur T ⟨x,0,false,0,0⟩ = T.getD x tkz:=rfl
 have sk:ps0.skip T = ⟨x,0,false,0,0⟩:=by
  rw [skip_from W x (j:=x) ok0 rfl (by show 0 + x = x; omega) lt b]
  refine skip_stay (q:=⟨x,0,false,0,0⟩) ?_ ?_
  ·rw [cx]; rcases c.1 with z | z <;> rw [z] <;> decide
  ·unfold PS.isAt; rw [cx,c.2]; simp
 rw [itemsN_s,if_pos (show ps0.err = 0 from rfl),sk,if_neg (by rw [cx]; rcases c.1 with z | z <;> rw [z] <;> decide)] at h
 have e1:(itemM T ⟨x,0,false,0,0⟩).2.err = 0:=back (fun q=>q.itemsN _ _) h
 exact bad_item ⟨rfl,by rw [cx]; exact c.1.symm,fun y hy=>by
  rw [cx,c.2]
  simp only [List.mem_cons,List.not_mem_nil,or_false] at hy
  rcases hy with rfl | rfl | rfl | rfl | rfl | rfl | rfl | rfl | rfl | rfl | rfl <;> decide⟩ okx W e1
theorem itemsN_acc:∀ (K:Nat) (l:List Tree) (s:PS),itemsN T K l s = (l ++ (itemsN T K [] s).1,(itemsN T K [] s).2)
 | 0,l,s=>by simp [itemsN]
 | K + 1,l,s=>by
   rw [itemsN_s,itemsN_s]
   split
   ·split
    ·simp
    ·rw [itemsN_acc K (l ++ _),itemsN_acc K ([] ++ _)]; simp
   ·simp
theorem lines_law {s b:Txt} (hs:s.length ≤ 1000) (hb:b.length ≤ 1000) {t u:Tree} (h:parsedT s = .inl t) (h2:parsedT b = .inl u) :
  ∃ l1 l2,parsedT (s ++ 10 :: b) = .inl (nodeM [112,114,111,103,114,97,109] (l1 ++ l2)) ∧ LikeTs l1 t.kids ∧ LikeTs l2 u.kids ∧ l1.length ≤ 99999 ∧ l2.length ≤ 99999:=by
 unfold parsedT at h h2
 cases hl:lexT s with
 | inl j=>rw [hl] at h; cases h
 | inr U =>
 cases hl2:lexT b with
 | inl j=>rw [hl2] at h2; cases h2
 | inr V =>
   rw [hl] at h
   rw [hl2] at h2
   obtain ⟨W,_,hbu⟩:=lex_ok (by omega) hl
   obtain ⟨WV,hv0,hbv⟩:=lex_ok (by omega) hl2
   obtain ⟨a,c,rfl,B,la,rfl,Bc,lc,lx⟩:=lex_lines hl hl2
   obtain ⟨W',_,hb'⟩:=lex_ok (by simp; omega) lx
   obtain ⟨e1,et⟩:=parse_inl h
   obtain ⟨e2,eu⟩:=parse_inl h2
   have Y2:=spaced_stm (e:=s.length + 1 + b.length) (p:=a ++ [⟨1,[],s.length⟩]) (c:=s.length + 1) WV Bc hbv
   unfold parsedT
   rw [show lexT (s ++ 10 :: b) = _ from lx]
   dsimp only
   have gA:∀ j,j < a.length → (a ++ [(⟨1,[],s.length⟩:Tokn)] ++ c.map (shT (s.length + 1)) ++ [(⟨0,[],s.length + 1 + b.length⟩:Tokn)]).getD j tkz = a.getD j tkz:=fun j h=>by
    rw [List.append_assoc,List.append_assoc,getD_l h]
   have gN:(a ++ [(⟨1,[],s.length⟩:Tokn)] ++ c.map (shT (s.length + 1)) ++ [(⟨0,[],s.length + 1 + b.length⟩:Tokn)]).getD a.length tkz = ⟨1,[],s.length⟩:=by
    rw [List.append_assoc,List.append_assoc]
    have:=getD_r (a:=a) (e:=[(⟨1,[],s.length⟩:Tokn)] ++ (c.map (shT (s.length + 1)) ++ [(⟨0,[],s.length + 1 + b.length⟩:Tokn)])) (j:=0)
    rw [Nat.add_zero] at this; exact this
   have len':(a ++ [(⟨1,[],s.length⟩:Tokn)] ++ c.map (shT (s.length + 1)) ++ [(⟨0,[],s.length + 1 + b.length⟩:Tokn)]).length = a.length + c.length + 2:=by simp; omega
   have gE:(a ++ [(⟨1,[],s.length⟩:Tokn)] ++ c.map (shT (s.length + 1)) ++ [(⟨0,[],s.length + 1 + b.length⟩:Tokn)]).getD (c.length + (a.length + 1)) tkz = ⟨0,[],s.length + 1 + b.length⟩:=by
    have:=getD_r (a:=a ++ [(⟨1,[],s.length⟩:Tokn)] ++ c.map (shT (s.length + 1))) (e:=[(⟨0,[],s.length + 1 + b.length⟩:Tokn)]) (j:=0)
    simp only [List.length_append,List.length_map,List.length_cons,List.length_nil,Nat.add_zero] at this
    rw [Nat.add_comm c.length]; exact this
   have pl:(a ++ [(⟨1,[],s.length⟩:Tokn)]).length = a.length + 1:=by simp
   rw [pl] at Y2
   generalize hT':(a ++ [(⟨1,[],s.length⟩:Tokn)] ++ c.map (shT (s.length + 1)) ++ [(⟨0,[],s.length + 1 + b.length⟩:Tokn)]:List Tokn) = T' at W' hb' Y2 gA gN gE len' ⊢
   have X1:Two (a ++ [⟨0,[],s.length⟩]) T' s.length 0 0 a.length:=⟨W,by simp,by omega,hbu,fun j h=>by rw [Nat.add_zero,gA j h,getD_l h],fun j h=>by rw [Nat.add_zero,gA j h,getD_l h],.inr (.inl (by rw [Nat.add_zero,gN]))⟩
   have Y1:Stm (a ++ [⟨0,[],s.length⟩]) T' s.length 0 0 a.length:=⟨X1,wp_of B (by simp),by rw [Nat.add_zero,gN]; simp,nz_of B,fun j h1 hbk q=>by
    rw [Nat.add_zero] at h1 hbk
    by_cases c1:j = a.length
    ·rw [c1,gN] at q; rcases q.1 with z | z <;> cases z
    ·obtain ⟨x,rfl⟩:∃ x,j = x + (a.length + 1):=⟨j - (a.length + 1),by omega⟩
     by_cases lt:x < c.length
     ·have tk:=Y2.X.tk; have tt:=Y2.X.tt
      refine no_else_first WV hv0 e2 (x:=x) (fun y y1 y2=>?_) ?_
      ·have:=hbk (y + (a.length + 1)) (by omega) (by omega)
       rw [tk y (by omega),tt y (by omega)] at this
       exact this
      ·rw [tk x lt,tt x lt] at q; exact q
     ·by_cases c2:x = c.length
      ·rw [c2,gE] at q; rcases q.1 with z | z <;> cases z
      ·rw [getD_out (by omega)] at q; rcases q.1 with z | z <;> cases z⟩
   have r0:Rel (a ++ [⟨0,[],s.length⟩]) s.length 0 0 ps0 ps0:=⟨ps0_ok W (by simp),rfl,rfl,rfl,rfl,rfl,Nat.zero_le _⟩
   obtain ⟨K2,l2,q,q2,r2,ok2,okq,qd,qf,ll,L2,_,hn,hK,eq⟩:=itemsN_sim Y1 W' _ (T'.length + 1) r0 (ps0_ok W' (by omega)) .nil (Nat.zero_le _) (by show a.length < 0 + _; simp; omega) (by show T'.length < 0 + _; omega) rfl rfl e1
   have i2:=r2.i
   have le2:=r2.le X1
   obtain ⟨K3,rfl⟩:∃ x,K2 = x + 1:=⟨K2 - 1,by omega⟩
   have bl:=blank_sh Y1 okq r2 hn
   have sk:q2.skip T' = ({ q2 with i:=a.length + 1 }:PS).skip T':=skip_from W' (a.length + 1 - q2.i) ok2 r2.e' (by omega) (by omega) (fun x h1 h2=>by
    by_cases cx:x = a.length
    ·rw [cx,gN]; exact .inl rfl
    ·exact bl x h1 (by omega))
   have okb:SOk T' (s ++ 10 :: b).length { q2 with i:=a.length + 1 }:=⟨by show a.length + 1 < T'.length; omega,ok2.code,ok2.bad,ok2.low⟩
   have rb:Rel (c ++ [⟨0,[],b.length⟩]) b.length (a.length + 1) 0 ps0 { q2 with i:=a.length + 1 }:=⟨ps0_ok WV hv0,rfl,r2.e',by show a.length + 1 = 0 + (a.length + 1); omega,by show q2.deep = 0; have:=r2.dp; omega,by show q2.flat = false; rw [r2.fl,qf],by show q2.deep ≤ 50; have:=r2.low; omega⟩
   obtain ⟨K4,l4,p,p4,r4,ok4,okp,_,_,ll4,L4,_,hn4,hK4,eq4⟩:=itemsN_sim Y2 W' _ (K3 + 1) rb okb .nil (Nat.zero_le _) (by show c.length < 0 + _; simp; omega) (by show T'.length < a.length + 1 + _; omega) rfl rfl e2
   obtain ⟨z,ez,z0⟩:=items_end Y2 W' okp ok4 r4 hn4 (by rw [gE]) hK4 l4
   have n2:=L2.len
   have n4:=L4.len
   refine ⟨l2,l4,parse_of (r:=z) ?_ z0,?_,?_,by omega,by omega⟩
   ·rw [eq,itemsN_skip _ _ r2.e' (by exact r2.e') sk,itemsN_acc,eq4,ez]
   ·rw [et]; exact L2.symm
   ·rw [eu]; exact L4.symm
end Go.Proofs.YtkfbldogmgofoaaGreatDoor
namespace Go.Proofs.YtkfbldogmgofoaaGreatDoor
open Mir
variable {h:H} {Q:V → H → Prop} {m:Int}
theorem parsedT_op {src:Txt} {t:Tree} (h:parsedT src = .inl t):∃ l,t = nodeM [112,114,111,103,114,97,109] l:=by
 unfold parsedT at h
 split at h
 ·cases h
 ·unfold parseM at h
  dsimp only at h
  split at h
  ·cases h
  ·cases h; exact ⟨_,rfl⟩
end Go.Proofs.YtkfbldogmgofoaaGreatDoor
namespace Go.Proofs.YtkfbldogmgofoaaGreatDoor
open Mir
variable {h:H} {Q:V → H → Prop} {m:Int}
theorem tget_l {a b:List Tree} {i:Nat} (h:i < a.length):(a ++ b).getD i .zero = a.getD i .zero:=by
 simp [List.getD_eq_getElem?_getD,List.getElem?_append_left h]
theorem tget_r {a b:List Tree} {i:Nat} (h:a.length ≤ i):(a ++ b).getD i .zero = b.getD (i - a.length) .zero:=by
 simp [List.getD_eq_getElem?_getD,List.getElem?_append_right h]
theorem lines2_ac (sa sb:Txt) (hq:∀ h',Q (.bool true) h'):AC pg (.fn 9) [.str sa,.str sb] (hP m) Q:=by
 refine AC.fn' (g:=g9) rfl (by simp only [List.length_cons,List.length_nil,g9]; decide) ?_; simp only [g9,Mir.Ab.all]
 refine W0 ?_
 refine lcut_ac sa 200 ?_
 obtain ⟨a,ha⟩:∃ a,a = sa.take 200:=⟨_,rfl⟩
 have la:a.length ≤ 200:=by rw [ha,List.length_take]; omega
 rw [← ha]
 refine W0 ?_
 refine lcut_ac sb 200 ?_
 obtain ⟨b,hb⟩:∃ b,b = sb.take 200:=⟨_,rfl⟩
 have lb:b.length ≤ 200:=by rw [hb,List.length_take]; omega
 rw [← hb]
 refine W0 ?_
 refine Parse_ac words_P (mm:=m) rfl (by omega) (fun p1 e h1 hp s1=>?_) fun t v p h1 hp s1 hv=>?_
 ·have e0:e ≠ 0:=by have:=(parsedT_err (by omega) hp).1; omega
  refine W0 ?_
  intro b5 hb5
  have s2:=s1.add (o:=.cells Z4 false) hb5
  unfold Z4 at s2
  refine W0 ?_
  refine Parse_ac (Words.of s2) (mm:=m) (s2 _ _ rfl) (by omega) (fun p2 e2 h2 hp2 s3=>?_) fun u w p2 h2 hp2 s3 hw=>?_
  ·refine W0 ?_
   intro b8 hb8
   refine W1 e0 ?_
   refine awake13_ac (m:=m) (fun x o hx=>(s3.add hb8) _ _ (s2 _ _ hx)) fun h3 s4=>?_
   refine W0 ?_
   exact ⟨_,Sub.refl,hq _⟩
  ·obtain ⟨kw,rfl,kb⟩:=hw.inv
   have kf:=kb.flat
   refine W1 kf ?_
   intro b8 hb8
   refine W2 e0 kf ?_
   refine awake13_ac (m:=m) (fun x o hx=>(s3.add hb8) _ _ (s2 _ _ hx)) fun h3 s4=>?_
   refine W0 ?_
   exact ⟨_,Sub.refl,hq _⟩
 ·obtain ⟨l,rfl⟩:=parsedT_op hp
  obtain ⟨kv,rfl,ka⟩:∃ kv,v = .agg [.str [112,114,111,103,114,97,109],.str [],.int .i64 (0:Nat),kv] ∧ KidsV (hP m) h1 p l kv:=hv.inv
  have fa:=ka.flat
  refine W1 fa ?_
  intro b5 hb5
  have s2:=s1.add (o:=.cells [.str [112,114,111,103,114,97,109],.str [],(.int .i64 (0:Nat)),kv] false) hb5
  have c5:hadd h1 b5 (.cells [.str [112,114,111,103,114,97,109],.str [],(.int .i64 (0:Nat)),kv] false) b5 = some (.cells [.str [112,114,111,103,114,97,109],.str [],(.int .i64 (0:Nat)),kv] false):=hadd_same
  have ka2:=ka.put (o:=.cells [.str [112,114,111,103,114,97,109],.str [],(.int .i64 (0:Nat)),kv] false) hb5
  refine W1 fa ?_
  generalize hadd h1 b5 (.cells [.str [112,114,111,103,114,97,109],.str [],(.int .i64 (0:Nat)),kv] false) = g1 at s2 c5 ka2 ⊢
  refine Parse_ac (Words.of s2) (mm:=m) (s2 _ _ rfl) (by omega) (fun p2 e2 h2 hp2 s3=>?_) fun u w p2 h2 hp2 s3 hw=>?_
  ·have e0:e2 ≠ 0:=by have:=(parsedT_err (by omega) hp2).1; omega
   refine W0 ?_
   intro b8 hb8
   refine W1 e0 ?_
   refine awake13_ac (m:=m) (fun x o hx=>(s3.add hb8) _ _ (s2 _ _ hx)) fun h3 s4=>?_
   refine W0 ?_
   exact ⟨_,Sub.refl,hq _⟩
  ·obtain ⟨l2,rfl⟩:=parsedT_op hp2
   obtain ⟨kw,rfl,kb⟩:∃ kv,w = .agg [.str [112,114,111,103,114,97,109],.str [],.int .i64 (0:Nat),kv] ∧ KidsV g1 h2 p2 l2 kv:=hw.inv
   have fb:=kb.flat
   have c5':=s3 _ _ c5
   have ka3:=ka2.up s3
   refine W1 fb ?_
   intro b8 hb8
   have s4:=s3.add (o:=.cells [.str [112,114,111,103,114,97,109],.str [],(.int .i64 (0:Nat)),kw] false) hb8
   have c8:hadd h2 b8 (.cells [.str [112,114,111,103,114,97,109],.str [],(.int .i64 (0:Nat)),kw] false) b8 = some (.cells [.str [112,114,111,103,114,97,109],.str [],(.int .i64 (0:Nat)),kw] false):=hadd_same
   have d5:=(Sub.refl.add (o:=.cells [.str [112,114,111,103,114,97,109],.str [],(.int .i64 (0:Nat)),kw] false) hb8) _ _ c5'
   have ka4:=ka3.put (o:=.cells [.str [112,114,111,103,114,97,109],.str [],(.int .i64 (0:Nat)),kw] false) hb8
   have kb2:=kb.put (o:=.cells [.str [112,114,111,103,114,97,109],.str [],(.int .i64 (0:Nat)),kw] false) hb8
   obtain ⟨l1',l2',hx,L1,L2,n1,n2⟩:=lines_law (s:=a) (b:=b) (by omega) (by omega) hp hp2
   refine W1 fb ?_
   generalize hadd h2 b8 (.cells [.str [112,114,111,103,114,97,109],.str [],(.int .i64 (0:Nat)),kw] false) = g2 at s4 c8 d5 ka4 kb2 ⊢
   refine goG_cut AC.mono (fun a' h'=>h' = g2 ∧ a'.d = [] ∧ a'.t 0 = .str a ∧ a'.t 1 = .str b ∧ a'.t 5 = .ptr b5 0 ∧ a'.t 8 = .ptr b8 0 ∧ ∃ cc,a'.t 52 = .bool cc) ?_ ?_
   ·by_cases c0:a.length = 0
    ·have c0':¬ 0 < a.length:=by omega
     refine W0 ?_
     exact ⟨_,rfl⟩
    ·have c0':0 < a.length:=by omega
     have ep:a[((a.length:Int) - 1).toNat]? = some (pk a (a.length - 1)):=by
      rw [show ((a.length:Int) - 1).toNat = a.length - 1 from by omega]; exact pk_nat (by omega)
     refine W1 ep ?_
     exact ⟨_,rfl⟩
   ·rintro ⟨t,ds⟩ h3 ⟨rfl,hd,t0,t1,t5,t8,cc,t52⟩
    simp only at hd t0 t1 t5 t8 t52; subst hd
    have gs:Sub (hP m) h3:=fun x o hx=>s4 _ _ (s2 _ _ hx)
    cases cc
    ·refine W3 t52 t0 t1 ?_
     rw [List.append_assoc,List.singleton_append]
     refine Parse_ac (Words.of gs) (mm:=m) (gs _ _ rfl) (by simp; omega) (fun _ _ _ hp3 _=>by rw [hx] at hp3; cases hp3) fun t3 v3 p3 h4 hp3 s5 hv3=>?_
     rw [hx] at hp3; cases hp3
     obtain ⟨kx,rfl,kc⟩:∃ kv,v3 = .agg [.str [112,114,111,103,114,97,109],.str [],.int .i64 (0:Nat),kv] ∧ KidsV h3 h4 p3 (l1' ++ l2') kv:=hv3.inv
     have fc:=kc.flat
     have e5:=s5 _ _ d5
     have e8:=s5 _ _ c8
     have ka5:=ka4.up s5
     have kb3:=kb2.up s5
     refine W1 fc ?_
     intro bb hbb
     have s6:=s5.add (o:=.cells [.str [112,114,111,103,114,97,109],.str [],(.int .i64 (0:Nat)),kx] false) hbb
     have f11:hadd h4 bb (.cells [.str [112,114,111,103,114,97,109],.str [],(.int .i64 (0:Nat)),kx] false) bb = some (.cells [.str [112,114,111,103,114,97,109],.str [],(.int .i64 (0:Nat)),kx] false):=hadd_same
     have s7:=Sub.refl.add (h:=h4) (h':=h4) (o:=.cells [.str [112,114,111,103,114,97,109],.str [],(.int .i64 (0:Nat)),kx] false) hbb
     have f5:=s7 _ _ e5
     have f8:=s7 _ _ e8
     have ka6:=ka5.up s7
     have kb4:=kb3.up s7
     have kc2:=kc.up s7
     refine W1 fc ?_
     generalize hadd h4 bb (.cells [.str [112,114,111,103,114,97,109],.str [],(.int .i64 (0:Nat)),kx] false) = g4 at s6 f11 f5 f8 ka6 kb4 kc2 ⊢
     have ll1:=ka6.ll
     have ll2:=kb4.ll
     have ll3:=kc2.ll
     have m1:l.length = l1'.length:=L1.len.symm
     have m2:l2.length = l2'.length:=L2.len.symm
     have m3:(l1' ++ l2').length = l.length + l2.length:=by rw [List.length_append]; omega
     rw [m3] at ll3
     have e3:((l.length + l2.length:Nat):Int) = l.length + l2.length:=by omega
     rw [e3] at ll3
     refine W8 t5 t8 f11 f5 f8 ll1 ll2 ll3 ?_
     refine E.cut AC.mono (fun ex a' h'=>ex = .exit 0 ∧ a'.d = [] ∧ Sub g4 h') ?_ ?_
     ·refine E.loopX AC.mono (fun (i:Nat) a' h'=>i ≤ l.length + l2.length ∧ Sub g4 h' ∧ a'.d = [] ∧ a'.t 5 = .ptr b5 0 ∧ a'.t 8 = .ptr b8 0 ∧ a'.t 79 = kx ∧ a'.t 80 = .int .i64 (l.length + l2.length) ∧ a'.t 81 = .int .i64 i) (fun i=>l.length + l2.length - i) 0 ?_ ?_
      ·exact ⟨Nat.zero_le _,Sub.refl,rfl,t5,t8,rfl,rfl,rfl⟩
      ·rintro i ⟨t,ds⟩ h5 ⟨hi,s8,hd,t5,t8,t79,t80,t81⟩
       simp only at hd t5 t8 t79 t80 t81; subst hd
       have x5:=s8 _ _ f5
       have x8:=s8 _ _ f8
       by_cases ci:i < l.length + l2.length
       ·obtain ⟨bx,cs,k1,ex,hbx,tx,kkx,lx⟩:=kids_get (kc2.up s8) (i:=i) (by omega)
        rw [m3] at ex lx
        have fx:=kkx.flat
        generalize hxt:(l1' ++ l2').getD i .zero = tm at tx kkx
        refine W8 t5 t8 t79 t80 t81 ex hbx (And.intro tx (And.intro lx e3)) ?_
        intro b15 hb15
        have s9:=Sub.refl.add (h:=h5) (h':=h5) (o:=.cells (nodeC tm k1) false) hb15
        have x15:hadd h5 b15 (.cells (nodeC tm k1) false) b15 = some (.cells (nodeC tm k1) false):=hadd_same
        have y5:=s9 _ _ x5
        have y8:=s9 _ _ x8
        have s10:Sub g4 (hadd h5 b15 (.cells (nodeC tm k1) false)):=fun x o hx=>s9 _ _ (s8 _ _ hx)
        have kkx2:=kkx.up s9
        refine W6 t5 t8 t79 t80 t81 fx ?_
        generalize hadd h5 b15 (.cells (nodeC tm k1) false) = g5 at s10 x15 y5 y8 kkx2 ⊢
        by_cases cj:i < l.length
        ·obtain ⟨by_,cs2,k2,ey,hby,ty,kky,ly⟩:=kids_get (ka6.up s10) (i:=i) cj
         have lk:LikeT tm (l.getD i .zero):=by
          rw [← hxt]
          have:=L1.get i (by omega)
          rw [tget_l (by omega)]; exact this
         refine W8 t5 t8 t79 t80 t81 x15 y5 (And.intro y8 (And.intro ll1 (And.intro ey (And.intro hby (And.intro ty (And.intro ly fx)))))) ?_
         refine same_ac _ tm (l.getD i .zero) (Nat.lt_succ_self _) (NodeV.of kkx2) (NodeV.of kky) lk fun h6 s11=>?_
         refine W5 t5 t8 t79 t80 t81 ?_
         exact ⟨i + 1,by omega,by omega,fun x o hx=>s11 _ _ (s10 _ _ hx),by simp [ex]⟩
        ·obtain ⟨by_,cs2,k2,ey,hby,ty,kky,ly⟩:=kids_get (kb4.up s10) (i:=i - l.length) (by omega)
         have lk:LikeT tm (l2.getD (i - l.length) .zero):=by
          rw [← hxt]
          have:=L2.get (i - l1'.length) (by omega)
          rw [tget_r (by omega),show i - l.length = i - l1'.length from by omega]; exact this
         have ez:(i:Int) - l.length = (i - l.length:Nat):=by omega
         have cj':(l.length:Int) ≤ i:=by omega
         refine W8 t5 t8 t79 t80 t81 x15 y5 (And.intro y8 (And.intro ll1 (And.intro ez (And.intro ey (And.intro hby (And.intro ty (And.intro ly fx))))))) ?_
         refine same_ac _ tm (l2.getD (i - l.length) .zero) (Nat.lt_succ_self _) (NodeV.of kkx2) (NodeV.of kky) lk fun h6 s11=>?_
         refine W5 t5 t8 t79 t80 t81 ?_
         exact ⟨i + 1,by omega,by omega,fun x o hx=>s11 _ _ (s10 _ _ hx),by simp [ex]⟩
       ·refine W5 t5 t8 t79 t80 t81 ?_
        exact s8
     ·rintro ex ⟨t,ds⟩ h5 ⟨rfl,hd,s8⟩
      simp only at hd; subst hd
      refine W0 ?_
      refine awake13_ac (m:=m) (fun x o hx=>s8 _ _ (s6 _ _ (gs _ _ hx))) fun h6 s9=>?_
      refine W0 ?_
      exact ⟨_,Sub.refl,hq _⟩
    ·refine W1 t52 ?_
     refine awake13_ac (m:=m) gs fun h4 s5=>?_
     refine W0 ?_
     exact ⟨_,Sub.refl,hq _⟩
end Go.Proofs.YtkfbldogmgofoaaGreatDoor
namespace Go.Proofs.YtkfbldogmgofoaaGreatDoor
open Mir Go.ChangeShapes Go.WideShapes Go.ChangeAt Go.RowKit
open Go.ChangeMaps (open_string shut_string)
set_option maxRecDepth 100000 in
theorem parseLines_lifted (os:Os) (started:os.Started) (H:Type) (enc:TypeId × Value → H) :
  ReturnsInHanded {} Tryz.checked os 9 .any (fun w args=>(Rows.parseLinesSpec.pre enc Tryz.prog Tryz.f9 Rows.parseLinesRow.domain false w args ∧ laidMet Tryz.prog laidsP w) ∧ sizedMet enc Tryz.prog Tryz.f9 (OpenSpec.ofChange Rows.parseLinesSpec) false w args) (Rows.parseLinesSpec.post enc Tryz.prog Tryz.f9 false true false false):=by
 refine handed_shaped (C:=Tryz.checked) (X:=fun w _=>laidMet Tryz.prog laidsP w) (fun _ _ _ hh h=>h.of_heap hh) Tryz.own started (by kernel_rfl) Tryz.func9
  (ChangeSpec.witness_shaped (enc:=enc) (C:=Tryz.checked) (os:=os) (X:=fun w _=>laidMet Tryz.prog laidsP w) false (laidWorldP os) #[.string ⟨#[]⟩,.string ⟨#[]⟩] 8 rfl (World.shaped_of_RefB (by kernel_rfl) (by kernel_rfl)) (by kernel_rfl) (by kernel_rfl) (by kernel_rfl) (laidWorldP_met os _)) ?_
 intro W base args ds gs before hval0 hW hcnd hLd hsh
 obtain ⟨L1,L2,L3,m,S⟩:=startP hLd hsh
 have hval:∀ (j:Nat) t v,Tryz.f9.params[j]? = some t → args[j]? = some v → Value.okWide Tryz.prog W .any base t v:=hval0
 have hW':=hW
 obtain ⟨p,q,hA0,hV,rfl,hfz,hnd⟩:=hW
 have hA:DataW.TrodAll enc Tryz.prog W 0 (fun _=>true) true Tryz.f9.params.toList args.toList ds p:=hA0
 rw [Tryz.params9] at hA hval
 obtain ⟨v0,v1,d0,d1,p0,p1,rfl,rfl,rfl,h0,h1⟩:=trodAll_two hA
 obtain ⟨rfl,rfl⟩:=trodVars_none hV
 obtain ⟨s0,rfl,rfl,rfl,w0⟩:=open_string Tryz.underlying9 (hval 0 9 v0 rfl rfl) h0
 obtain ⟨s1,rfl,rfl,rfl,w1⟩:=open_string Tryz.underlying9 (hval 1 9 v1 rfl rfl) h1
 clear hA0 hval0
 simp only [List.append_nil] at hW'
 have hcalls:=law_ro (f:=9) rfl (args:=[.str s0.data.toList,.str s1.data.toList]) (args':=[.string s0,.string s1]) (.cons (by have:=VR.str (μ:=muP L1 L2 L3) s0.data.toList; simpa using this) (.cons (by have:=VR.str (μ:=muP L1 L2 L3) s1.data.toList; simpa using this) .nil)) hP_ro (lines2_ac _ _ (fun _=>rfl)) (P_start S)
 refine hcalls.mono fun e W' ⟨he,hb⟩=>?_
 subst he
 exact ⟨_,rfl,post_of_plain hW' (fun _ _ _=>trodAll_mk1 (shut_bool Tryz.underlying4 true)) (fun sp=>trodAll_mk2 (shut_string Tryz.underlying9 w0) (shut_string Tryz.underlying9 w1)) (fun _=>rfl) hb (ok_one (by kernel_rfl) rfl (okWide_bool_mk Tryz.underlying4 true))⟩
theorem parseLines_holds:Rows.ParseLinesSaid :=
 OpenClaim.holds_of_wide 9 Tryz.f9 rfl rfl rfl rfl rfl rfl rfl ⟨rfl,rfl,rfl,rfl,rfl⟩ rfl rfl rfl rfl rfl (by kernel_rfl) Tryz.func9 (by kernel_rfl)
  (of_decide_eq_true (by kernel_rfl)) (by unfold Func.isWrapper; first | (rw [if_pos (by decide +kernel)]; kernel_rfl) | (rw [if_neg (by decide +kernel)]; exact ⟨rfl,rfl⟩))
  (fun os started H enc _=>parseLines_lifted os started H enc)
theorem parseLinesCard_holds:Rows.ParseLinesCardSaid :=
 Claim7.holds_tied_plain_at .later [] [.data,.data,.data,.widerDeep,.widerDeep,.widerDeep] true (true,"940a08ca661267cf0838873448a6070153acbc0a0ad72a3c6dd6014d7f7e68da") false
  parseLines_holds (fun _ h=>by cases h) (by kernel_rfl) (fun _ h=>by cases h) parseLines_row_tie rfl ⟨rfl,rfl⟩ (by kernel_rfl) rfl
  (fun f fn hf hfn=>by
   obtain rfl:f = 9:=Option.some.inj ((show Tryz.prog.funcNamed "scribe/scribelaw13.ParseLines" = some 9 by kernel_rfl).symm.trans hf) |>.symm
   obtain rfl:fn = Tryz.f9:=(Option.some.inj (Tryz.func9.symm.trans hfn)).symm
   refine ⟨by kernel_rfl,fun j t ht=>?_⟩
   rw [Tryz.params9] at ht
   have h3:t = 9:=by
    rcases j with _ | _ | j <;> simp at ht <;> simp [← ht]
   subst h3
   ·exact (show Tryz.prog.wantsStandIn 9 = false by kernel_rfl))
  (by kernel_rfl)
end Go.Proofs.YtkfbldogmgofoaaGreatDoor
