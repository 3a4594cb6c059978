/- ParseInner: for every input the law's function returns true and its arguments read as before. -/
import Derived.ChangeMaps5
import Derived.ChangeSame
import Derived.ChangeVars
import Derived.HandedShaped
import Derived.JoinedAt
import Derived.JoinedOf
import Derived.LaidLaws
import Derived.Lib.LaidTab
import Derived.ProofKit
import Derived.RowKit
import Derived.RowKit3
import Derived.RowKitTokens
import Derived.SevenTiedAt
import Derived.Shelf.Vars
import Derived.SizedLaws
import Derived.SliceStrings
import Derived.Stop.LaidErr
import Derived.Test.YtkfbldogmgofoaaGreatDoorCards
import Derived.Test.YtkfbldogmgofoaaGreatDoorTie
import Derived.Test.YtkfbldogmgofoaaGreatDoorK10
set_option linter.unusedSimpArgs false
set_option linter.unusedVariables false
namespace Go.Proofs.YtkfbldogmgofoaaGreatDoor
open Mir Go.ChangeShapes Go.WideShapes Go.ChangeAt Go.RowKit
theorem handed_shaped {H:Type} {enc:TypeId × Value → H} {a:Assume} {C:Checked} {os:Os} {f:FuncId} {fn:Func} {s:ChangeSpec} {conds:List PathCond} {apart fresh handsOn again:Bool} {X:World → Array Value → Prop}
  (hX:∀ (w w':World) (args:Array Value),w.heap = w'.heap → X w args → X w' args)
  (own:ownKnob C.prog.godebug = none) (started:os.Started) (noInit:C.prog.inits.idxOf? f = none) (hfn:C.prog.funcs[f]? = some fn)
  (witness:∃ (w:World) (tape:Tape) (i:Input),w.os = os ∧ (w.forCall tape i).Shaped C.prog ∧ i.vars = [] ∧ Input.okWide C.prog (w.forCall tape i) .any w.heap.size f i ∧
   ((s.pre enc C.prog fn conds apart (w.forCall tape i).memory i.args ∧ X (w.forCall tape i).memory i.args) ∧ sizedMet enc C.prog fn (OpenSpec.ofChange s) apart (w.forCall tape i).memory i.args) ∧ a.holds C.prog (lone (Frame.enter C.prog f i.args .normal) [] (w.forCall tape i)))
  (contract:∀ (W:World) (base:Nat) (args:Array Value) (ds gs:List (DataW H)) (before:List MemPlace),
   (∀ (j:Nat) t v,fn.params[j]? = some t → args[j]? = some v → Value.okWide C.prog W .any base t v) →
   DataW.Whole enc C.prog fn.params.toList s.vars apart W args.toList ds gs before →
   conds.all (PathCond.test C.prog ⟨fn.params.toList,ds,s.plain.varTypes C.prog,gs⟩) = true →
   X W args → W.ShapedOpen C.prog →
   Calls C.prog f args W fun e W'=>∃ v,e = .returned v ∧ s.post enc C.prog fn apart fresh handsOn again W args v W') :
  ReturnsInHanded a C os f .any (fun w args=>(s.pre enc C.prog fn conds apart w args ∧ X w args) ∧ sizedMet enc C.prog fn (OpenSpec.ofChange s) apart w args) (s.post enc C.prog fn apart fresh handsOn again):=by
 refine returnsInHanded_of_calls own started noInit witness ?_
 intro w tape i _ hsh _ hok hpre hholds
 obtain ⟨_,_,_,fn',hfn',_,_,_,_,hval⟩:=hok
 have e:fn' = fn:=Option.some.inj (hfn'.symm.trans hfn)
 subst e
 obtain ⟨⟨⟨ds,gs,before,hw,hc⟩,hx⟩,hz⟩:=hpre
 have hw':=DataW.Whole.of_heap (w':=w.forCall tape i) (by rfl) hw
 refine (contract (w.forCall tape i) w.heap.size i.args ds gs before hval hw' hc (hX _ _ _ (by rfl) hx) hsh).mono fun e W' ⟨v,he,hp⟩=>?_
 subst he
 exact ChangeSpec.post_blind hp
theorem addr_eq {a:Addr} (h:a.spot = none):a = ⟨a.block,a.off,none⟩:=by cases a; simp at h; subst h; rfl
theorem heap_of_var? {P:Program} {W:World} {n:String} {g:Nat} {cs:Array Value} (hg:P.globalNamed n = some g) (h:W.var? P n = some cs):∃ t fr,W.heap[g]? = some (.cells cs t fr):=by
 unfold World.var? at h
 rw [hg,Option.bind_some] at h
 cases hx:W.heap[g]? with
 | none=>simp [hx] at h
 | some o =>
   cases o with
   | cells c t fr=>simp [hx] at h; subst h; exact ⟨t,fr,rfl⟩
   | _=>simp [hx] at h
structure TextsAt (W:World) (g:Nat) (ss:List (List UInt8)) (L:Mir.Loc):Prop where
 row:∃ c el fr,W.heap[L.B]? = some (.cells c el fr) ∧ c.size = L.n ∧ L.s + ss.length ≤ L.n ∧ ∀ i s,ss[i]? = some s → c[L.s + i]? = some (.string ⟨s.toArray⟩)
 var:∃ v t fr,W.heap[g]? = some (.cells #[v] t fr) ∧ v.oneCell' = true ∧ ∀ (μ:Mu) (b:Nat),μ b = some L → VR μ (.sl b 0 1 ss.length) v
theorem laid_texts {P:Program} {W:World} {n:String} {ss:List (List UInt8)} {r:List (String × DataW Unit)} {g:Nat} {t e:TypeId} {zero:Array Value}
  (h:laidMet P ((n,.slice (ss.map fun s=>.lit (.string s)) []) :: r) W) (hsh:W.ShapedOpen P) (hg:P.globalNamed n = some g) (ht:(P.globals[g]?).map (·.type) = some t) (hu:P.underlying t = some (.slice e)) (he:P.underlying e = some .string) (hce:P.cellsOf e = 1)
  (hlt:g < P.globals.size) (h0:((begin P (fun _ _=>0) default).world.heap[g]?).bind Obj.row? = some (zero,t)) (hz:zero.size = 1) (hb:P.buildable t = true) (hc:P.cellTypes P.depth t = some [t]) (hss:ss ≠ []):∃ L,TextsAt W g ss L:=by
 obtain ⟨ps,⟨g0,t0,cs0,f0,p0,q0,hg0,ht0,hv0,hd0,_,e0⟩,_,hrows⟩:=h
 obtain rfl:=Option.some.inj (hg.symm.trans hg0)
 obtain rfl:=Option.some.inj (ht.symm.trans ht0)
 obtain ⟨t',fr',hh⟩:=heap_of_var? hg hv0
 rcases open_strings hu he hce hd0 with ⟨hcs,hx⟩ | ⟨a,len,cap,xs,hcs,_,hl,hm,hlen,hx,hcell,hsz⟩
 ·have:=congrArg Prod.fst hx; cases this
 ·simp only [if_true] at hlen
  have hx1:=congrArg Prod.fst hx
  simp only [DataW.slice.injEq] at hx1
  obtain ⟨hx1,hx2⟩:=hx1
  have hcl:cap = len:=by
   have:=congrArg List.length hx2
   simp only [strs,List.length_map,List.length_nil,List.length_drop] at this
   omega
  subst hcl
  have hxs:xs.map (fun s=>s.data.toList) = ss:=by
   rw [List.take_of_length_le (by omega)] at hx1
   have:=congrArg (List.map fun (d:DataW Unit)=>match d with | .lit (.string s)=>s | _=>[]) hx1
   simp only [strs,List.map_map] at this
   simpa [Function.comp_def] using this.symm
  have hsl:ss.length = xs.length:=by rw [← hxs]; simp
  obtain ⟨cs,hh2,hs2,hr2⟩:=hsh.1 g zero t hlt h0
  rw [hh] at hh2
  simp only [Option.some.injEq,Obj.cells.injEq] at hh2
  obtain ⟨rfl,_,_⟩:=hh2
  obtain ⟨ts,hts,_,hall⟩:=hr2 hb
  rw [hc] at hts; cases hts
  have hcs':cs0 = #[.slice (some a) cap cap]:=by apply Array.toList_inj.1; rw [hcs]
  subst hcs'
  obtain ⟨u,hu',hok⟩:=hall 0 (.slice (some a) cap cap) rfl
  have:u = t:=by simpa using hu'.symm
  subst this
  have hsp:a.spot = none:=by
   simp only [Cell.ok,hu,World.has] at hok
   exact hok.2.2.2.1
  have hpos:0 < xs.length:=by rw [← hsl]; exact List.length_pos_iff.2 hss
  have key:∀ i,(a.add i) = ⟨a.block,a.off + i,none⟩:=fun i=>by
   unfold Addr.add; split
   ·rename_i e; subst e; exact addr_eq hsp
   ·rfl
  have hblk:∃ c el fr,W.heap[a.block]? = some (.cells c el fr) ∧ ∀ i,i < xs.length → c[a.off + i]? = some (.string (xs.getD i ByteArray.empty)):=by
   have hc0:=hcell 0 hpos
   rw [key] at hc0
   unfold World.cell? at hc0
   split at hc0
   ·rename_i c el fr e
    refine ⟨c,el,fr,e,fun i hi=>?_⟩
    have:=hcell i hi
    rw [key] at this
    unfold World.cell? at this
    simp only [e,Option.isSome_none,Bool.false_eq_true,if_false] at this
    exact this
   ·cases hc0
  obtain ⟨c,el,fr,hbk,hcs⟩:=hblk
  have hend:a.off + xs.length ≤ c.size:=by
   have:=hcs (xs.length - 1) (by omega)
   have:=(Array.getElem?_eq_some_iff.1 this).1
   omega
  refine ⟨⟨a.block,a.off,c.size⟩,⟨c,el,fr,hbk,rfl,by show a.off + ss.length ≤ c.size; omega,fun i s hi=>?_⟩,⟨_,t',fr',hh,rfl,fun μ b hμ=>?_⟩⟩
  ·rw [← hxs,List.getElem?_map] at hi
   cases hxi:xs[i]? with
   | none=>rw [hxi] at hi; cases hi
   | some x =>
     rw [hxi,Option.map_some,Option.some.injEq] at hi
     have hil:=(List.getElem?_eq_some_iff.1 hxi).1
     show c[a.off + i]? = _
     rw [hcs i hil,List.getD_eq_getElem?_getD,hxi,← hi]
     simp
  ·rw [addr_eq hsp]
   have:=VR.sl (μ:=μ) (b:=b) (o:=0) (es:=1) (len:=ss.length) (o':=0) (cap:=cap) hμ (by simp) (by omega) (by simp; omega) (by omega)
   have e:ss.length = cap:=by omega
   rw [e] at this
   rw [e]
   simpa using this
theorem R_ro {P:Program} {μ:Mu} {h:H} {w:World} (hfin:∃ N,∀ b,N ≤ b → μ b = none) (hglob:∀ g,g < P.globals.size → ∃ n,μ g = some ⟨g,0,n⟩)
  (hat:∀ b o,h b = some o → b < 1000 ∧ o.ro = true ∧ ∃ L x,μ b = some L ∧ w.heap[L.B]? = some x ∧ OR P μ L o x):R P μ h w:=by
 refine ⟨hfin,fun b o hb=>(hat b o hb).2.2,fun b b' o o' L L' hb hb' hne h1 h2 hro=>?_,hglob,fun b o L x hb hL hx=>⟨fun hB=>?_,fun hW=>?_⟩⟩
 ·rw [(hat b o hb).2.1] at hro; cases hro
 ·have:=(hat b o hb).1; have:=hB.2; omega
 ·have:=(hat b o hb).1; have:=hW.2; omega
theorem law_ro {f:Nat} {g:Mir.Fn} (hg:pg.fns f = some g) {args:List V} {args':List Value} {μ:Mu} {h:H} {w:World} (hv:VRs μ args args') (hro:∀ b o,h b = some o → o.ro = true)
  (hA:AC pg (.fn f) args h fun v _=>v = .bool true) (r:R Tryz.prog μ h w) :
  Calls Tryz.prog f args'.toArray w fun e w'=>e = .returned (.bool true) ∧ Below w.heap.size w w':=by
 refine (calls_of pg_ok hg hA hv r).mono fun e w' ⟨d,he,v,h',μ',hq,hd,st⟩=>?_
 subst hq
 rw [hd.bool_inv] at he
 refine ⟨he,st.os,st.tape,st.output,st.size,fun k hk=>st.kept k hk ?_⟩
 rintro ⟨b,o,L,hb,hr,_⟩
 rw [hro b o hb] at hr; cases hr
theorem Tryz.own:ownKnob Tryz.prog.godebug = none:=by kernel_rfl
section
variable {H:Type} {enc:TypeId × Value → H} {P:Program}
theorem post_of_plain {f:Func} {s:ChangeSpec} {apart fresh handsOn again:Bool} {W W':World} {args:Array Value} {v:Value} {ds gs:List (DataW H)}
  (hW:DataW.Whole enc P f.params.toList s.vars apart W args.toList ds gs [])
  (hres:∀ (b:Nat) (sp:Nat → Bool) (hd:Bool),DataW.TrodAll enc P W' b sp hd f.resultTypes.toList (v.resultList f.resultTypes.size) (s.fn H (ds ++ gs)).results [])
  (hargs:∀ sp:Nat → Bool,DataW.TrodAll enc P W' 0 sp true f.params.toList args.toList (s.fn H (ds ++ gs)).args [])
  (hvars:∀ sp:Nat → Bool,DataW.TrodVars enc P W' sp s.vars (s.fn H (ds ++ gs)).vars [])
  (hb:Below W.heap.size W W')
  (hok:∀ (j:Nat) (t:TypeId) (r:Value),f.resultTypes[j]? = some t → (v.resultList f.resultTypes.size)[j]? = some r → Value.okWide P W' .any 0 t r) :
  s.post enc P f apart fresh handsOn again W args v W':=by
 refine ⟨ds,gs,[],[],[],[],hW,hres _ _ _,hargs _,hvars _,hb.frame _,fun _=>?_⟩
 refine ⟨hok,_,_,([] ++ []) ++ [],⟨[] ++ [],[],trodAll_append (hargs _) (hres _ _ _),hvars _,rfl,?_,?_⟩,?_⟩
 ·intro b off hp; simp at hp
 ·intro _; simp
 ·intro p hp; simp at hp
end
end Go.Proofs.YtkfbldogmgofoaaGreatDoor
namespace Go.Proofs.YtkfbldogmgofoaaGreatDoor
open Mir Go.ChangeShapes Go.WideShapes Go.ChangeAt Go.RowKit
def specialT:List (List UInt8):=[[78,82],[78,70],[70,83],[79,70,83],[79,82,83],[70,73,76,69,78,65,77,69],[82,83,84,65,82,84],[82,76,69,78,71,84,72]]
def txtRow (l:List (List UInt8)):Array Value:=(l.map fun s=>Value.string ⟨s.toArray⟩).toArray
def hR (m:Int):H:=fun b =>
 if b = 1 then some (.cells [.sl 601 0 1 16] true) else if b = 2 then some (.cells [.sl 602 0 1 13] true) else if b = 3 then some (.cells [.sl 603 0 1 6] true)
 else if b = 0 then some (.cells [.sl 600 0 1 8] true) else if b = 4 then some (.cells [.int .i64 m] true)
 else if b = 601 then some (.cells (wordsT.map .str) true) else if b = 602 then some (.cells (builtinsT.map .str) true) else if b = 603 then some (.cells (bannedT.map .str) true) else if b = 600 then some (.cells (specialT.map .str) true) else none
theorem OR_one {W:World} {μ:Mu} {g:Nat} {v:Value} {t:TypeId} {fr:Nat × Nat} {x:V} (h1:v.oneCell' = true) (h2:VR μ x v):OR Tryz.prog μ ⟨g,0,1⟩ (.cells [x] true) (.cells #[v] t fr):=by
 refine ⟨_,t,fr,rfl,rfl,by simp,fun i y hy=>?_,fun h=>by cases h⟩
 have hi:i = 0:=by have:=(List.getElem?_eq_some_iff.1 hy).1; simpa using this
 subst hi; cases hy
 exact ⟨v,rfl,h2,h1⟩
theorem OR_txt {W:World} {μ:Mu} {g:Nat} {ss:List (List UInt8)} {L:Mir.Loc} (h:TextsAt W g ss L):∃ x,W.heap[L.B]? = some x ∧ OR Tryz.prog μ L (.cells (ss.map .str) true) x:=by
 obtain ⟨c,el,fr,h1,h2,h3,h4⟩:=h.row
 refine ⟨_,h1,c,el,fr,rfl,h2,by rw [List.length_map]; exact h3,fun i y hy=>?_,fun h=>by cases h⟩
 rw [List.getElem?_map] at hy
 cases e:ss[i]? with
 | none=>rw [e] at hy; cases hy
 | some s=>rw [e,Option.map_some,Option.some.injEq] at hy; subst hy; exact ⟨_,h4 i s e,.str s,rfl⟩
theorem G_lt {b:Nat} (h:b < 8):b < Tryz.prog.globals.size:=Nat.lt_of_lt_of_le h (of_decide_eq_true (by kernel_rfl))
theorem G_le:Tryz.prog.globals.size ≤ 8:=of_decide_eq_true (by kernel_rfl)
end Go.Proofs.YtkfbldogmgofoaaGreatDoor
namespace Go.Proofs.YtkfbldogmgofoaaGreatDoor
open Mir Go.ChangeShapes Go.WideShapes Go.ChangeAt Go.RowKit
abbrev laidsP:List (String × DataW Unit):=[("math/bits.deBruijn32tab",Rows.laid_math_bits_deBruijn32tab),("math/bits.deBruijn64tab",Rows.laid_math_bits_deBruijn64tab),("internal/strconv.uint64pow10",Rows.laid_internal_strconv_uint64pow10),("scribe/lex.words",Rows.laid_scribe_lex_words),("scribe/lex.builtins",Rows.laid_scribe_lex_builtins),("scribe/lex.banned",Rows.laid_scribe_lex_banned)]
noncomputable def numsOf (d:DataW Unit) (k:IntKind):Array Value:=match d with
 | .agg l=>(l.map fun | .lit (.int _ z)=>Value.int k z | _=>.int k 0).toArray
 | _=>#[]
noncomputable def laidWorldP (os:Os):World :=
 let N:=(World.settled Tryz.prog os).heap.size
 let w0:=World.holding Tryz.prog os ⟨#[.cells (txtRow wordsT) 9,.cells (txtRow builtinsT) 9,.cells (txtRow bannedT) 9],#[],[]⟩
 let put (h:Array Obj) (g:Nat) (cs:Array Value):Array Obj:=h.modify g fun
  | .cells _ t frozen=>.cells cs t frozen
  | o=>o
 let h0:=put w0.heap 1 #[.slice (some ⟨N,0,none⟩) 16 16]
 let h1:=put h0 2 #[.slice (some ⟨N + 1,0,none⟩) 13 13]
 let h2:=put h1 3 #[.slice (some ⟨N + 2,0,none⟩) 6 6]
 let h3:=put h2 6 (numsOf Rows.laid_math_bits_deBruijn32tab .u8)
 let h4:=put h3 7 (numsOf Rows.laid_math_bits_deBruijn64tab .u8)
 let h5:=put h4 5 (numsOf Rows.laid_internal_strconv_uint64pow10 .u64)
 { w0 with heap:=h5 }
theorem laidWorldP_met (os:Os) (args:Array Value):laidMet Tryz.prog laidsP ((laidWorldP os).forCall (fun _ _=>0) ⟨#[],args,[]⟩).memory :=
 laidMet_of_run' 8 (by kernel_rfl) (by kernel_rfl)
structure StartP (W:World) (L1 L2 L3:Mir.Loc) (m:Int):Prop where
 words:TextsAt W 1 wordsT L1
 builtins:TextsAt W 2 builtinsT L2
 banned:TextsAt W 3 bannedT L3
 maxLen:∃ t fr,W.heap[4]? = some (.cells #[.int .i64 m] t fr)
theorem startP {W:World} (h0:laidMet Tryz.prog laidsP W) (hsh:W.ShapedOpen Tryz.prog):∃ L1 L2 L3 m,StartP W L1 L2 L3 m:=by
 have h:=h0.tail.tail.tail
 obtain ⟨L1,h1⟩:=laid_texts (ss:=wordsT) (g:=1) (t:=37) (e:=9) (zero:=#[.slice none 0 0]) h hsh (by kernel_rfl) (by kernel_rfl) (by kernel_rfl) (by kernel_rfl) (by kernel_rfl) (of_decide_eq_true (by kernel_rfl)) (by kernel_rfl) rfl (by kernel_rfl) (by kernel_rfl) (by decide)
 obtain ⟨L2,h2⟩:=laid_texts (ss:=builtinsT) (g:=2) (t:=37) (e:=9) (zero:=#[.slice none 0 0]) h.tail hsh (by kernel_rfl) (by kernel_rfl) (by kernel_rfl) (by kernel_rfl) (by kernel_rfl) (of_decide_eq_true (by kernel_rfl)) (by kernel_rfl) rfl (by kernel_rfl) (by kernel_rfl) (by decide)
 obtain ⟨L3,h3⟩:=laid_texts (ss:=bannedT) (g:=3) (t:=37) (e:=9) (zero:=#[.slice none 0 0]) h.tail.tail hsh (by kernel_rfl) (by kernel_rfl) (by kernel_rfl) (by kernel_rfl) (by kernel_rfl) (of_decide_eq_true (by kernel_rfl)) (by kernel_rfl) rfl (by kernel_rfl) (by kernel_rfl) (by decide)
 obtain ⟨m,hm⟩:=cell_of_shapedOpen_int (P:=Tryz.prog) (g:=4) (t:=3) (zero:=#[.int .i64 0]) hsh (of_decide_eq_true (by kernel_rfl)) (by kernel_rfl) rfl (by kernel_rfl) (by kernel_rfl) (by kernel_rfl)
 obtain ⟨cs,hh,hs,_⟩:=hsh.1 4 #[.int .i64 0] 3 (of_decide_eq_true (by kernel_rfl)) (by kernel_rfl)
 have hcs:cs = #[.int .i64 m]:=by
  unfold World.cell? at hm
  simp only [hh,Option.isSome_none,Bool.false_eq_true,if_false] at hm
  have hs:cs.size = 1:=hs
  apply Array.ext_getElem?
  intro i
  rcases Nat.eq_zero_or_pos i with c | c
  ·subst c; rw [hm]; rfl
  ·rw [Array.getElem?_eq_none (by omega),Array.getElem?_eq_none (by simp; omega)]
 subst hcs
 exact ⟨L1,L2,L3,m,h1,h2,h3,⟨_,_,hh⟩⟩
def hP (m:Int):H:=fun b =>
 if b = 1 then some (.cells [.sl 601 0 1 16] true) else if b = 2 then some (.cells [.sl 602 0 1 13] true) else if b = 3 then some (.cells [.sl 603 0 1 6] true)
 else if b = 4 then some (.cells [.int .i64 m] true)
 else if b = 601 then some (.cells (wordsT.map .str) true) else if b = 602 then some (.cells (builtinsT.map .str) true) else if b = 603 then some (.cells (bannedT.map .str) true) else none
noncomputable def muP (L1 L2 L3:Mir.Loc):Mu:=fun b=>if b < Tryz.prog.globals.size then some ⟨b,0,1⟩ else if b = 601 then some L1 else if b = 602 then some L2 else if b = 603 then some L3 else none
theorem P_start {W:World} {L1 L2 L3:Mir.Loc} {m:Int} (S:StartP W L1 L2 L3 m):R Tryz.prog (muP L1 L2 L3) (hP m) W:=by
 have hG:=G_le
 have e1:muP L1 L2 L3 601 = some L1:=by unfold muP; rw [if_neg (by omega),if_pos rfl]
 have e2:muP L1 L2 L3 602 = some L2:=by unfold muP; rw [if_neg (by omega),if_neg (by omega),if_pos rfl]
 have e3:muP L1 L2 L3 603 = some L3:=by unfold muP; rw [if_neg (by omega),if_neg (by omega),if_neg (by omega),if_pos rfl]
 have eg:∀ b,b < 8 → muP L1 L2 L3 b = some ⟨b,0,1⟩:=fun b hb=>by unfold muP; rw [if_pos (G_lt hb)]
 refine R_ro ⟨1000,fun b hb=>?_⟩ (fun g hg=>⟨1,by unfold muP; rw [if_pos hg]⟩) fun b o hb=>?_
 ·unfold muP; rw [if_neg (by omega),if_neg (by omega),if_neg (by omega),if_neg (by omega)]
 ·unfold hP at hb
  split at hb
  ·rename_i e; subst e; cases hb
   obtain ⟨v,t,fr,q1,q2,q3⟩:=S.words.var
   exact ⟨by omega,rfl,_,_,eg _ (by omega),q1,OR_one (W:=W) q2 (q3 _ _ e1)⟩
  split at hb
  ·rename_i e; subst e; cases hb
   obtain ⟨v,t,fr,q1,q2,q3⟩:=S.builtins.var
   exact ⟨by omega,rfl,_,_,eg _ (by omega),q1,OR_one (W:=W) q2 (q3 _ _ e2)⟩
  split at hb
  ·rename_i e; subst e; cases hb
   obtain ⟨v,t,fr,q1,q2,q3⟩:=S.banned.var
   exact ⟨by omega,rfl,_,_,eg _ (by omega),q1,OR_one (W:=W) q2 (q3 _ _ e3)⟩
  split at hb
  ·rename_i e; subst e; cases hb
   obtain ⟨t,fr,q1⟩:=S.maxLen
   exact ⟨by omega,rfl,_,_,eg _ (by omega),q1,OR_one (W:=W) rfl (.int _ _)⟩
  split at hb
  ·rename_i e; subst e; cases hb
   obtain ⟨x,q1,q2⟩:=OR_txt (μ:=muP L1 L2 L3) S.words
   exact ⟨by omega,rfl,_,x,e1,q1,q2⟩
  split at hb
  ·rename_i e; subst e; cases hb
   obtain ⟨x,q1,q2⟩:=OR_txt (μ:=muP L1 L2 L3) S.builtins
   exact ⟨by omega,rfl,_,x,e2,q1,q2⟩
  split at hb
  ·rename_i e; subst e; cases hb
   obtain ⟨x,q1,q2⟩:=OR_txt (μ:=muP L1 L2 L3) S.banned
   exact ⟨by omega,rfl,_,x,e3,q1,q2⟩
  ·cases hb
theorem hP_ro {m:Int}:∀ b o,hP m b = some o → o.ro = true:=by
 intro b o hb
 unfold hP at hb
 repeat' (split at hb)
 all_goals first | (cases hb; rfl) | (cases hb)
end Go.Proofs.YtkfbldogmgofoaaGreatDoor
namespace Go.Proofs.YtkfbldogmgofoaaGreatDoor
open Mir
variable {h:H} {Q:V → H → Prop} {m:Int}
theorem words_P:Words (hP m):=⟨⟨rfl,rfl⟩,⟨rfl,rfl⟩,rfl,rfl⟩
def awk1:Tree ⊕ (Nat × Nat) → Bool
 | .inl t=>shortT t && (spellT t == [40,112,114,111,103,114,97,109,32,40,98,101,103,105,110,32,40,98,108,111,99,107,32,40,101,120,112,114,32,40,97,115,115,105,103,110,32,49,58,61,32,40,118,97,114,32,49,58,120,41,32,40,99,97,116,32,40,118,97,114,32,49,58,97,41,32,40,97,100,100,32,40,118,97,114,32,49,58,98,41,32,40,110,117,109,32,49,58,49,41,41,41,41,41,41,41,41])
 | .inr _=>false
theorem aw1:∃ t,parsedT [66,69,71,73,78,123,120,61,97,32,98,43,49,125] = .inl t ∧ shortT t = true ∧ spellT t = [40,112,114,111,103,114,97,109,32,40,98,101,103,105,110,32,40,98,108,111,99,107,32,40,101,120,112,114,32,40,97,115,115,105,103,110,32,49,58,61,32,40,118,97,114,32,49,58,120,41,32,40,99,97,116,32,40,118,97,114,32,49,58,97,41,32,40,97,100,100,32,40,118,97,114,32,49,58,98,41,32,40,110,117,109,32,49,58,49,41,41,41,41,41,41,41,41]:=by
 have e:awk1 (parsedT [66,69,71,73,78,123,120,61,97,32,98,43,49,125]) = true:=by decide +kernel
 generalize parsedT [66,69,71,73,78,123,120,61,97,32,98,43,49,125] = r at e
 cases r with
 | inl t=>exact ⟨t,rfl,(Bool.and_eq_true_iff.1 e).1,eq_of_beq (Bool.and_eq_true_iff.1 e).2⟩
 | inr x=>cases e
theorem aw2:parsedT [66,69,71,73,78,123,120,61,125] = .inr (8,9):=by
 have e:(match parsedT [66,69,71,73,78,123,120,61,125] with | .inl _=>false | .inr x=>x == (8,9)) = true:=by decide +kernel
 generalize parsedT [66,69,71,73,78,123,120,61,125] = r at e
 cases r with
 | inl t=>cases e
 | inr x=>rw [eq_of_beq e]
theorem _root_.Mir.Sub.add {h':H} (s:Sub h h') {b:Nat} (hb:h' b = none) {o:AObj}:Sub h (hadd h' b o):=s.put (s.none hb)
theorem NodeV.up {h0 h':H} {p:Nat} {t:Tree} {v:V} (k:NodeV h0 h p t v) (s:Sub h h'):NodeV h0 h' p t v:=NodeV.move (fun c o z n hc=>⟨z,s _ _ hc⟩) k
theorem KidsV.up {h0 h':H} {p:Nat} {t:List Tree} {v:V} (k:KidsV h0 h p t v) (s:Sub h h'):KidsV h0 h' p t v:=KidsV.move (fun c o z n hc=>⟨z,s _ _ hc⟩) k
theorem Words.of {h:H} (hs:Sub (hP m) h):Words h:=words_P.sub hs
theorem awake13_ac (hs:Sub (hP m) h) (hq:∀ h',Sub h h' → Q (.bool true) h'):AC pg (.fn 21) [] h Q:=by
 obtain ⟨t1,e1,x1,y1⟩:=aw1
 refine AC.fn' (g:=g21) rfl (by simp only [List.length_cons,List.length_nil,g21]; decide) ?_; simp only [g21,Mir.Ab.all]
 refine W0 ?_
 refine Parse_ac (Words.of hs) (mm:=m) (hs _ _ rfl) (by decide) (fun a e h' hp _=>by rw [e1] at hp; cases hp) fun t v p h1 hp s1 hv=>?_
 rw [e1] at hp; cases hp
 obtain ⟨kv,rfl,kb⟩:=hv.inv
 have kf:=kb.flat
 refine W1 kf ?_
 intro b1 hb1
 have K1:=hv.put (o:=.cells [.str t1.op,.str t1.text,.int .i64 t1.at',kv] false) hb1
 have s1':Sub h (hadd h1 b1 (.cells [.str t1.op,.str t1.text,.int .i64 t1.at',kv] false)):=s1.add hb1
 have c1:hadd h1 b1 (.cells [.str t1.op,.str t1.text,.int .i64 t1.at',kv] false) b1 = some (.cells [.str t1.op,.str t1.text,.int .i64 t1.at',kv] false):=hadd_same
 refine W1 kf ?_
 generalize hadd h1 b1 (.cells [.str t1.op,.str t1.text,.int .i64 t1.at',kv] false) = g1 at K1 s1' c1 ⊢
 have sg:Sub (hP m) g1:=fun x o hx=>s1' _ _ (hs _ _ hx)
 refine Parse_ac (Words.of sg) (mm:=m) (sg _ _ rfl) (by decide) (fun a e h2 hp s2=>?_) fun t v p h' hp _ _=>by rw [aw2] at hp; cases hp
 rw [aw2] at hp; cases hp
 refine W0 ?_
 intro b2 hb2
 have c2:=(s2.add (o:=.cells Z4 false) hb2) _ _ c1
 have s3:Sub g1 (hadd h2 b2 (.cells Z4 false)):=s2.add hb2
 unfold Z4 at c2 s3
 refine W2 c2 kf ?_
 refine print_ac (K1.up s3) (by rw [y1]; decide) x1 fun h3 s4=>?_
 rw [y1]
 refine W0 ?_
 exact ⟨_,Sub.refl,hq _ fun x o hx=>s4 _ _ (s3 _ _ (s1' _ _ hx))⟩
end Go.Proofs.YtkfbldogmgofoaaGreatDoor
namespace Mir
mutual
inductive LikeT:Tree → Tree → Prop
 | mk {o t:Txt} {a b:Nat} {l m:List Tree}:l.length ≤ 100000 → LikeTs l m → LikeT (.nd o t a l) (.nd o t b m)
inductive LikeTs:List Tree → List Tree → Prop
 | nil:LikeTs [] []
 | cons {x y:Tree} {l m:List Tree}:LikeT x y → LikeTs l m → LikeTs (x :: l) (y :: m)
end
theorem LikeTs.len:∀ {l m:List Tree},LikeTs l m → l.length = m.length
 | _,_,.nil=>rfl
 | _,_,.cons _ k=>congrArg (· + 1) k.len
theorem LikeTs.get:∀ {l m:List Tree},LikeTs l m → ∀ i,i < l.length → LikeT (l.getD i .zero) (m.getD i .zero)
 | _,_,.nil,i,h=>absurd h (Nat.not_lt_zero _)
 | _,_,.cons a k,0,_=>a
 | _,_,.cons a k,i + 1,h=>k.get i (by simpa using h)
mutual
theorem LikeT.symm:∀ {a b:Tree},LikeT a b → LikeT b a
 | _,_,.mk hl k=>.mk (by rw [← k.len]; exact hl) k.symm
theorem LikeTs.symm:∀ {l m:List Tree},LikeTs l m → LikeTs m l
 | _,_,.nil=>.nil
 | _,_,.cons a k=>.cons a.symm k.symm
end
theorem LikeTs.app:∀ {l m l' m':List Tree},LikeTs l m → LikeTs l' m' → LikeTs (l ++ l') (m ++ m')
 | _,_,_,_,.nil,k=>k
 | _,_,_,_,.cons a k,k'=>.cons a (k.app k')
end Mir
namespace Go.Proofs.YtkfbldogmgofoaaGreatDoor
open Mir
variable {h0 h1 h:H} {Q:V → H → Prop} {p q:Nat}
theorem kids_get {l:List Tree} {kv:V} (k:KidsV h0 h p l kv) {i:Nat} (hi:i < l.length):∃ b cs kv',kv = .sl b 0 4 l.length ∧ h b = some (.cells cs false) ∧ (cs.drop (i * 4)).take 4 = nodeC (l.getD i .zero) kv' ∧ KidsV h0 h p (l.getD i .zero).kids kv' ∧ cs.length = 4 * l.length:=by
 cases k with
 | nil=>cases hi
 | sl q1 q2 q3 q4 q5 =>
   obtain ⟨kv',e4,k5⟩:=q5.get hi
   exact ⟨_,_,kv',rfl,q4,e4,k5,q5.len⟩
theorem same_ac:∀ (N:Nat) (a b:Tree),tsz a < N → ∀ {v w:V} {h:H} {Q:V → H → Prop},NodeV h0 h p a v → NodeV h1 h q b w → LikeT a b →
  (∀ h',Sub h h' → Q (.bool true) h') → AC pg (.fn 22) [v,w] h Q
 | 0,_,_,hN,_,_,_,_,_,_,_,_=>absurd hN (Nat.not_lt_zero _)
 | N + 1,.nd op tx a l,.nd op' tx' b m,hN,v,w,h,Q,Ka,Kb,hA,hq=>by
   cases hA with | mk hk hl =>
   have len:=hl.len
   obtain ⟨kv,rfl,ka⟩:=Ka.inv
   obtain ⟨kw,rfl,kb⟩:=Kb.inv
   simp only [Tree.op,Tree.text,Tree.at',Tree.kids] at ka kb ⊢
   have fa:=ka.flat
   have fb:=kb.flat
   refine AC.fn' (g:=g22) rfl (by simp only [List.length_cons,List.length_nil,g22]; decide) ?_; simp only [g22,Mir.Ab.all]
   refine W2 fa fb ?_
   intro b2 hb2
   have sa:=(Sub.refl (h:=h)).add (o:=.cells [.str op,.str tx,.int .i64 a,kv] false) hb2
   have c2:hadd h b2 (.cells [.str op,.str tx,.int .i64 a,kv] false) b2 = some (.cells [.str op,.str tx,.int .i64 a,kv] false):=hadd_same
   refine W2 fa fb ?_
   generalize hadd h b2 (.cells [.str op,.str tx,.int .i64 a,kv] false) = g2 at sa c2 ⊢
   intro b3 hb3
   have sb:=(Sub.refl (h:=g2)).add (o:=.cells [.str op,.str tx,.int .i64 b,kw] false) hb3
   have c3:hadd g2 b3 (.cells [.str op,.str tx,.int .i64 b,kw] false) b3 = some (.cells [.str op,.str tx,.int .i64 b,kw] false):=hadd_same
   have c2':=sb _ _ c2
   refine W2 fa fb ?_
   generalize hadd g2 b3 (.cells [.str op,.str tx,.int .i64 b,kw] false) = g3 at sb c3 c2' ⊢
   have ka':=(ka.up sa).up sb
   have kb':=(kb.up sa).up sb
   refine W4 c2' c3 fa fb ?_
   have all:=ka'.ll
   have bll:=kb'.ll
   refine AC.fn' (g:=g36) rfl (by simp only [List.length_cons,List.length_nil,g36]; decide) ?_; simp only [g36,Mir.Ab.all]
   refine W3 all bll len ?_
   refine E.cut AC.mono (fun ex a' h'=>ex = .exit 0 ∧ a'.d = [] ∧ Sub g3 h') ?_ ?_
   ·refine E.loopX AC.mono (fun (i:Nat) a' h'=>i ≤ l.length ∧ Sub g3 h' ∧ a'.d = [] ∧ a'.t 1 = kw ∧ a'.t 2 = .fn 22 [] [] ∧ a'.t 15 = kv ∧ a'.t 16 = .int .i64 l.length ∧ a'.t 17 = .int .i64 i) (fun i=>l.length - i) 0 ?_ ?_
    ·exact ⟨Nat.zero_le _,Sub.refl,rfl,rfl,rfl,rfl,by rw [len]; rfl,rfl⟩
    ·rintro i ⟨t,ds⟩ h4 ⟨hi,s4,hd,t1,t2,t15,t16,t17⟩
     simp only at hd t1 t2 t15 t16 t17; subst hd
     by_cases ci:i < l.length
     ·obtain ⟨x,cs,kx,ex,hx,tx,kkx,lx⟩:=kids_get (ka'.up s4) ci
      obtain ⟨y,ds,ky,ey,hy,ty,kky,ly⟩:=kids_get (kb'.up s4) (i:=i) (by omega)
      have li:=hl.get i ci
      have sz:=size_get ci
      generalize l.getD i .zero = tm at tx kkx li sz
      generalize m.getD i .zero = tn at ty kky li
      have fx:=kkx.flat
      have fy:=kky.flat
      refine W8 t1 t2 t15 t16 t17 ex hx (And.intro tx lx) ?_
      intro b8 hb8
      have s8:=s4.add (o:=.cells (nodeC tm kx) false) hb8
      have d8:hadd h4 b8 (.cells (nodeC tm kx) false) b8 = some (.cells (nodeC tm kx) false):=hadd_same
      have hy8:hadd h4 b8 (.cells (nodeC tm kx) false) y = some (.cells ds false):=(Sub.refl.add hb8) _ _ hy
      have kkx8:=kkx.put (o:=.cells (nodeC tm kx) false) hb8
      have kky8:=kky.put (o:=.cells (nodeC tm kx) false) hb8
      refine W7 t1 t2 t15 t16 t17 ex fx ?_
      generalize hadd h4 b8 (.cells (nodeC tm kx) false) = g8 at s8 d8 hy8 kkx8 kky8 ⊢
      refine W8 t1 t2 t15 t16 t17 ey hy8 (And.intro ty (And.intro ly len)) ?_
      intro b9 hb9
      have s9:=s8.add (o:=.cells (nodeC tn ky) false) hb9
      have d9:hadd g8 b9 (.cells (nodeC tn ky) false) b9 = some (.cells (nodeC tn ky) false):=hadd_same
      have d8':=((Sub.refl (h:=g8)).add (o:=.cells (nodeC tn ky) false) hb9) _ _ d8
      have kkx9:=kkx8.put (o:=.cells (nodeC tn ky) false) hb9
      have kky9:=kky8.put (o:=.cells (nodeC tn ky) false) hb9
      refine W3 t1 t2 fy ?_
      generalize hadd g8 b9 (.cells (nodeC tn ky) false) = g9 at s9 d9 d8' kkx9 kky9 ⊢
      refine W6 t1 t2 d8' d9 fx fy ?_
      refine same_ac N tm tn (by unfold tsz at hN; omega) (NodeV.of kkx9) (NodeV.of kky9) li fun h5 s5=>?_
      refine W5 t1 t2 t15 t16 t17 ?_
      exact ⟨i + 1,by omega,by omega,fun x o hx=>s5 _ _ (s9 _ _ hx),by simp [ex,ey,len]⟩
     ·refine W5 t1 t2 t15 t16 t17 ?_
      exact s4
   ·rintro ex ⟨t,ds⟩ h4 ⟨rfl,hd,s4⟩
    simp only at hd; subst hd
    refine W0 ?_
    exact ⟨_,Sub.refl,_,Sub.refl,hq _ fun x o hx=>s4 _ _ (sb _ _ (sa _ _ hx))⟩
end Go.Proofs.YtkfbldogmgofoaaGreatDoor
namespace Go.Proofs.YtkfbldogmgofoaaGreatDoor
open Mir
structure Two (T T':List Tokn) (N k d n:Nat):Prop where
 W:TkOk T N
 len:T.length = n + 1
 len':n + k + 1 ≤ T'.length
 big:T.length ≤ 100000
 tk:∀ j,j < n → (T'.getD (j + k) tkz).k = (T.getD j tkz).k
 tt:∀ j,j < n → (T'.getD (j + k) tkz).t = (T.getD j tkz).t
 stop:(T'.getD (n + k) tkz).k = 0 ∨ (T'.getD (n + k) tkz).k = 1 ∨ (T'.getD (n + k) tkz).k = 8 ∧ (T'.getD (n + k) tkz).t = [41]
structure Rel (T:List Tokn) (N k d:Nat) (s s':PS):Prop where
 ok:SOk T N s
 e:s.err = 0
 e':s'.err = 0
 i:s'.i = s.i + k
 dp:s'.deep = s.deep + d
 fl:s'.flat = s.flat
 low:s'.deep ≤ 50
def To (T:List Tokn) (N k d:Nat) (s s':PS):Prop:=(0 < d ∧ s'.err = 14) ∨ Rel T N k d s s'
theorem back {a b:PS} (f:Kp a a → Kp a b) (e:b.err = 0):a.err = 0:=Classical.byContradiction fun h=>(f (Kp.refl h)).n e
theorem fore {a b:PS} (f:Kp a a → Kp a b) (e:a.err = 14):b.err = 14:=(f (Kp.refl (by omega))).eq.trans e
variable {T T':List Tokn} {N k d n:Nat} {s s':PS}
theorem Rel.le (X:Two T T' N k d n) (r:Rel T N k d s s'):s.i ≤ n:=by have:=r.ok.lt; have:=X.len; omega
theorem Rel.k0 (X:Two T T' N k d n) (r:Rel T N k d s s') (h:s.i = n):(s.cur T).k = 0:=by
 have:=X.W.last
 rw [X.len] at this
 rw [cur_o r.e,h]; exact this
theorem Rel.lt (X:Two T T' N k d n) (r:Rel T N k d s s') (h:(s.cur T).k ≠ 0):s.i < n:=by
 have:=r.le X
 by_cases c:s.i = n
 ·exact absurd (r.k0 X c) h
 ·omega
theorem Rel.curk (X:Two T T' N k d n) (r:Rel T N k d s s') (h:s.i < n):(s'.cur T').k = (s.cur T).k:=by
 rw [cur_o r.e,cur_o r.e',r.i]; exact X.tk _ h
theorem Rel.curt (X:Two T T' N k d n) (r:Rel T N k d s s') (h:s.i < n):(s'.cur T').t = (s.cur T).t:=by
 rw [cur_o r.e,cur_o r.e',r.i]; exact X.tt _ h
theorem Rel.stop (X:Two T T' N k d n) (r:Rel T N k d s s') (h:s.i = n):(s'.cur T').k = 0 ∨ (s'.cur T').k = 1 ∨ (s'.cur T').k = 8 ∧ (s'.cur T').t = [41]:=by
 rw [cur_o r.e',r.i,h]; exact X.stop
theorem Rel.atL (X:Two T T' N k d n) (r:Rel T N k d s s') (h:s.i < n) (l:List Txt):s'.isAt T' l = s.isAt T l:=by
 unfold PS.isAt; rw [r.curk X h,r.curt X h]
theorem Rel.at (X:Two T T' N k d n) (r:Rel T N k d s s') (l:List Txt) (hl:[41] ∉ l):s'.isAt T' l = s.isAt T l:=by
 by_cases c:s.i < n
 ·exact r.atL X c l
 ·have c:s.i = n:=by have:=r.le X; omega
  unfold PS.isAt
  rw [r.k0 X c]
  rcases r.stop X c with e | e | ⟨e,e'⟩
  ·rw [e]; rfl
  ·rw [e]; rfl
  ·rw [e,e']; simp [hl]
theorem Rel.ltA (X:Two T T' N k d n) (r:Rel T N k d s s') {l:List Txt} (h:s.isAt T l = true):s.i < n:=r.lt X (by rcases at_k h with e | e <;> omega)
theorem Rel.step (X:Two T T' N k d n) (r:Rel T N k d s s') (h:s.i < n):Rel T N k d (s.step T) (s'.step T'):=by
 have ok:=(step_fwd X.W r.ok).ok
 have h1:s.step T = { s with i:=s.i + 1 }:=by unfold PS.step; rw [if_pos ⟨r.e,by rw [X.len]; omega⟩]
 have h2:s'.step T' = { s' with i:=s'.i + 1 }:=by unfold PS.step; rw [if_pos ⟨r.e',by have:=X.len'; have:=r.i; omega⟩]
 rw [h1] at ok ⊢
 rw [h2]
 exact ⟨ok,r.e,r.e',by show s'.i + 1 = s.i + 1 + k; have:=r.i; omega,r.dp,r.fl,r.low⟩
theorem Rel.stepA (X:Two T T' N k d n) (r:Rel T N k d s s') {l:List Txt} (h:s.isAt T l = true):Rel T N k d (s.step T) (s'.step T'):=r.step X (r.ltA X h)
theorem Rel.expect (X:Two T T' N k d n) (r:Rel T N k d s s') (x:Txt) (h:(s.expect T x).err = 0):s.isAt T [x] = true ∧ Rel T N k d (s.expect T x) (s'.expect T' x):=by
 unfold PS.expect at h ⊢
 cases c:s.isAt T [x]
 ·rw [c,if_neg (by decide)] at h
  exact absurd h (fail_adv X.W r.ok)
 ·rw [if_pos rfl,r.atL X (r.ltA X c),c,if_pos rfl]
  exact ⟨rfl,r.stepA X c⟩
theorem linesN_rel (X:Two T T' N k d n):∀ (K K':Nat) {s s':PS},Rel T N k d s s' → n ≤ s.i + K → n ≤ s.i + K' → (linesN T K s).i ≠ n → Rel T N k d (linesN T K s) (linesN T' K' s')
 | 0,K',s,s',r,h,_,hn=>by
   have:=r.le X
   exact absurd (show s.i = n by omega) hn
 | K + 1,K',s,s',r,h,h',hn=>by
   rw [linesN] at hn ⊢
   by_cases c:(s.cur T).k = 1
   ·have lt:=r.lt X (by omega)
    have st:(s.step T).i = s.i + 1:=by unfold PS.step; rw [if_pos ⟨r.e,by rw [X.len]; omega⟩]
    rw [if_pos c] at hn ⊢
    obtain ⟨K',rfl⟩:∃ j,K' = j + 1:=⟨K' - 1,by omega⟩
    rw [linesN,if_pos (by rw [r.curk X lt]; exact c)]
    exact linesN_rel X K K' (r.step X lt) (by omega) (by omega) hn
   ·rw [if_neg c] at hn ⊢
    have lt:s.i < n:=by have:=r.le X; omega
    cases K' with
    | zero=>exact r
    | succ K'=>rw [linesN,if_neg (by rw [r.curk X lt]; exact c)]; exact r
theorem Rel.lines (X:Two T T' N k d n) (r:Rel T N k d s s') (h:(s.lines T).i ≠ n):Rel T N k d (s.lines T) (s'.lines T') :=
 linesN_rel X _ _ r (by have:=X.len; omega) (by have:=X.len'; omega) h
theorem Rel.linesE (X:Two T T' N k d n) (r:Rel T N k d s s'):(s.lines T).err = 0:=by
 have f:=lines_fwd X.W r.ok
 unfold PS.lines
 have:∀ K (s:PS),s.err = 0 → (linesN T K s).err = 0:=fun K=>by
  induction K with
  | zero=>exact fun s h=>h
  | succ K ih =>
    intro s h
    rw [linesN]
    split
    ·refine ih _ ?_
     unfold PS.step; split <;> exact h
    ·exact h
 exact this _ _ r.e
theorem Rel.name (X:Two T T' N k d n) (r:Rel T N k d s s') (ks:List Nat) (h0:0 ∉ ks) (h:(s.name T ks).2.err = 0) :
  s.i < n ∧ (s'.name T' ks).1.t = (s.name T ks).1.t ∧ Rel T N k d (s.name T ks).2 (s'.name T' ks).2:=by
 unfold PS.name at h ⊢
 by_cases c:(s.cur T).k ∈ ks
 ·have lt:=r.lt X (fun e=>h0 (by rw [← e]; exact c))
  rw [if_pos c,if_pos (by rw [r.curk X lt]; exact c)]
  exact ⟨lt,r.curt X lt,r.step X lt⟩
 ·rw [if_neg c] at h
  exact absurd h (fail_adv X.W r.ok)
theorem Rel.flat (r:Rel T N k d s s') (f:Bool):Rel T N k d { s with flat:=f } { s' with flat:=f }:=⟨⟨r.ok.lt,r.ok.code,r.ok.bad,r.ok.low⟩,r.e,r.e',r.i,r.dp,rfl,r.low⟩
theorem Rel.down (X:Two T T' N k d n) (r:Rel T N k d s s') (h:(s.down T).err = 0):To T N k d (s.down T) (s'.down T'):=by
 have ok:=(down_ok X.W r.ok).1
 have c:¬ (50 < s.deep + 1 ∧ s.err = 0):=fun c=>by unfold PS.down at h; rw [if_pos c] at h; cases h
 have h1:s.down T = { s with deep:=s.deep + 1 }:=by unfold PS.down; rw [if_neg c]
 have e:=r.e
 have dp:=r.dp
 by_cases c':50 < s'.deep + 1
 ·refine .inl ⟨by omega,?_⟩
  unfold PS.down; rw [if_pos ⟨c',r.e'⟩]
 ·have h2:s'.down T' = { s' with deep:=s'.deep + 1 }:=by unfold PS.down; rw [if_neg (fun x=>c' x.1)]
  rw [h1] at ok ⊢
  rw [h2]
  exact .inr ⟨ok,r.e,r.e',r.i,by show s'.deep + 1 = s.deep + 1 + d; omega,r.fl,by show s'.deep + 1 ≤ 50; omega⟩
theorem Rel.up (r:Rel T N k d s s') (h:0 < s.deep):Rel T N k d s.up s'.up:=by
 have dp:=r.dp
 have low:=r.low
 have:=r.ok.low r.e
 exact ⟨⟨r.ok.lt,r.ok.code,r.ok.bad,fun _=>by show s.deep - 1 ≤ 50; omega⟩,r.e,r.e',r.i,by show s'.deep - 1 = s.deep - 1 + d; omega,r.fl,by show s'.deep - 1 ≤ 50; omega⟩
end Go.Proofs.YtkfbldogmgofoaaGreatDoor
namespace Go.Proofs.YtkfbldogmgofoaaGreatDoor
open Mir
variable {T T':List Tokn} {N k d n m m':Nat} {s s':PS} {M M':PF}
def Both2 (T:List Tokn) (N k d:Nat) (x x':Tree × PS):Prop:=(0 < d ∧ x'.2.err = 14) ∨ (Rel T N k d x.2 x'.2 ∧ LikeT x.1 x'.1)
structure SF (T:List Tokn) (N k d m m':Nat) (M M':PF):Prop where
 fwd:∀ s,SOk T N s → lvl m 100 s → Fwd T N s (M s).2
 adv:∀ s,SOk T N s → lvl m 100 s → Adv s (M s).2
 kf:KF M
 kf':KF M'
 sim:∀ s s',Rel T N k d s s' → s.deep + m = 51 → s'.deep + m' = 51 → (M s).2.err = 0 → Both2 T N k d (M s) (M' s')
theorem lv {s:PS} (ok:SOk T N s) (e:s.err = 0) (h:s.deep + m = 51):lvl m 100 s:=⟨fun _=>h,by have:=ok.low e; omega⟩
theorem SF.lt (F:SF T N k d m m' M M') (X:Two T T' N k d n) (ok:SOk T N s) (e0:s.err = 0) (h:s.deep + m = 51) (e:(M s).2.err = 0):s.i < (M s).2.i ∧ (M s).2.i ≤ n ∧ (M s).2.deep = s.deep ∧ SOk T N (M s).2:=by
 have f:=F.fwd s ok (lv ok e0 h)
 have:=f.ok.lt
 have:=X.len
 rcases F.adv s ok (lv ok e0 h) e0 with a | a
 ·exact ⟨a,by omega,f.deep,f.ok⟩
 ·exact absurd e a
theorem at_of_expect (X:Two T T' N k d n) (ok:SOk T N s) {x:Txt} (h:(s.expect T x).err = 0):s.isAt T [x] = true:=by
 unfold PS.expect at h
 cases c:s.isAt T [x]
 ·rw [c,if_neg (by decide)] at h; exact absurd h (fail_adv X.W ok)
 ·rfl
theorem lt_of_at (X:Two T T' N k d n) (ok:SOk T N s) {l:List Txt} (h:s.isAt T l = true):s.i < n:=by
 have:=not_last X.W (by rcases at_k h with e | e <;> omega) ok
 have:=X.len; omega
theorem at_n (X:Two T T' N k d n) (h:s.i = n) (e:s.err = 0) (l:List Txt):s.isAt T l = false:=by
 have:=X.W.last
 rw [X.len] at this
 unfold PS.isAt
 rw [cur_o e,h,show n + 1 - 1 = n from rfl] at *
 rw [this]; rfl
theorem _root_.Mir.LikeT.op {a b:Tree} (h:LikeT a b):b.op = a.op:=by cases h; rfl
theorem _root_.Mir.LikeT.text {a b:Tree} (h:LikeT a b):b.text = a.text:=by cases h; rfl
theorem _root_.Mir.LikeT.place {a b:Tree} (h:LikeT a b):b.isPlace = a.isPlace:=by unfold Tree.isPlace; rw [h.op]
theorem _root_.Mir.LikeTs.nilIff {l l':List Tree} (h:LikeTs l l'):l' = [] ↔ l = []:=by cases h <;> simp
theorem _root_.Mir.LikeTs.one {a b:Tree} (h:LikeT a b):LikeTs [a] [b]:=.cons h .nil
theorem like_leaf (o:Txt) {t t':Tokn} (e:t'.t = t.t) {l l':List Tree} (h:LikeTs l l') (hl:l.length ≤ 100000):LikeT (leafM o t l) (leafM o t' l'):=by
 unfold leafM; rw [e]; exact .mk hl h
theorem like_leaf0 (o:Txt) {t t':Tokn} (e:t'.t = t.t):LikeT (leafM o t []) (leafM o t' []):=like_leaf o e .nil (by simp)
theorem like1 (o:Txt) {a b:Tree} (h:LikeT a b):LikeT (nodeM o [a]) (nodeM o [b]):=.mk (by simp) (.one h)
theorem like2 (o:Txt) {a b a' b':Tree} (h:LikeT a a') (h2:LikeT b b'):LikeT (nodeM o [a,b]) (nodeM o [a',b']):=.mk (by simp) (.cons h (.one h2))
theorem like3 (o:Txt) {a b c a' b' c':Tree} (h:LikeT a a') (h2:LikeT b b') (h3:LikeT c c'):LikeT (nodeM o [a,b,c]) (nodeM o [a',b',c']):=.mk (by simp) (.cons h (.cons h2 (.one h3)))
theorem listN_s (e:Txt) (K:Nat) (l:List Tree) (s:PS):listN T M e (K + 1) l s = if s.err = 0 ∧ s.isAt T [e] = false then listN T M e K (l ++ [(M (if l = [] then s else (s.expect T [44]).lines T)).1]) ((M (if l = [] then s else (s.expect T [44]).lines T)).2.lines T) else (l,s):=by rw [listN]
theorem listN_lt (X:Two T T' N k d n) (F:SF T N k d m m' M M') (e:Txt) {K:Nat} {l:List Tree} (ok:SOk T N s) (e0:s.err = 0) (h:s.deep + m = 51) (hK:0 < K) (he:(listN T M e K l s).2.isAt T [e] = true):s.i < n:=by
 obtain ⟨K,rfl⟩:∃ j,K = j + 1:=⟨K - 1,by omega⟩
 have l1:=ok.lt
 have l2:=X.len
 refine Classical.byContradiction fun c=>?_
 have c:s.i = n:=by omega
 rw [listN,if_pos ⟨e0,at_n X c e0 _⟩] at he
 dsimp only at he
 have z:∀ y:PS,(M y).2.err ≠ 0 → (listN T M e K (l ++ [(M y).1]) ((M y).2.lines T)).2.isAt T [e] = false:=fun y hy=>((Kp.refl hy).lines.listN e K _).at _
 by_cases el:l = []
 ·rw [if_pos el] at he
  refine absurd he ?_
  rw [z s (fun q=>by have:=F.lt X ok e0 h q; omega)]; decide
 ·rw [if_neg el] at he
  refine absurd he ?_
  have:(s.expect T [44]).err ≠ 0:=fun q=>by have:=lt_of_at X ok (at_of_expect X ok q); omega
  rw [z _ (F.kf _ _ (Kp.refl this).lines).n]; decide
theorem listN_sim (X:Two T T' N k d n) (F:SF T N k d m m' M M') (e:Txt):∀ (K K':Nat) {l l':List Tree} {s s':PS},Rel T N k d s s' → LikeTs l l' → l.length ≤ s.i → n < s.i + K → n < s.i + K' → s.deep + m = 51 → s'.deep + m' = 51 →
  (listN T M e K l s).2.isAt T [e] = true → (0 < d ∧ (listN T' M' e K' l' s').2.err = 14) ∨ (Rel T N k d (listN T M e K l s).2 (listN T' M' e K' l' s').2 ∧ LikeTs (listN T M e K l s).1 (listN T' M' e K' l' s').1 ∧ (listN T M e K l s).1.length ≤ 99999)
 | 0,K',l,l',s,s',r,_,_,h,_,_,_,_=>by have:=r.le X; omega
 | K + 1,0,l,l',s,s',r,_,_,_,h,_,_,_=>by have:=r.le X; omega
 | K + 1,K' + 1,l,l',s,s',r,L,ll,hK,hK',hm,hm',he=>by
   have lt:=listN_lt X F e r.ok r.e hm (Nat.succ_pos _) he
   have len:=X.len
   have big:=X.big
   rw [listN_s] at he
   rw [listN_s e K l s,listN_s e K' l' s',r.atL X lt]
   by_cases ea:s.isAt T [e] = false
   ·rw [if_pos ⟨r.e,ea⟩] at he
    rw [if_pos (c:=s.err = 0 ∧ s.isAt T [e] = false) ⟨r.e,ea⟩,if_pos (c:=s'.err = 0 ∧ s.isAt T [e] = false) ⟨r.e',ea⟩]
    obtain ⟨y,hy⟩:∃ y,y = (if l = [] then s else (s.expect T [44]).lines T):=⟨_,rfl⟩
    obtain ⟨y',hy'⟩:∃ y',y' = (if l' = [] then s' else (s'.expect T' [44]).lines T'):=⟨_,rfl⟩
    rw [← hy] at he
    rw [← hy,← hy']
    have e1:(M y).2.err = 0:=Classical.byContradiction fun c=>by
     rw [((Kp.refl c).lines.listN e K _).at] at he; cases he
    have ey:y.err = 0:=back (fun q=>F.kf _ _ q) e1
    have ry:Rel T N k d y y' ∧ s.i ≤ y.i ∧ y.deep = s.deep ∧ y'.deep = s'.deep:=by
     by_cases el:l = []
     ·rw [if_pos el] at hy; rw [if_pos (L.nilIff.2 el)] at hy'
      rw [hy,hy']; exact ⟨r,Nat.le_refl _,rfl,rfl⟩
     ·rw [if_neg el] at hy; rw [if_neg (fun q=>el (L.nilIff.1 q))] at hy'
      have f1:=expect_fwd X.W r.ok [44]
      have f2:=f1.trans (lines_fwd X.W f1.ok)
      have ee:(s.expect T [44]).err = 0:=back (fun q=>q.lines) (by rw [← hy]; exact ey)
      obtain ⟨_,r1⟩:=r.expect X _ ee
      have:=F.lt X (s:=y) (by rw [hy]; exact f2.ok) ey (by rw [hy,f2.deep]; exact hm) e1
      have r2:=r1.lines X (by rw [← hy]; omega)
      rw [hy,hy']
      refine ⟨r2,f2.le,f2.deep,?_⟩
      have a:=r2.dp; have b:=r.dp; have c:=f2.deep; omega
    obtain ⟨ry,yi,yd,yd'⟩:=ry
    obtain ⟨g1,g2,g3,g4⟩:=F.lt X ry.ok ry.e (by omega) e1
    rcases F.sim _ _ ry (by omega) (by omega) e1 with ⟨d0,b⟩ | ⟨rx,lx⟩
    ·exact .inl ⟨d0,fore (fun q=>q.lines.listN e K' _) b⟩
    ·generalize M y = x at he e1 g1 g2 g3 g4 rx lx
     generalize M' y' = x' at rx lx
     have f3:=lines_fwd X.W rx.ok
     have ez:=rx.linesE X
     have lz:(x.2.lines T).i < n:=by
      refine listN_lt X F e f3.ok ez (by rw [f3.deep]; omega) (K:=K) ?_ he
      have:=f3.le
      have:=f3.ok.lt
      omega
     have rz:=rx.lines X (by omega)
     have q1:=rz.dp; have q2:=r.dp; have q3:=f3.deep; have q4:=f3.le
     exact listN_sim X F e K K' rz (L.app (.one lx)) (by rw [List.length_append]; show l.length + 1 ≤ _; omega) (by omega) (by omega) (by omega) (by omega) he
   ·rw [if_neg (fun q=>ea q.2),if_neg (fun q=>ea q.2)]
    exact .inr ⟨r,L,by show l.length ≤ 99999; have:=r.le X; omega⟩
theorem listM_sim (X:Two T T' N k d n) (F:SF T N k d m m' M M') (e:Txt) (r:Rel T N k d s s') (hm:s.deep + m = 51) (hm':s'.deep + m' = 51) (h:(listM T M e s).2.err = 0) :
  (0 < d ∧ (listM T' M' e s').2.err = 14) ∨ (Rel T N k d (listM T M e s).2 (listM T' M' e s').2 ∧ LikeTs (listM T M e s).1 (listM T' M' e s').1 ∧ (listM T M e s).1.length ≤ 99999):=by
 have r0:=r.flat false
 have f1:=lines_fwd X.W r0.ok
 have e1:=r0.linesE X
 have fl:=r.fl
 unfold listM at h ⊢
 dsimp only at h ⊢
 have f2:=listN_fwd X.W F.fwd e (T.length + 1) (l:=[]) f1.ok (lv f1.ok e1 (by rw [f1.deep]; exact hm))
 have he:(listN T M e (T.length + 1) [] (PS.lines T { s with flat:=false })).2.isAt T [e] = true:=at_of_expect X f2.ok h
 have lt:=listN_lt X F e f1.ok e1 (by rw [f1.deep]; exact hm) (Nat.succ_pos _) he
 have r1:=r0.lines X (by omega)
 have q1:=r1.dp; have q2:=r.dp; have q3:(PS.lines T { s with flat:=false }).deep = s.deep:=f1.deep
 have:=X.len; have:=X.len'
 rcases listN_sim X F e (T.length + 1) (T'.length + 1) r1 .nil (Nat.zero_le _) (by omega) (by omega) (by omega) (by omega) he with ⟨d0,b⟩ | ⟨r2,L,ll⟩
 ·exact .inl ⟨d0,fore (fun q=>(q.expect e).flat _) b⟩
 ·have r3:=(r2.expect X e h).2
  rw [fl]
  exact .inr ⟨r3.flat _,L,ll⟩
theorem insideM_sim (X:Two T T' N k d n) (F:SF T N k d m m' M M') (e:Txt) (r:Rel T N k d s s') (hm:s.deep + m = 51) (hm':s'.deep + m' = 51) (h:(insideM T M e s).2.err = 0):Both2 T N k d (insideM T M e s) (insideM T' M' e s'):=by
 have r0:=r.flat false
 have f1:=lines_fwd X.W r0.ok
 have e1:=r0.linesE X
 have fl:=r.fl
 unfold insideM at h ⊢
 dsimp only at h ⊢
 have e2:(M (PS.lines T { s with flat:=false })).2.err = 0:=back (fun q=>(q.lines.expect e)) h
 obtain ⟨g1,g2,g3,g4⟩:=F.lt X f1.ok e1 (by rw [f1.deep]; exact hm) e2
 have r1:=r0.lines X (by omega)
 have q1:=r1.dp; have q2:=r.dp; have q3:(PS.lines T { s with flat:=false }).deep = s.deep:=f1.deep
 rcases F.sim _ _ r1 (by omega) (by omega) e2 with ⟨d0,b⟩ | ⟨rx,lx⟩
 ·exact .inl ⟨d0,fore (fun q=>(q.lines.expect e).flat _) b⟩
 ·have f3:=lines_fwd X.W rx.ok
  have lt:=lt_of_at X f3.ok (at_of_expect X f3.ok h)
  have r3:=((rx.lines X (by omega)).expect X e h).2
  refine .inr ⟨?_,lx⟩
  rw [fl]; exact r3.flat _
end Go.Proofs.YtkfbldogmgofoaaGreatDoor
namespace Go.Proofs.YtkfbldogmgofoaaGreatDoor
open Mir
variable {T T':List Tokn} {N k d n m m':Nat} {s s':PS} {M M' E E' P P' R R' U U':PF}
theorem wrong_no {a e:Nat} (he:e ≠ 0) {q:Prop} [Decidable q] (e0:s.err = 0) (h:(s.wrong a q e).err = 0):¬ q ∧ s.wrong a q e = s:=by
 by_cases c:q
 ·unfold PS.wrong at h; rw [if_pos ⟨c,e0⟩] at h; exact absurd h he
 ·exact ⟨c,by unfold PS.wrong; rw [if_neg (fun x=>c x.1)]⟩
theorem wrong_of {a e:Nat} {q:Prop} [Decidable q] (h:¬ q):s.wrong a q e = s:=by unfold PS.wrong; rw [if_neg (fun x=>h x.1)]
theorem wrong_sim {a a' e:Nat} (he:e ≠ 0) {q q':Prop} [Decidable q] [Decidable q'] (hq:q' ↔ q) (r:Rel T N k d s s') (h:(s.wrong a q e).err = 0):¬ q ∧ Rel T N k d (s.wrong a q e) (s'.wrong a' q' e):=by
 obtain ⟨h1,h2⟩:=wrong_no he r.e h
 rw [h2,wrong_of (fun x=>h1 (hq.1 x))]
 exact ⟨h1,r⟩
theorem _root_.Mir.LikeTs.at {l l':List Tree} (h:LikeTs l l') (i:Nat):LikeT (l.getD i .zero) (l'.getD i .zero):=by
 by_cases c:i < l.length
 ·exact h.get i c
 ·have len:=h.len
  rw [List.getD_eq_getElem?_getD,List.getD_eq_getElem?_getD,List.getElem?_eq_none (by omega),List.getElem?_eq_none (by omega)]
  exact .mk (by simp) .nil
theorem _root_.Mir.LikeT.withOp {a b:Tree} (h:LikeT a b) (o:Txt):LikeT (a.withOp o) (b.withOp o):=by
 cases h with | mk hl k=>exact .mk hl k
theorem _root_.Mir.LikeTs.set {l l':List Tree} {a b:Tree} (h:LikeTs l l') (i:Nat) (hab:LikeT a b):LikeTs (l.set i a) (l'.set i b):=by
 induction i generalizing l l' with
 | zero=>cases h with
   | nil=>exact .nil
   | cons x y=>exact .cons hab y
 | succ i ih=>cases h with
   | nil=>exact .nil
   | cons x y=>exact .cons x (ih y)
theorem biPost_sim {t t':Tokn} (et:t'.t = t.t) {l l':List Tree} (L:LikeTs l l') (ll:l.length ≤ 99999) (r:Rel T N k d s s') (h:(biPost t l s).2.err = 0) :
  Rel T N k d (biPost t l s).2 (biPost t' l' s').2 ∧ LikeTs (biPost t l s).1 (biPost t' l' s').1 ∧ (biPost t l s).1.length ≤ 100000:=by
 have len:=L.len
 have p1:=(L.at 1).op
 have p2:=(L.at 2).place
 unfold biPost at h ⊢
 rw [et]
 dsimp only at h ⊢
 rw [← len,p1,p2]
 by_cases c1:t.t = [108,101,110,103,116,104]
 ·rw [if_pos c1] at h
  rw [if_pos c1,if_pos c1]
  exact ⟨(wrong_sim (by decide) Iff.rfl r h).2,L,Nat.le_trans ll (by decide)⟩
 rw [if_neg c1] at h
 rw [if_neg c1,if_neg c1]
 by_cases c2:t.t = [115,117,98,115,116,114]
 ·rw [if_pos c2] at h
  rw [if_pos c2,if_pos c2]
  exact ⟨(wrong_sim (by decide) Iff.rfl r h).2,L,Nat.le_trans ll (by decide)⟩
 rw [if_neg c2] at h
 rw [if_neg c2,if_neg c2]
 by_cases c3:t.t = [115,112,108,105,116]
 ·rw [if_pos c3] at h
  rw [if_pos c3,if_pos c3]
  dsimp only at h ⊢
  have r2:=(wrong_sim (a:=t.a) (a':=t'.a) (by decide) Iff.rfl r h).2
  rw [if_pos h,if_pos r2.e']
  exact ⟨r2,L.set 1 ((L.at 1).withOp _),by rw [List.length_set]; omega⟩
 rw [if_neg c3] at h
 rw [if_neg c3,if_neg c3]
 by_cases c4:t.t = [115,117,98] ∨ t.t = [103,115,117,98]
 ·rw [if_pos c4] at h
  rw [if_pos c4,if_pos c4]
  refine ⟨(wrong_sim (by decide) Iff.rfl r h).2,?_,?_⟩
  ·dsimp only
   split
   ·exact L.app (.one (.mk (by simp) (.one (.mk (by simp) .nil))))
   ·exact L
  ·dsimp only
   split
   ·rw [List.length_append]; show l.length + 1 ≤ _; omega
   ·omega
 rw [if_neg c4] at h
 rw [if_neg c4,if_neg c4]
 by_cases c5:t.t = [105,110,100,101,120] ∨ t.t = [109,97,116,99,104]
 ·rw [if_pos c5] at h
  rw [if_pos c5,if_pos c5]
  exact ⟨(wrong_sim (by decide) Iff.rfl r h).2,L,Nat.le_trans ll (by decide)⟩
 rw [if_neg c5] at h
 rw [if_neg c5,if_neg c5]
 by_cases c6:t.t = [115,112,114,105,110,116,102]
 ·rw [if_pos c6] at h
  rw [if_pos c6,if_pos c6]
  exact ⟨(wrong_sim (by decide) Iff.rfl r h).2,L,Nat.le_trans ll (by decide)⟩
 rw [if_neg c6] at h
 rw [if_neg c6,if_neg c6]
 by_cases c7:t.t = [114,97,110,100]
 ·rw [if_pos c7] at h
  rw [if_pos c7,if_pos c7]
  exact ⟨(wrong_sim (by decide) Iff.rfl r h).2,L,Nat.le_trans ll (by decide)⟩
 rw [if_neg c7] at h
 rw [if_neg c7,if_neg c7]
 by_cases c8:t.t = [115,114,97,110,100]
 ·rw [if_pos c8] at h
  rw [if_pos c8,if_pos c8]
  dsimp only at h ⊢
  have h1:(s.wrong t.a (l.length = 0) 10).err = 0:=back (fun q=>q.wrong _ _ _) h
  have r1:=(wrong_sim (a:=t.a) (a':=t'.a) (by decide) Iff.rfl r h1).2
  exact ⟨(wrong_sim (by decide) Iff.rfl r1 h).2,L,Nat.le_trans ll (by decide)⟩
 ·rw [if_neg c8] at h
  rw [if_neg c8,if_neg c8]
  exact ⟨(wrong_sim (by decide) Iff.rfl r h).2,L,Nat.le_trans ll (by decide)⟩
theorem builtinM_sim (X:Two T T' N k d n) (F:SF T N k d m m' M M') (r:Rel T N k d s s') (lt:s.i < n) (hm:s.deep + m = 51) (hm':s'.deep + m' = 51) (h:(builtinM T M s).2.err = 0):Both2 T N k d (builtinM T M s) (builtinM T' M' s'):=by
 have r1:=r.step X lt
 have ct:=r.curt X lt
 unfold builtinM at h ⊢
 rw [ct,r1.at X _ (by decide)]
 by_cases c:(s.cur T).t = [108,101,110,103,116,104] ∧ (s.step T).isAt T [[40]] = false
 ·rw [if_pos c,if_pos c]
  exact .inr ⟨r1,like_leaf0 _ ct⟩
 ·rw [if_neg c] at h
  rw [if_neg c,if_neg c]
  dsimp only at h ⊢
  have e2:(listM T M [41] ((s.step T).expect T [40])).2.err = 0:=back (fun q=>q.biPost _ _) h
  have e1:((s.step T).expect T [40]).err = 0:=back (fun q=>q.listM _) e2
  have r2:=(r1.expect X _ e1).2
  have f1:=(step_fwd X.W r.ok).trans (expect_fwd X.W (step_fwd X.W r.ok).ok [40])
  have d1:=f1.deep; have q1:=r2.dp; have q2:=r.dp
  rcases listM_sim X F [41] r2 (by omega) (by omega) e2 with ⟨d0,b⟩ | ⟨r3,L,ll⟩
  ·exact .inl ⟨d0,fore (fun q=>q.biPost _ _) b⟩
  ·obtain ⟨r4,L4,l4⟩:=biPost_sim ct L ll r3 h
   exact .inr ⟨r4,like_leaf _ ct L4 l4⟩
theorem primM_sim (X:Two T T' N k d n) (FE:SF T N k d (m + 1) (m' + 1) E E') (FP:SF T N k d m m' P P') (FR:SF T N k d m m' R R') (r:Rel T N k d s s') (hm:s.deep + (m + 1) = 51) (hm':s'.deep + (m' + 1) = 51) (h:(primM T E P R s).2.err = 0) :
  Both2 T N k d (primM T E P R s) (primM T' E' P' R' s'):=by
 have le:=r.le X
 unfold primM at h ⊢
 dsimp only at h ⊢
 have lt:s.i < n:=by
  refine Classical.byContradiction fun c=>?_
  have c:s.i = n:=by omega
  have k0:=r.k0 X c
  simp only [k0,at_n X c r.e,z2,z3,z4,z5,z6,z9,if_false,Bool.false_eq_true] at h
  exact fail_adv X.W r.ok h
 have ck:=r.curk X lt
 have ct:=r.curt X lt
 have r1:=r.step X lt
 have f1:=step_fwd X.W r.ok
 have d1:=f1.deep
 have q2:=r.dp; have q1:=r1.dp
 rw [ck,ct,r.atL X lt,r.atL X lt]
 by_cases c2:(s.cur T).k = 2
 ·rw [if_pos c2] at h; rw [if_pos c2,if_pos c2]; exact .inr ⟨r1,like_leaf0 _ ct⟩
 rw [if_neg c2] at h; rw [if_neg c2,if_neg c2]
 by_cases c3:(s.cur T).k = 3
 ·rw [if_pos c3] at h; rw [if_pos c3,if_pos c3]; exact .inr ⟨r1,like_leaf0 _ ct⟩
 rw [if_neg c3] at h; rw [if_neg c3,if_neg c3]
 by_cases c4:(s.cur T).k = 4
 ·rw [if_pos c4] at h; rw [if_pos c4,if_pos c4]
  by_cases cr:reErr (s.cur T).t ≠ 0
  ·rw [if_pos cr] at h
   exact absurd (back (fun q=>q.step) h) (fail_adv X.W r.ok)
  ·rw [if_neg cr,if_neg cr]; exact .inr ⟨r1,like_leaf0 _ ct⟩
 rw [if_neg c4] at h; rw [if_neg c4,if_neg c4]
 by_cases c5:(s.cur T).k = 5
 ·rw [if_pos c5] at h; rw [if_pos c5,if_pos c5]
  rw [r1.at X _ (by decide)]
  by_cases cb:(s.step T).isAt T [[91]] = true
  ·rw [if_pos cb] at h; rw [if_pos cb,if_pos cb]
   have r2:=r1.stepA X cb
   have d2:=(f1.trans (step_fwd X.W f1.ok)).deep
   have q3:=r2.dp
   rcases insideM_sim X FE [93] r2 (by omega) (by omega) h with ⟨d0,b⟩ | ⟨r3,l3⟩
   ·exact .inl ⟨d0,b⟩
   ·exact .inr ⟨r3,like_leaf _ ct (.one l3) (by simp)⟩
  ·rw [if_neg cb,if_neg cb]; exact .inr ⟨r1,like_leaf0 _ ct⟩
 rw [if_neg c5] at h; rw [if_neg c5,if_neg c5]
 by_cases c6:(s.cur T).k = 6
 ·rw [if_pos c6] at h; rw [if_pos c6,if_pos c6]
  have e1:((s.step T).expect T [40]).err = 0:=back (fun q=>q.listM _) h
  have r2:=(r1.expect X _ e1).2
  have d2:=(f1.trans (expect_fwd X.W f1.ok [40])).deep
  have q3:=r2.dp
  rcases listM_sim X FE [41] r2 (by omega) (by omega) h with ⟨d0,b⟩ | ⟨r3,L,ll⟩
  ·exact .inl ⟨d0,b⟩
  ·exact .inr ⟨r3,like_leaf _ ct L (by omega)⟩
 rw [if_neg c6] at h; rw [if_neg c6,if_neg c6]
 by_cases c9:(s.cur T).k = 9
 ·rw [if_pos c9] at h; rw [if_pos c9,if_pos c9]
  exact builtinM_sim X FE r lt hm hm' h
 rw [if_neg c9] at h; rw [if_neg c9,if_neg c9]
 by_cases cp:s.isAt T [[40]] = true
 ·rw [if_pos cp] at h; rw [if_pos cp,if_pos cp]
  exact insideM_sim X FE [41] r1 (by omega) (by omega) h
 rw [if_neg cp] at h; rw [if_neg cp,if_neg cp]
 by_cases cd:s.isAt T [[36]] = true
 ·rw [if_pos cd] at h; rw [if_pos cd,if_pos cd]
  have key:∀ (A A':PF),SF T N k d m m' A A' → (A ((s.step T).down T)).2.err = 0 → Both2 T N k d (nodeM [102,105,101,108,100] [(A ((s.step T).down T)).1],(A ((s.step T).down T)).2.up) (nodeM [102,105,101,108,100] [(A' ((s'.step T').down T')).1],(A' ((s'.step T').down T')).2.up):=fun A A' FA e=>by
   have e1:((s.step T).down T).err = 0:=back (fun q=>FA.kf _ _ q) e
   obtain ⟨ok3,_,d3,_,_⟩:=down_ok X.W f1.ok
   rcases r1.down X e1 with ⟨d0,b⟩ | r2
   ·exact .inl ⟨d0,fore (fun q=>(FA.kf' _ _ q).up) b⟩
   ·have q3:=r2.dp
    obtain ⟨_,_,g3,_⟩:=FA.lt X r2.ok r2.e (by omega) e
    rcases FA.sim _ _ r2 (by omega) (by omega) e with ⟨d0,b⟩ | ⟨r3,l3⟩
    ·exact .inl ⟨d0,b⟩
    ·exact .inr ⟨r3.up (by omega),like1 _ l3⟩
  by_cases cc:((s.step T).down T).isAt T [[43,43],[45,45]] = true
  ·rw [if_pos cc] at h; rw [if_pos cc]
   have e1:((s.step T).down T).err = 0:=at_err cc
   rcases r1.down X e1 with ⟨d0,b⟩ | r2
   ·refine .inl ⟨d0,?_⟩
    have ne:((s'.step T').down T').err ≠ 0:=by omega
    dsimp only
    rw [k_at ne,if_neg (by decide)]
    exact fore (fun q=>(FR.kf' _ _ q).up) b
   ·rw [r2.at X _ (by decide),if_pos cc]
    exact key _ _ FP h
  ·rw [if_neg cc] at h; rw [if_neg cc]
   have e1:((s.step T).down T).err = 0:=back (fun q=>FR.kf _ _ q) h
   rcases r1.down X e1 with ⟨d0,b⟩ | r2
   ·refine .inl ⟨d0,?_⟩
    have ne:((s'.step T').down T').err ≠ 0:=by omega
    dsimp only
    rw [k_at ne,if_neg (by decide)]
    exact fore (fun q=>(FR.kf' _ _ q).up) b
   ·rw [r2.at X _ (by decide),if_neg cc]
    exact key _ _ FR h
 ·rw [if_neg cd] at h
  exact absurd h (fail_adv X.W r.ok)
end Go.Proofs.YtkfbldogmgofoaaGreatDoor
namespace Go.Proofs.YtkfbldogmgofoaaGreatDoor
open Mir
variable {T T':List Tokn} {N k d n m m':Nat} {s s':PS} {M M' E E' P P' R R' U U':PF}
theorem postM_sim (X:Two T T' N k d n) (F:SF T N k d m m' R R') (r:Rel T N k d s s') (hm:s.deep + m = 51) (hm':s'.deep + m' = 51) (h:(postM T R s).2.err = 0):Both2 T N k d (postM T R s) (postM T' R' s'):=by
 unfold postM at h ⊢
 dsimp only at h ⊢
 rw [r.at X _ (by decide),r.at X _ (by decide)]
 have key:∀ (o:Txt) (l:List Txt),s.isAt T l = true → (if (R (s.step T)).1.isPlace = true then (nodeM o [(R (s.step T)).1],(R (s.step T)).2) else (.zero,(R (s.step T)).2.fail T)).2.err = 0 →
   Both2 T N k d (if (R (s.step T)).1.isPlace = true then (nodeM o [(R (s.step T)).1],(R (s.step T)).2) else (.zero,(R (s.step T)).2.fail T)) (if (R' (s'.step T')).1.isPlace = true then (nodeM o [(R' (s'.step T')).1],(R' (s'.step T')).2) else (.zero,(R' (s'.step T')).2.fail T')):=fun o l c e=>by
  have r1:=r.stepA X c
  have d1:=(step_fwd X.W r.ok).deep
  have q1:=r1.dp; have q2:=r.dp
  by_cases cp:(R (s.step T)).1.isPlace = true
  ·rw [if_pos cp] at e; rw [if_pos cp]
   rcases F.sim _ _ r1 (by omega) (by omega) e with ⟨d0,b⟩ | ⟨r2,l2⟩
   ·refine .inl ⟨d0,?_⟩
    split
    ·exact b
    ·exact fore (fun q=>q.fail) b
   ·rw [if_pos (by rw [l2.place]; exact cp)]
    exact .inr ⟨r2,like1 _ l2⟩
  ·rw [if_neg cp] at e
   have e2:(R (s.step T)).2.err = 0:=back (fun q=>q.fail) e
   obtain ⟨_,_,_,ok⟩:=F.lt X r1.ok r1.e (by omega) e2
   exact absurd e (fail_adv X.W ok)
 by_cases c1:s.isAt T [[43,43]] = true
 ·rw [if_pos c1] at h; rw [if_pos c1,if_pos c1]
  exact key _ _ c1 h
 rw [if_neg c1] at h; rw [if_neg c1,if_neg c1]
 by_cases c2:s.isAt T [[45,45]] = true
 ·rw [if_pos c2] at h; rw [if_pos c2,if_pos c2]
  exact key _ _ c2 h
 rw [if_neg c2] at h; rw [if_neg c2,if_neg c2]
 have e1:(R s).2.err = 0:=back (fun q=>by
  split
  ·exact q
  split
  ·exact q.step
  split
  ·exact q.step
  ·exact q) h
 rcases F.sim _ _ r hm hm' e1 with ⟨d0,b⟩ | ⟨r2,l2⟩
 ·refine .inl ⟨d0,fore (fun q=>by
   split
   ·exact q
   split
   ·exact q.step
   split
   ·exact q.step
   ·exact q) b⟩
 ·generalize R s = x at h e1 r2 l2
  generalize R' s' = x' at r2 l2
  rw [l2.place,r2.at X _ (by decide),r2.at X _ (by decide)]
  by_cases c3:x.1.isPlace = false
  ·rw [if_pos c3,if_pos c3]; exact .inr ⟨r2,l2⟩
  rw [if_neg c3,if_neg c3]
  by_cases c4:x.2.isAt T [[43,43]] = true
  ·rw [if_pos c4,if_pos c4]; exact .inr ⟨r2.stepA X c4,like1 _ l2⟩
  rw [if_neg c4,if_neg c4]
  by_cases c5:x.2.isAt T [[45,45]] = true
  ·rw [if_pos c5,if_pos c5]; exact .inr ⟨r2.stepA X c5,like1 _ l2⟩
  ·rw [if_neg c5,if_neg c5]; exact .inr ⟨r2,l2⟩
theorem unaryM_sim (X:Two T T' N k d n) (FU:SF T N k d m m' U U') (FP:SF T N k d (m + 1) (m' + 1) P P') (r:Rel T N k d s s') (hm:s.deep + (m + 1) = 51) (hm':s'.deep + (m' + 1) = 51) (h:(unaryM T U P s).2.err = 0) :
  Both2 T N k d (unaryM T U P s) (unaryM T' U' P' s'):=by
 unfold unaryM at h ⊢
 dsimp only at h ⊢
 rw [r.at X _ (by decide),r.at X _ (by decide),r.at X _ (by decide)]
 have key:∀ (o:Txt) (l:List Txt),s.isAt T l = true → (U ((s.step T).down T)).2.err = 0 → Both2 T N k d (nodeM o [(U ((s.step T).down T)).1],(U ((s.step T).down T)).2.up) (nodeM o [(U' ((s'.step T').down T')).1],(U' ((s'.step T').down T')).2.up):=fun o l c e=>by
  have r1:=r.stepA X c
  have f1:=step_fwd X.W r.ok
  have d1:=f1.deep
  have q1:=r1.dp; have q2:=r.dp
  have e1:((s.step T).down T).err = 0:=back (fun q=>FU.kf _ _ q) e
  obtain ⟨_,_,d3,_,_⟩:=down_ok X.W f1.ok
  rcases r1.down X e1 with ⟨d0,b⟩ | r2
  ·exact .inl ⟨d0,fore (fun q=>(FU.kf' _ _ q).up) b⟩
  ·have q3:=r2.dp
   obtain ⟨_,_,g3,_⟩:=FU.lt X r2.ok r2.e (by omega) e
   rcases FU.sim _ _ r2 (by omega) (by omega) e with ⟨d0,b⟩ | ⟨r3,l3⟩
   ·exact .inl ⟨d0,b⟩
   ·exact .inr ⟨r3.up (by omega),like1 _ l3⟩
 by_cases c1:s.isAt T [[33]] = true
 ·rw [if_pos c1] at h; rw [if_pos c1,if_pos c1]; exact key _ _ c1 h
 rw [if_neg c1] at h; rw [if_neg c1,if_neg c1]
 by_cases c2:s.isAt T [[45]] = true
 ·rw [if_pos c2] at h; rw [if_pos c2,if_pos c2]; exact key _ _ c2 h
 rw [if_neg c2] at h; rw [if_neg c2,if_neg c2]
 by_cases c3:s.isAt T [[43]] = true
 ·rw [if_pos c3] at h; rw [if_pos c3,if_pos c3]; exact key _ _ c3 h
 rw [if_neg c3] at h; rw [if_neg c3,if_neg c3]
 exact FP.sim _ _ r hm hm' h
theorem chainN_s (ln:Bool) (ops:List (Txt × Txt)) (K:Nat) (t:Tree) (s:PS):chainN T M ln ops (K + 1) t s = if (s.cur T).k = 8 then match ops.lookup (s.cur T).t with
   | none=>(t,s)
   | some op=>chainN T M ln ops K (nodeM op [t,(M (if ln then (s.step T).lines T else s.step T)).1]) (M (if ln then (s.step T).lines T else s.step T)).2
  else (t,s):=by rw [chainN]; rfl
theorem chainN_sim (X:Two T T' N k d n) (F:SF T N k d m m' M M') (ln:Bool) {ops:List (Txt × Txt)} (ho:ops.lookup [41] = none):∀ (K K':Nat) {t t':Tree} {s s':PS},Rel T N k d s s' → LikeT t t' → n < s.i + K → n < s.i + K' → s.deep + m = 51 → s'.deep + m' = 51 →
  (chainN T M ln ops K t s).2.err = 0 → Both2 T N k d (chainN T M ln ops K t s) (chainN T' M' ln ops K' t' s')
 | 0,K',t,t',s,s',r,_,h,_,_,_,_=>by have:=r.le X; omega
 | K + 1,0,t,t',s,s',r,_,_,h,_,_,_=>by have:=r.le X; omega
 | K + 1,K' + 1,t,t',s,s',r,L,hK,hK',hm,hm',h=>by
   rw [chainN_s] at h
   rw [chainN_s ln ops K t s,chainN_s ln ops K' t' s']
   by_cases lt:s.i < n
   ·rw [r.curk X lt,r.curt X lt]
    by_cases c:(s.cur T).k = 8
    ·rw [if_pos c] at h; rw [if_pos c,if_pos c]
     cases ho':ops.lookup (s.cur T).t with
     | none=>exact .inr ⟨r,L⟩
     | some op =>
       rw [ho'] at h
       dsimp only at h ⊢
       obtain ⟨y,hy⟩:∃ y,y = (if ln = true then (s.step T).lines T else s.step T):=⟨_,rfl⟩
       obtain ⟨y',hy'⟩:∃ y',y' = (if ln = true then (s'.step T').lines T' else s'.step T'):=⟨_,rfl⟩
       rw [← hy] at h
       rw [← hy,← hy']
       have e1:(M y).2.err = 0:=back (fun q=>q.chainN _ _ _ _) h
       have ey:y.err = 0:=back (fun q=>F.kf _ _ q) e1
       have r1:=r.step X lt
       have f1:=step_fwd X.W r.ok
       have si:(s.step T).i = s.i + 1:=by unfold PS.step; rw [if_pos ⟨r.e,by rw [X.len]; omega⟩]
       have ry:Rel T N k d y y' ∧ s.i + 1 ≤ y.i ∧ y.deep = s.deep:=by
        cases ln with
        | false =>
          rw [if_neg (by decide)] at hy hy'
          rw [hy,hy']; exact ⟨r1,by omega,f1.deep⟩
        | true =>
          rw [if_pos rfl] at hy hy'
          have f2:=lines_fwd X.W f1.ok
          have f3:=f1.trans f2
          have g:=F.lt X (s:=y) (by rw [hy]; exact f3.ok) ey (by rw [hy,f3.deep]; exact hm) e1
          have:=f2.le
          rw [hy,hy']
          exact ⟨r1.lines X (by rw [← hy]; omega),by omega,f3.deep⟩
       obtain ⟨ry,yi,yd⟩:=ry
       have q1:=ry.dp; have q2:=r.dp
       obtain ⟨g1,g2,g3,g4⟩:=F.lt X ry.ok ry.e (by omega) e1
       rcases F.sim _ _ ry (by omega) (by omega) e1 with ⟨d0,b⟩ | ⟨rx,lx⟩
       ·exact .inl ⟨d0,fore (fun q=>q.chainN _ _ _ _) b⟩
       ·have q3:=rx.dp
        exact chainN_sim X F ln ho K K' rx (like2 op L lx) (by omega) (by omega) (by omega) (by omega) h
    ·rw [if_neg c,if_neg c]; exact .inr ⟨r,L⟩
   ·have c:s.i = n:=by have:=r.le X; omega
    rw [if_neg (by rw [r.k0 X c]; decide)]
    have:(if (s'.cur T').k = 8 then match ops.lookup (s'.cur T').t with
      | none=>(t',s')
      | some op=>chainN T' M' ln ops K' (nodeM op [t',(M' (if ln then (s'.step T').lines T' else s'.step T')).1]) (M' (if ln then (s'.step T').lines T' else s'.step T')).2
     else (t',s')) = (t',s'):=by
     rcases r.stop X c with e | e | ⟨e,e'⟩
     ·rw [if_neg (by omega)]
     ·rw [if_neg (by omega)]
     ·rw [if_pos e,e',ho]
    rw [this]
    exact .inr ⟨r,L⟩
theorem chain_sf (X:Two T T' N k d n) (F:SF T N k d m m' M M') (ln:Bool) {ops:List (Txt × Txt)} (ho:ops.lookup [41] = none):SF T N k d m m' (chainM T M ln ops) (chainM T' M' ln ops):=by
 refine ⟨fun s ok hl=>(F.fwd s ok hl).trans (chainN_fwd X.W F.fwd ln ops _ (F.fwd s ok hl).ok (hl.fwd (F.fwd s ok hl))),fun s ok hl=>(F.adv s ok hl).left (chainN_fwd X.W F.fwd ln ops _ (F.fwd s ok hl).ok (hl.fwd (F.fwd s ok hl))),k_chainM F.kf _ _,k_chainM F.kf' _ _,fun s s' r hm hm' h=>?_⟩
 unfold chainM at h ⊢
 dsimp only at h ⊢
 have e1:(M s).2.err = 0:=back (fun q=>q.chainN _ _ _ _) h
 obtain ⟨g1,g2,g3,g4⟩:=F.lt X r.ok r.e hm e1
 rcases F.sim _ _ r hm hm' e1 with ⟨d0,b⟩ | ⟨rx,lx⟩
 ·exact .inl ⟨d0,fore (fun q=>q.chainN _ _ _ _) b⟩
 ·have q3:=rx.dp; have q2:=r.dp; have:=X.len; have:=X.len'
  exact chainN_sim X F ln ho _ _ rx lx (by omega) (by omega) (by omega) (by omega) h
end Go.Proofs.YtkfbldogmgofoaaGreatDoor
namespace Go.Proofs.YtkfbldogmgofoaaGreatDoor
open Mir
variable {T T':List Tokn} {N k d n m m':Nat} {s s':PS} {M M' E E' P P' R R' U U':PF}
theorem catN_s (K:Nat) (t:Tree) (s:PS):catN T M (K + 1) t s = if (s.cur T).k ∈ [2,3,5,6,9] ∨ s.isAt T [[36],[40]] = true then catN T M K (nodeM [99,97,116] [t,(M s).1]) (M s).2 else (t,s):=by rw [catN]
theorem catN_sim (X:Two T T' N k d n) (F:SF T N k d m m' M M'):∀ (K K':Nat) {t t':Tree} {s s':PS},Rel T N k d s s' → LikeT t t' → n < s.i + K → n < s.i + K' → s.deep + m = 51 → s'.deep + m' = 51 →
  (catN T M K t s).2.err = 0 → Both2 T N k d (catN T M K t s) (catN T' M' K' t' s')
 | 0,K',t,t',s,s',r,_,h,_,_,_,_=>by have:=r.le X; omega
 | K + 1,0,t,t',s,s',r,_,_,h,_,_,_=>by have:=r.le X; omega
 | K + 1,K' + 1,t,t',s,s',r,L,hK,hK',hm,hm',h=>by
   rw [catN_s] at h
   rw [catN_s K t s,catN_s K' t' s',r.at X _ (by decide)]
   have hc:((s'.cur T').k ∈ [2,3,5,6,9] ∨ s.isAt T [[36],[40]] = true) ↔ ((s.cur T).k ∈ [2,3,5,6,9] ∨ s.isAt T [[36],[40]] = true):=by
    by_cases lt:s.i < n
    ·rw [r.curk X lt]
    ·have c:s.i = n:=by have:=r.le X; omega
     rw [r.k0 X c]
     rcases r.stop X c with e | e | ⟨e,_⟩ <;> rw [e] <;> simp
   by_cases c:(s.cur T).k ∈ [2,3,5,6,9] ∨ s.isAt T [[36],[40]] = true
   ·rw [if_pos c] at h
    rw [if_pos c,if_pos (hc.2 c)]
    have e1:(M s).2.err = 0:=back (fun q=>q.catN _ _) h
    obtain ⟨g1,g2,g3,g4⟩:=F.lt X r.ok r.e hm e1
    rcases F.sim _ _ r hm hm' e1 with ⟨d0,b⟩ | ⟨rx,lx⟩
    ·exact .inl ⟨d0,fore (fun q=>q.catN _ _) b⟩
    ·have q3:=rx.dp; have q2:=r.dp
     exact catN_sim X F K K' rx (like2 _ L lx) (by omega) (by omega) (by omega) (by omega) h
   ·rw [if_neg c,if_neg (fun q=>c (hc.1 q))]; exact .inr ⟨r,L⟩
theorem cat_sf (X:Two T T' N k d n) (F:SF T N k d m m' (addM T M) (addM T' M')):SF T N k d m m' (catEM T M) (catEM T' M'):=by
 refine ⟨fun s ok hl=>(F.fwd s ok hl).trans (catN_fwd F.fwd _ (F.fwd s ok hl).ok (hl.fwd (F.fwd s ok hl))),fun s ok hl=>(F.adv s ok hl).left (catN_fwd F.fwd _ (F.fwd s ok hl).ok (hl.fwd (F.fwd s ok hl))),fun s0 s q=>(F.kf _ _ q).catN _ _,fun s0 s q=>(F.kf' _ _ q).catN _ _,fun s s' r hm hm' h=>?_⟩
 unfold catEM at h ⊢
 dsimp only at h ⊢
 have e1:(addM T M s).2.err = 0:=back (fun q=>q.catN _ _) h
 obtain ⟨g1,g2,g3,g4⟩:=F.lt X r.ok r.e hm e1
 rcases F.sim _ _ r hm hm' e1 with ⟨d0,b⟩ | ⟨rx,lx⟩
 ·exact .inl ⟨d0,fore (fun q=>q.catN _ _) b⟩
 ·have q3:=rx.dp; have q2:=r.dp; have:=X.len; have:=X.len'
  exact catN_sim X F _ _ rx lx (by omega) (by omega) (by omega) (by omega) h
theorem Kp.relStep {s0:PS} {C:PF} {x:Tree × PS} (q:Kp s0 x.2):Kp s0 (relStep T C x).2:=by
 unfold Go.Proofs.YtkfbldogmgofoaaGreatDoor.relStep
 rw [if_neg (by rw [cur_z q.n]; exact fun x=>absurd x.1 (by decide))]; exact q
theorem relStep_eq (C:PF) (x:Tree × PS):relStep T C x = if (x.2.cur T).k = 8 ∧ ¬ ((x.2.cur T).t = [62] ∧ x.2.flat = true) then match relOps.lookup (x.2.cur T).t with
  | none=>x
  | some op=>(nodeM op [x.1,(C (x.2.step T)).1],(C (x.2.step T)).2)
 else x:=by unfold relStep; rfl
theorem rel_sf (X:Two T T' N k d n) (F:SF T N k d m m' (catEM T M) (catEM T' M')):SF T N k d m m' (relM T M) (relM T' M'):=by
 refine ⟨fun s ok hl=>?_,fun s ok hl=>?_,fun s0 s q=>?_,fun s0 s q=>?_,fun s s' r hm hm' h=>?_⟩
 ·rw [relM_eq]; exact (F.fwd s ok hl).trans (relStep_fwd X.W F.fwd (F.fwd s ok hl).ok (hl.fwd (F.fwd s ok hl)))
 ·rw [relM_eq]; exact (F.adv s ok hl).left (relStep_fwd X.W F.fwd (F.fwd s ok hl).ok (hl.fwd (F.fwd s ok hl)))
 ·rw [relM_eq]; exact (F.kf _ _ q).relStep
 ·rw [relM_eq]; exact (F.kf' _ _ q).relStep
 rw [relM_eq] at h ⊢
 rw [relM_eq]
 have e1:(catEM T M s).2.err = 0:=back (fun q=>q.relStep) h
 obtain ⟨g1,g2,g3,g4⟩:=F.lt X r.ok r.e hm e1
 rcases F.sim _ _ r hm hm' e1 with ⟨d0,b⟩ | ⟨rx,lx⟩
 ·exact .inl ⟨d0,fore (fun q=>q.relStep) b⟩
 ·generalize catEM T M s = x at h e1 g1 g2 g3 g4 rx lx
  generalize catEM T' M' s' = x' at rx lx
  have q3:=rx.dp; have q2:=r.dp
  rw [relStep_eq] at h
  rw [relStep_eq _ x,relStep_eq _ x']
  by_cases lt:x.2.i < n
  ·rw [rx.curk X lt,rx.curt X lt,rx.fl]
   by_cases c:(x.2.cur T).k = 8 ∧ ¬ ((x.2.cur T).t = [62] ∧ x.2.flat = true)
   ·rw [if_pos c] at h; rw [if_pos c,if_pos c]
    cases ho:relOps.lookup (x.2.cur T).t with
    | none=>exact .inr ⟨rx,lx⟩
    | some op =>
      rw [ho] at h
      dsimp only at h ⊢
      have r3:=rx.step X lt
      have d3:=(step_fwd X.W rx.ok).deep
      have q4:=r3.dp
      rcases F.sim _ _ r3 (by omega) (by omega) h with ⟨d0,b⟩ | ⟨ry,ly⟩
      ·exact .inl ⟨d0,b⟩
      ·exact .inr ⟨ry,like2 _ lx ly⟩
   ·rw [if_neg c,if_neg c]; exact .inr ⟨rx,lx⟩
  ·have c:x.2.i = n:=by omega
   rw [if_neg (by rw [rx.k0 X c]; exact fun q=>absurd q.1 (by decide))]
   have:(if (x'.2.cur T').k = 8 ∧ ¬ ((x'.2.cur T').t = [62] ∧ x'.2.flat = true) then match relOps.lookup (x'.2.cur T').t with
     | none=>x'
     | some op=>(nodeM op [x'.1,(catEM T' M' (x'.2.step T')).1],(catEM T' M' (x'.2.step T')).2)
    else x') = x':=by
    rcases rx.stop X c with e | e | ⟨e,e'⟩
    ·rw [if_neg (by omega)]
    ·rw [if_neg (by omega)]
    ·rw [if_pos ⟨e,by rw [e']; exact fun q=>absurd q.1 (by decide)⟩,e',show relOps.lookup [41] = none from by decide]
   rw [this]
   exact .inr ⟨rx,lx⟩
theorem inN_s (K:Nat) (t:Tree) (s:PS):inN T (K + 1) t s = if s.isAt T [[105,110]] = true then inN T K (leafM [105,110] ((s.step T).name T [5]).1 [t]) ((s.step T).name T [5]).2 else (t,s):=by rw [inN]
theorem inN_sim (X:Two T T' N k d n):∀ (K K':Nat) {t t':Tree} {s s':PS},Rel T N k d s s' → LikeT t t' → n < s.i + K → n < s.i + K' → (inN T K t s).2.err = 0 → Rel T N k d (inN T K t s).2 (inN T' K' t' s').2 ∧ LikeT (inN T K t s).1 (inN T' K' t' s').1
 | 0,K',t,t',s,s',r,_,h,_,_=>by have:=r.le X; omega
 | K + 1,0,t,t',s,s',r,_,_,h,_=>by have:=r.le X; omega
 | K + 1,K' + 1,t,t',s,s',r,L,hK,hK',h=>by
   rw [inN_s] at h
   rw [inN_s K t s,inN_s K' t' s',r.at X _ (by decide)]
   by_cases c:s.isAt T [[105,110]] = true
   ·rw [if_pos c] at h
    rw [if_pos c,if_pos c]
    have lt:=r.ltA X c
    have r1:=r.step X lt
    have e1:((s.step T).name T [5]).2.err = 0:=back (fun q=>q.inN _ _) h
    obtain ⟨_,et,r2⟩:=r1.name X [5] (by decide) e1
    have f1:=step_fwd X.W r.ok
    have f2:=name_fwd X.W f1.ok [5]
    have si:(s.step T).i = s.i + 1:=by unfold PS.step; rw [if_pos ⟨r.e,by rw [X.len]; omega⟩]
    have:=f2.le
    exact inN_sim X K K' r2 (like_leaf _ et (.one L) (by simp)) (by omega) (by omega) h
   ·rw [if_neg c,if_neg c]; exact ⟨r,L⟩
theorem in_sf (X:Two T T' N k d n) (F:SF T N k d m m' (matchM T M) (matchM T' M')):SF T N k d m m' (inM T M) (inM T' M'):=by
 refine ⟨fun s ok hl=>?_,fun s ok hl=>?_,fun s0 s q=>?_,fun s0 s q=>?_,fun s s' r hm hm' h=>?_⟩
 ·rw [inM_eq]; exact (F.fwd s ok hl).trans (inN_fwd X.W _ (F.fwd s ok hl).ok)
 ·rw [inM_eq]; exact (F.adv s ok hl).left (inN_fwd X.W _ (F.fwd s ok hl).ok)
 ·rw [inM_eq]; exact (F.kf _ _ q).inN _ _
 ·rw [inM_eq]; exact (F.kf' _ _ q).inN _ _
 rw [inM_eq] at h ⊢
 rw [inM_eq]
 have e1:(matchM T M s).2.err = 0:=back (fun q=>q.inN _ _) h
 obtain ⟨g1,g2,g3,g4⟩:=F.lt X r.ok r.e hm e1
 rcases F.sim _ _ r hm hm' e1 with ⟨d0,b⟩ | ⟨rx,lx⟩
 ·exact .inl ⟨d0,fore (fun q=>q.inN _ _) b⟩
 ·have:=X.len; have:=X.len'
  exact .inr (inN_sim X _ _ rx lx (by omega) (by omega) h)
theorem or_sf (X:Two T T' N k d n) (F:SF T N k d m m' U U'):SF T N k d m m' (catEM T U) (catEM T' U') ∧ SF T N k d m m' (orM T U) (orM T' U'):=by
 have a1:SF T N k d m m' (mulM T U) (mulM T' U'):=by unfold mulM; exact chain_sf X F false (by decide)
 have a2:SF T N k d m m' (addM T U) (addM T' U'):=by unfold addM; exact chain_sf X a1 false (by decide)
 have c:=cat_sf X a2
 have a4:=rel_sf X c
 have a5:SF T N k d m m' (matchM T U) (matchM T' U'):=by unfold matchM; exact chain_sf X a4 false (by decide)
 have a6:=in_sf X a5
 have a7:SF T N k d m m' (andM T U) (andM T' U'):=by unfold Mir.andM; exact chain_sf X a6 true (by decide)
 exact ⟨c,by unfold Mir.orM; exact chain_sf X a7 true (by decide)⟩
theorem Kp.exprStep {s0:PS} {x:Tree × PS} (q:Kp s0 x.2):Kp s0 (exprStep T E x).2:=by
 unfold Go.Proofs.YtkfbldogmgofoaaGreatDoor.exprStep
 rw [if_neg (by rw [q.at]; decide),if_neg (by rw [cur_z q.n]; exact fun x=>absurd x.2.1 (by decide))]; exact q
theorem exprStep_s (x:Tree × PS):exprStep T E x = if x.2.isAt T [[63]] = true then
   (nodeM [99,111,110,100] [x.1,(E ((x.2.step T).lines T)).1,(E ((((E ((x.2.step T).lines T)).2.lines T).expect T [58]).lines T)).1],(E ((((E ((x.2.step T).lines T)).2.lines T).expect T [58]).lines T)).2)
  else if x.1.isPlace = true ∧ (x.2.cur T).k = 8 ∧ (x.2.cur T).t ∈ assignOps then (.nd [97,115,115,105,103,110] (x.2.cur T).t 0 [x.1,(E ((x.2.step T).lines T)).1],(E ((x.2.step T).lines T)).2)
  else x:=by unfold exprStep; rfl
theorem exprStep_b {x:Tree × PS} (h:(exprStep T E x).2.err = 0):x.2.err = 0:=back (fun q=>q.exprStep) h
theorem exprStep_f {x:Tree × PS} (h:x.2.err = 14):(exprStep T E x).2.up.err = 14:=fore (fun q=>q.exprStep.up) h
theorem up_err {x:PS} (h:x.up.err = 0):x.err = 0:=h
theorem exprM_sim (X:Two T T' N k d n) (FE:SF T N k d m m' E E') (FO:SF T N k d m m' (orM T U) (orM T' U')) (r:Rel T N k d s s') (hm:s.deep + (m + 1) = 51) (hm':s'.deep + (m' + 1) = 51) (h:(exprM T E U s).2.err = 0) :
  Both2 T N k d (exprM T E U s) (exprM T' E' U' s'):=by
 rw [exprM_eq] at h ⊢
 rw [exprM_eq]
 replace h:(exprStep T E (orM T U (s.down T))).2.err = 0:=up_err h
 have e2:(orM T U (s.down T)).2.err = 0:=exprStep_b h
 have e1:(s.down T).err = 0:=back (fun q=>FO.kf _ _ q) e2
 obtain ⟨_,_,d3,_,_⟩:=down_ok X.W r.ok
 rcases r.down X e1 with ⟨d0,b⟩ | r1
 ·exact .inl ⟨d0,exprStep_f (fore (fun q=>FO.kf' _ _ q) b)⟩
 have q1:=r1.dp; have q2:=r.dp
 obtain ⟨g1,g2,g3,g4⟩:=FO.lt X r1.ok r1.e (by omega) e2
 rcases FO.sim _ _ r1 (by omega) (by omega) e2 with ⟨d0,b⟩ | ⟨rx,lx⟩
 ·exact .inl ⟨d0,exprStep_f b⟩
 generalize orM T U (s.down T) = x at h e2 g1 g2 g3 g4 rx lx
 generalize orM T' U' (s'.down T') = x' at rx lx
 have q3:=rx.dp
 have main:Both2 T N k d (exprStep T E x) (exprStep T' E' x') ∧ (exprStep T E x).2.deep = x.2.deep:=by
  rw [exprStep_s] at h
  rw [exprStep_s x,exprStep_s x',rx.at X _ (by decide),lx.place]
  by_cases c1:x.2.isAt T [[63]] = true
  ·rw [if_pos c1] at h; rw [if_pos c1,if_pos c1]
   dsimp only at h ⊢
   have r2:=rx.stepA X c1
   have f2:=step_fwd X.W rx.ok
   have f3:=lines_fwd X.W f2.ok
   have a1:((E ((x.2.step T).lines T)).2.lines T |>.expect T [58]).err = 0:=back (fun q=>FE.kf _ _ q.lines) h
   have a2:(E ((x.2.step T).lines T)).2.err = 0:=back (fun q=>q.lines.expect _) a1
   have dl:((x.2.step T).lines T).deep = x.2.deep:=(f2.trans f3).deep
   obtain ⟨k1,k2,k3,k4⟩:=FE.lt X f3.ok (r2.linesE X) (by omega) a2
   have r3:=r2.lines X (by omega)
   have q4:=r3.dp
   rcases FE.sim _ _ r3 (by omega) (by omega) a2 with ⟨d0,b⟩ | ⟨ra,la⟩
   ·refine ⟨.inl ⟨d0,fore (fun q=>FE.kf' _ _ ((q.lines.expect _).lines)) b⟩,?_⟩
    have f4:=lines_fwd X.W k4
    have f5:=f4.trans (expect_fwd X.W f4.ok [58])
    have f6:=f5.trans (lines_fwd X.W f5.ok)
    have e6:((((E ((x.2.step T).lines T)).2.lines T).expect T [58]).lines T).err = 0:=back (fun q=>FE.kf _ _ q) h
    have:=(FE.lt X f6.ok e6 (by rw [f6.deep]; omega) h).2.2.1
    rw [this,f6.deep,k3,dl]
   ·generalize E ((x.2.step T).lines T) = a at h a1 a2 k1 k2 k3 k4 ra la
    generalize E' ((x'.2.step T').lines T') = a' at ra la
    have f4:=lines_fwd X.W ra.ok
    have lt4:=lt_of_at X f4.ok (at_of_expect X f4.ok a1)
    have r4:=((ra.lines X (by omega)).expect X _ a1).2
    have f5:=f4.trans (expect_fwd X.W f4.ok [58])
    have f6:=f5.trans (lines_fwd X.W f5.ok)
    obtain ⟨p1,p2,p3,p4⟩:=FE.lt X f6.ok (r4.linesE X) (by rw [f6.deep]; omega) h
    have r5:=r4.lines X (by omega)
    have q5:=r5.dp; have q6:=f6.deep
    refine ⟨?_,by rw [p3]; omega⟩
    rcases FE.sim _ _ r5 (by omega) (by omega) h with ⟨d0,b⟩ | ⟨rb,lb⟩
    ·exact .inl ⟨d0,b⟩
    ·exact .inr ⟨rb,like3 _ lx la lb⟩
  ·rw [if_neg c1] at h; rw [if_neg c1,if_neg c1]
   by_cases lt:x.2.i < n
   ·rw [rx.curk X lt,rx.curt X lt]
    by_cases c2:x.1.isPlace = true ∧ (x.2.cur T).k = 8 ∧ (x.2.cur T).t ∈ assignOps
    ·rw [if_pos c2] at h; rw [if_pos c2,if_pos c2]
     dsimp only at h ⊢
     have r2:=rx.step X lt
     have f2:=step_fwd X.W rx.ok
     have f3:=lines_fwd X.W f2.ok
     have dl:((x.2.step T).lines T).deep = x.2.deep:=(f2.trans f3).deep
     obtain ⟨k1,k2,k3,k4⟩:=FE.lt X f3.ok (r2.linesE X) (by omega) h
     have r3:=r2.lines X (by omega)
     have q4:=r3.dp
     refine ⟨?_,by rw [k3,dl]⟩
     rcases FE.sim _ _ r3 (by omega) (by omega) h with ⟨d0,b⟩ | ⟨ra,la⟩
     ·exact .inl ⟨d0,b⟩
     ·exact .inr ⟨ra,.mk (by simp) (.cons lx (.one la))⟩
    ·rw [if_neg c2,if_neg c2]; exact ⟨.inr ⟨rx,lx⟩,rfl⟩
   ·have c:x.2.i = n:=by omega
    rw [if_neg (by rw [rx.k0 X c]; exact fun q=>absurd q.2.1 (by decide)),if_neg]
    ·exact ⟨.inr ⟨rx,lx⟩,rfl⟩
    ·rcases rx.stop X c with e | e | ⟨e,e'⟩
     ·rw [e]; exact fun q=>absurd q.2.1 (by decide)
     ·rw [e]; exact fun q=>absurd q.2.1 (by decide)
     ·rw [e']; exact fun q=>absurd q.2.2 (by decide)
 rcases main.1 with ⟨d0,b⟩ | ⟨ry,ly⟩
 ·exact .inl ⟨d0,b⟩
 ·exact .inr ⟨ry.up (by rw [main.2]; omega),ly⟩
structure SL (T T':List Tokn) (N k d m m':Nat):Prop where
 expr:SF T N k d m m' (lev T m).expr (lev T' m').expr
 unary:SF T N k d m m' (lev T m).unary (lev T' m').unary
 post:SF T N k d m m' (lev T m).post (lev T' m').post
 prim:SF T N k d m m' (lev T m).prim (lev T' m').prim
theorem levels (X:Two T T' N k d n):∀ m',m' + d < 600 → SL T T' N k d (m' + d) m'
 | 0,hb=>by
   have G:=good X.W (0 + d) 100 (by omega)
   have K:=k_lev T (0 + d)
   have K':=k_lev T' 0
   have no:∀ {s s':PS} {Q:Prop},Rel T N k d s s' → s'.deep + 0 = 51 → Q:=fun r h=>by have:=r.low; omega
   exact ⟨⟨G.expr.fwd,G.expr.adv,K.1,K'.1,fun s s' r _ h _=>no r h⟩,⟨G.unary.fwd,G.unary.adv,K.2.1,K'.2.1,fun s s' r _ h _=>no r h⟩,
    ⟨G.post.fwd,G.post.adv,K.2.2.1,K'.2.2.1,fun s s' r _ h _=>no r h⟩,⟨G.prim.fwd,G.prim.adv,K.2.2.2,K'.2.2.2,fun s s' r _ h _=>no r h⟩⟩
 | m' + 1,hb=>by
   have S:=levels X m' (by omega)
   rw [show m' + 1 + d = (m' + d) + 1 from by omega]
   have G:=good X.W (m' + d + 1) 100 (by omega)
   have K:=k_lev T (m' + d + 1)
   have K':=k_lev T' (m' + 1)
   have FE:SF T N k d (m' + d + 1) (m' + 1) (lev T (m' + d + 1)).expr (lev T' (m' + 1)).expr:=⟨G.expr.fwd,G.expr.adv,K.1,K'.1,fun s s' r hm hm' h=>by
    rw [lev_expr] at h ⊢; rw [lev_expr]; exact exprM_sim X S.expr (or_sf X S.unary).2 r hm hm' h⟩
   have FR:SF T N k d (m' + d + 1) (m' + 1) (lev T (m' + d + 1)).prim (lev T' (m' + 1)).prim:=⟨G.prim.fwd,G.prim.adv,K.2.2.2,K'.2.2.2,fun s s' r hm hm' h=>by
    rw [lev_prim] at h ⊢; rw [lev_prim]; exact primM_sim X FE S.post S.prim r hm hm' h⟩
   have FP:SF T N k d (m' + d + 1) (m' + 1) (lev T (m' + d + 1)).post (lev T' (m' + 1)).post:=⟨G.post.fwd,G.post.adv,K.2.2.1,K'.2.2.1,fun s s' r hm hm' h=>by
    rw [lev_post] at h ⊢; rw [lev_post]; exact postM_sim X FR r hm hm' h⟩
   exact ⟨FE,⟨G.unary.fwd,G.unary.adv,K.2.1,K'.2.1,fun s s' r hm hm' h=>by
    rw [lev_unary] at h ⊢; rw [lev_unary]; exact unaryM_sim X S.unary FP r hm hm' h⟩,FP,FR⟩
end Go.Proofs.YtkfbldogmgofoaaGreatDoor
namespace Go.Proofs.YtkfbldogmgofoaaGreatDoor
open Mir
variable {T:List Tokn} {N n m c:Nat} {s s':PS} {M E P R U:PF}
def wgt (t:Tokn):Int:=if t.k = 8 ∧ t.t = [40] then 1 else if t.k = 8 ∧ t.t = [41] then -1 else 0
def psum (T:List Tokn):Nat → Int
 | 0=>0
 | i + 1=>psum T i + wgt (T.getD i tkz)
def pb (T:List Tokn) (s:PS):Int:=psum T s.i
def Wp (T:List Tokn):Prop:=∀ i,(T.getD i tkz).k = 7 → (T.getD i tkz).t ≠ [40] ∧ (T.getD i tkz).t ≠ [41]
theorem at_t {l:List Txt} (h:s.isAt T l = true):(s.cur T).t ∈ l:=by unfold PS.isAt at h; simp only [Bool.and_eq_true,decide_eq_true_eq] at h; exact h.2
structure BF (T:List Tokn) (N m:Nat) (M:PF):Prop where
 fwd:∀ s,SOk T N s → lvl m 100 s → Fwd T N s (M s).2
 kf:KF M
 bal:∀ s,SOk T N s → s.err = 0 → s.deep + m = 51 → (M s).2.err = 0 → pb T (M s).2 = pb T s
theorem BF.go (F:BF T N m M) (ok:SOk T N s) (e:s.err = 0) (hm:s.deep + m = 51) (h:(M s).2.err = 0):SOk T N (M s).2 ∧ (M s).2.deep = s.deep ∧ pb T (M s).2 = pb T s :=
 have f:=F.fwd s ok (lv ok e hm)
 ⟨f.ok,f.deep,F.bal s ok e hm h⟩
variable (W:TkOk T N) (V:Wp T)
include W V
end Go.Proofs.YtkfbldogmgofoaaGreatDoor
namespace Go.Proofs.YtkfbldogmgofoaaGreatDoor
open Mir
variable {T:List Tokn} {N n m c:Nat} {s s':PS} {M E P R U:PF}
end Go.Proofs.YtkfbldogmgofoaaGreatDoor
namespace Go.Proofs.YtkfbldogmgofoaaGreatDoor
open Mir
variable {T T':List Tokn} {N k d n m m':Nat} {s s':PS} {M M' E E' P P' R R' U U':PF}
structure Stm (T T':List Tokn) (N k d n:Nat):Prop where
 X:Two T T' N k d n
 V:Wp T
 nb:(T'.getD (n + k) tkz).k ≠ 8
 nz:∀ j,j < n → (T.getD j tkz).k ≠ 0
 el:∀ j,n + k ≤ j → (∀ i,n + k ≤ i → i < j → (T'.getD i tkz).k = 1 ∨ ((T'.getD i tkz).k = 8 ∨ (T'.getD i tkz).k = 7) ∧ (T'.getD i tkz).t = [59]) → ¬ (((T'.getD j tkz).k = 8 ∨ (T'.getD j tkz).k = 7) ∧ (T'.getD j tkz).t = [101,108,115,101])
theorem Stm.stop (Y:Stm T T' N k d n):(T'.getD (n + k) tkz).k = 0 ∨ (T'.getD (n + k) tkz).k = 1:=by
 rcases Y.X.stop with e | e | e
 ·exact .inl e
 ·exact .inr e
 ·exact absurd e.1 Y.nb
theorem Stm.last (Y:Stm T T' N k d n):(T.getD n tkz).k = 0:=by
 have:=Y.X.W.last
 rw [Y.X.len] at this; exact this
theorem Rel.over (Y:Stm T T' N k d n) (r:Rel T N k d s s'):s'.over T' = s.over T:=by
 unfold PS.over
 by_cases lt:s.i < n
 ·rw [r.atL Y.X lt,r.curk Y.X lt]
 ·have c:s.i = n:=by have:=r.le Y.X; omega
  have e:(s'.cur T').k = 0 ∨ (s'.cur T').k = 1:=by rw [cur_o r.e',r.i,c]; exact Y.stop
  rw [r.k0 Y.X c]
  rcases e with e | e <;> rw [e] <;> simp
end Go.Proofs.YtkfbldogmgofoaaGreatDoor
namespace Go.Proofs.YtkfbldogmgofoaaGreatDoor
open Mir
variable {T T':List Tokn} {N k d n m m':Nat} {s s':PS} {M M' E E' P P' R R' U U' S S':PF}
theorem Kp.outTo {s0:PS} (q:Kp s0 s) (hU:KF (catEM T U)):Kp s0 (outTo T (catEM T U) s).2:=by
 unfold Go.Proofs.YtkfbldogmgofoaaGreatDoor.outTo
 exact Kp.ite (hU _ _ q.step) (Kp.ite (hU _ _ q.step) q)
theorem Kp.outEnd {s0:PS} (q:Kp s0 s) (op:Txt) (l:List Tree):Kp s0 (outEnd T op l s):=by
 unfold Go.Proofs.YtkfbldogmgofoaaGreatDoor.outEnd
 exact Kp.iteS (q.flat false).fail (q.flat false)
theorem Kp.outArgs {s0:PS} (q:Kp s0 s):Kp s0 (outArgs T E s).2:=by
 unfold Go.Proofs.YtkfbldogmgofoaaGreatDoor.outArgs
 exact Kp.iteL (q.step.listM _) (q.outN _ _)
theorem Rel.fin (Y:Stm T T' N k d n) (r:Rel T N k d s s') (h:(s.fin T).err = 0):Rel T N k d (s.fin T) (s'.fin T'):=by
 have X:=Y.X
 unfold PS.fin at h ⊢
 rw [r.at X _ (by decide),r.at X _ (by decide)]
 by_cases c1:s.isAt T [[59]] = true
 ·rw [if_pos c1,if_pos c1]; exact r.stepA X c1
 rw [if_neg c1] at h; rw [if_neg c1,if_neg c1]
 by_cases c2:s.isAt T [[125]] = true
 ·rw [if_pos c2,if_pos c2]; exact r
 rw [if_neg c2] at h; rw [if_neg c2,if_neg c2]
 by_cases c3:(s.cur T).k = 1
 ·have lt:=r.lt X (by omega)
  rw [if_pos c3,if_pos (by rw [r.curk X lt]; exact c3)]; exact r.step X lt
 ·rw [if_neg c3] at h; exact absurd h (fail_adv X.W r.ok)
def NLs (T:List Tokn) (i j:Nat):Prop:=∀ x,i ≤ x → x < j → (T.getD x tkz).k = 1
structure Run (T:List Tokn) (s q:PS):Prop where
 eq:q = { s with i:=q.i }
 le:s.i ≤ q.i
 nls:NLs T s.i q.i
theorem lines_run (h:s.err = 0):Run T s (s.lines T):=by
 have:∀ K (s:PS),s.err = 0 → Run T s (linesN T K s):=fun K=>by
  induction K with
  | zero=>exact fun s _=>⟨rfl,Nat.le_refl _,fun x a b=>by exact absurd b (by show ¬ x < s.i; omega)⟩
  | succ K ih =>
    intro s h
    rw [linesN]
    by_cases c:(s.cur T).k = 1
    ·rw [if_pos c]
     by_cases e:s.err = 0 ∧ s.i + 1 < T.length
     ·have st:s.step T = { s with i:=s.i + 1 }:=by unfold PS.step; rw [if_pos e]
      rw [st]
      have R:=ih { s with i:=s.i + 1 } h
      have le:=R.le
      dsimp only at le
      refine ⟨R.eq,by omega,fun x a b=>?_⟩
      by_cases cx:x = s.i
      ·rw [cx,← cur_o h]; exact c
      ·exact R.nls x (by show s.i + 1 ≤ x; omega) b
     ·have st:s.step T = s:=by unfold PS.step; rw [if_neg e]
      rw [st]; exact ih s h
    ·rw [if_neg c]; exact ⟨rfl,Nat.le_refl _,fun x a b=>absurd b (by omega)⟩
 exact this _ _ h
end Go.Proofs.YtkfbldogmgofoaaGreatDoor
namespace Go.Proofs.YtkfbldogmgofoaaGreatDoor
open Mir
variable {T T':List Tokn} {N k d n m m':Nat} {s s':PS} {M M' E E' P P' R R' U U' S S':PF}
def Past (T':List Tokn) (b p:Nat):Prop:=∀ i,b ≤ i → i < p → (T'.getD i tkz).k = 1 ∨ ((T'.getD i tkz).k = 8 ∨ (T'.getD i tkz).k = 7) ∧ (T'.getD i tkz).t = [59]
theorem Past.run {b:Nat} {q:PS} (p:Past T' b s.i) (r:Run T' s q):Past T' b q.i:=fun i h1 h2=>by
 by_cases c:i < s.i
 ·exact p i h1 c
 ·exact .inl (r.nls i (by omega) h2)
theorem step_i (s:PS):s.step T = { s with i:=(s.step T).i } ∧ s.i ≤ (s.step T).i ∧ (s.step T).i ≤ s.i + 1:=by
 unfold PS.step; split
 ·exact ⟨rfl,Nat.le_succ _,Nat.le_refl _⟩
 ·exact ⟨rfl,Nat.le_refl _,Nat.le_succ _⟩
theorem Past.step {b:Nat} (p:Past T' b s.i) (c:s.isAt T' [[59]] = true):Past T' b (s.step T').i:=fun i h1 h2=>by
 obtain ⟨_,_,h3⟩:=step_i (T:=T') s
 by_cases ci:i < s.i
 ·exact p i h1 ci
 ·have:i = s.i:=by omega
  have ct:(s.cur T').t = [59]:=List.mem_singleton.1 (at_t c)
  have ck:=at_k c
  rw [cur_o (at_err c)] at ct ck
  rw [this]; exact .inr ⟨ck,ct⟩
end Go.Proofs.YtkfbldogmgofoaaGreatDoor
namespace Go.Proofs.YtkfbldogmgofoaaGreatDoor
open Mir
variable {T T':List Tokn} {N k d n m m':Nat} {s s':PS} {M M' E E' P P' R R' U U' S S':PF}
theorem skipN_s (K:Nat) (s:PS):skipN T (K + 1) s = if s.isAt T [[59]] = true ∨ (s.cur T).k = 1 then skipN T K (s.step T) else s:=by rw [skipN]
theorem skipN_rel (X:Two T T' N k d n):∀ (K K':Nat) {s s':PS},Rel T N k d s s' → n ≤ s.i + K → n ≤ s.i + K' → (skipN T K s).i ≠ n → Rel T N k d (skipN T K s) (skipN T' K' s')
 | 0,K',s,s',r,h,_,hn=>by
   have:=r.le X
   exact absurd (show s.i = n by omega) hn
 | K + 1,K',s,s',r,h,h',hn=>by
   rw [skipN_s] at hn ⊢
   by_cases c:s.isAt T [[59]] = true ∨ (s.cur T).k = 1
   ·have lt:s.i < n:=c.elim (fun e=>r.ltA X e) (fun e=>r.lt X (by omega))
    have st:(s.step T).i = s.i + 1:=by unfold PS.step; rw [if_pos ⟨r.e,by rw [X.len]; omega⟩]
    rw [if_pos c] at hn ⊢
    obtain ⟨K',rfl⟩:∃ j,K' = j + 1:=⟨K' - 1,by omega⟩
    rw [skipN_s,if_pos (by rw [r.curk X lt,r.atL X lt]; exact c)]
    exact skipN_rel X K K' (r.step X lt) (by omega) (by omega) hn
   ·rw [if_neg c] at hn ⊢
    have lt:s.i < n:=by have:=r.le X; omega
    cases K' with
    | zero=>exact r
    | succ K'=>rw [skipN_s,if_neg (by rw [r.curk X lt,r.atL X lt]; exact c)]; exact r
theorem Rel.skip (X:Two T T' N k d n) (r:Rel T N k d s s') (h:(s.skip T).i ≠ n):Rel T N k d (s.skip T) (s'.skip T') :=
 skipN_rel X _ _ r (by have:=X.len; omega) (by have:=X.len'; omega) h
theorem skip_e (e:s.err = 0):(s.skip T).err = 0:=by
 have:∀ K (s:PS),s.err = 0 → (skipN T K s).err = 0:=fun K=>by
  induction K with
  | zero=>exact fun s h=>h
  | succ K ih =>
    intro s h
    rw [skipN_s]
    split
    ·refine ih _ ?_
     unfold PS.step; split <;> exact h
    ·exact h
 exact this _ _ e
theorem Kp.blockN {s0:PS} (q:Kp s0 s) (K:Nat) (l:List Tree):Kp s0 (blockN T S K l s).2:=by
 cases K with
 | zero=>exact q
 | succ K=>rw [Mir.blockN,if_neg q.n]; exact q
theorem Kp.forA {s0:PS} (q:Kp s0 s) (hF:KF M) (x:Txt):Kp s0 (forA T M x s).2:=by
 unfold Go.Proofs.YtkfbldogmgofoaaGreatDoor.forA; exact Kp.ite q (hF _ _ q)
end Go.Proofs.YtkfbldogmgofoaaGreatDoor
namespace Go.Proofs.YtkfbldogmgofoaaGreatDoor
open Mir
variable {T T':List Tokn} {N k d n m m':Nat} {s s':PS} {M M' E E' P P' R R' U U' S S':PF}
theorem Kp.stStep {s0:PS} (q:Kp s0 s) (hE:KF E):Kp s0 (stStep T E U S s).2:=by
 unfold Go.Proofs.YtkfbldogmgofoaaGreatDoor.stStep
 simp only [q.at,if_false,Bool.false_eq_true]
 exact (q.simpleM hE).fin
theorem Both2.z {x x':Tree × PS} (h:Both2 T N k 0 x x'):Rel T N k 0 x.2 x'.2 ∧ LikeT x.1 x'.1:=h.elim (fun q=>absurd q.1 (Nat.lt_irrefl _)) id
end Go.Proofs.YtkfbldogmgofoaaGreatDoor
namespace Go.Proofs.YtkfbldogmgofoaaGreatDoor
open Mir
variable {T T':List Tokn} {N k n:Nat} {s s':PS}
theorem itemsN_s (K:Nat) (l:List Tree) (s:PS):itemsN T (K + 1) l s = if s.err = 0 then
   if ((s.skip T).cur T).k = 0 then (l,s.skip T) else itemsN T K (l ++ [(itemM T (s.skip T)).1]) (itemM T (s.skip T)).2
  else (l,s):=by rw [itemsN]
end Go.Proofs.YtkfbldogmgofoaaGreatDoor
namespace Go.Proofs.YtkfbldogmgofoaaGreatDoor
open Mir
variable {T T':List Tokn} {N N' k n:Nat} {s s':PS}
theorem parse_inl {t:Tree} (h:parseM T = .inl t):(itemsN T (T.length + 1) [] ps0).2.err = 0 ∧ t = nodeM [112,114,111,103,114,97,109] (itemsN T (T.length + 1) [] ps0).1:=by
 unfold parseM at h
 dsimp only at h
 split at h
 ·cases h
 ·rename_i c
  cases h
  exact ⟨Classical.byContradiction c,rfl⟩
theorem ps0_ok (W:TkOk T N) (h:0 < T.length):SOk T N ps0:=⟨h,.inl rfl,Nat.zero_le _,fun _=>Nat.zero_le _⟩
theorem getD_l {a e:List Tokn} {j:Nat} (h:j < a.length):(a ++ e).getD j tkz = a.getD j tkz:=by
 simp [List.getD_eq_getElem?_getD,List.getElem?_append_left h]
theorem getD_r {a e:List Tokn} {j:Nat}:(a ++ e).getD (a.length + j) tkz = e.getD j tkz:=by
 simp [List.getD_eq_getElem?_getD,List.getElem?_append_right]
theorem getD_out {a:List Tokn} {j:Nat} (h:a.length ≤ j):a.getD j tkz = tkz:=by
 simp [List.getD_eq_getElem?_getD,List.getElem?_eq_none h]
theorem getD_in {a:List Tokn} {j:Nat} (h:j < a.length):a.getD j tkz ∈ a:=by
 simp only [List.getD_eq_getElem?_getD,List.getElem?_eq_getElem h,Option.getD_some]; exact List.getElem_mem h
theorem sh_get {a:List Tokn} {c j:Nat} (h:j < a.length):((a.map (shT c)).getD j tkz).k = (a.getD j tkz).k ∧ ((a.map (shT c)).getD j tkz).t = (a.getD j tkz).t:=by
 simp [List.getD_eq_getElem?_getD,h,shT]
theorem nz_of {s:Txt} {a:List Tokn} {e:Tokn} (B:Body wordsT s a):∀ j,j < a.length → ((a ++ [e]).getD j tkz).k ≠ 0:=fun j h=>by
 rw [getD_l h]; exact (B _ (getD_in h)).1
theorem lex_ok {s:Txt} (hs:s.length ≤ 4000) {U:List Tokn} (h:lexT s = .inr U):TkOk U s.length ∧ 0 < U.length ∧ U.length ≤ 100000:=lexM_ok hs h
end Go.Proofs.YtkfbldogmgofoaaGreatDoor
namespace Go.Proofs.YtkfbldogmgofoaaGreatDoor
open Mir
variable {T T':List Tokn} {N N' k n m:Nat} {s s':PS} {E U P R M:PF}
theorem or_kp {s0:PS} (q:Kp s0 (U s).2):Kp s0 (orM T U s).2:=by
 have a1:Kp s0 (mulM T U s).2:=q.chainN _ _ _ _
 have a2:Kp s0 (addM T U s).2:=a1.chainN _ _ _ _
 have a3:Kp s0 (catEM T U s).2:=a2.catN _ _
 have a4:Kp s0 (relM T U s).2:=by rw [relM_eq]; exact a3.relStep
 have a5:Kp s0 (matchM T U s).2:=a4.chainN _ _ _ _
 have a6:Kp s0 (inM T U s).2:=by rw [inM_eq]; exact a5.inN _ _
 have a7:Kp s0 (Mir.andM T U s).2:=a6.chainN _ _ _ _
 exact a7.chainN _ _ _ _
structure Bad1 (T:List Tokn) (s:PS):Prop where
 e:s.err = 0
 k:(s.cur T).k = 7 ∨ (s.cur T).k = 8
 t:∀ x,x ∈ [[40],[36],[43,43],[45,45],[33],[45],[43],[66,69,71,73,78],[69,78,68],[102,117,110,99,116,105,111,110],[123]] → (s.cur T).t ≠ x
theorem Bad1.at (b:Bad1 T s) {l:List Txt} (hl:∀ x ∈ l,x ∈ [[40],[36],[43,43],[45,45],[33],[45],[43],[66,69,71,73,78],[69,78,68],[102,117,110,99,116,105,111,110],[123]]):s.isAt T l = false:=by
 unfold PS.isAt
 have:(s.cur T).t ∉ l:=fun h=>b.t _ (hl _ h) rfl
 simp [this]
theorem itemsN_acc:∀ (K:Nat) (l:List Tree) (s:PS),itemsN T K l s = (l ++ (itemsN T K [] s).1,(itemsN T K [] s).2)
 | 0,l,s=>by simp [itemsN]
 | K + 1,l,s=>by
   rw [itemsN_s,itemsN_s]
   split
   ·split
    ·simp
    ·rw [itemsN_acc K (l ++ _),itemsN_acc K ([] ++ _)]; simp
   ·simp
end Go.Proofs.YtkfbldogmgofoaaGreatDoor
namespace Go.Proofs.YtkfbldogmgofoaaGreatDoor
open Mir
variable {T T':List Tokn} {N N' k n m:Nat} {s s' s2:PS} {E U P R M S:PF} {t:Tree}
theorem itemG_default (W:TkOk T N) (hf:∀ {x:Tree × PS},x = E s → SOk T N x.2) (h:(itemG T (blockM T S) E s).2.err = 0) (h1:(itemG T (blockM T S) E s).1.op = [114,117,108,101]) (h2:((itemG T (blockM T S) E s).1.kids.getD 1 .zero).op = [100,101,102,97,117,108,116]) :
  (itemG T (blockM T S) E s).1 = nodeM [114,117,108,101] [(E s).1,nodeM [100,101,102,97,117,108,116] []] ∧ (itemG T (blockM T S) E s).2 = (E s).2:=by
 unfold itemG at h h1 h2 ⊢
 by_cases c1:s.isAt T [[66,69,71,73,78]] = true
 ·rw [if_pos c1] at h1; exact absurd h1 (by simp [nodeM,Tree.op])
 rw [if_neg c1] at h h1 h2 ⊢
 by_cases c2:s.isAt T [[69,78,68]] = true
 ·rw [if_pos c2] at h1; exact absurd h1 (by simp [nodeM,Tree.op])
 rw [if_neg c2] at h h1 h2 ⊢
 by_cases c3:s.isAt T [[102,117,110,99,116,105,111,110]] = true
 ·rw [if_pos c3] at h1; exact absurd h1 (by simp [leafM,Tree.op])
 rw [if_neg c3] at h h1 h2 ⊢
 by_cases c4:s.isAt T [[123]] = true
 ·rw [if_pos c4] at h2; exact absurd h2 (by simp [nodeM,blockM,Tree.op,Tree.kids])
 rw [if_neg c4] at h h1 h2 ⊢
 dsimp only at h h1 h2 ⊢
 by_cases c5:(E s).2.isAt T [[123]] = true
 ·rw [if_pos c5] at h2; exact absurd h2 (by simp [nodeM,blockM,Tree.op,Tree.kids])
 rw [if_neg c5] at h h1 h2 ⊢
 dsimp only at h ⊢
 by_cases c6:((E s).2.cur T).k ≠ 1 ∧ ((E s).2.cur T).k ≠ 0 ∧ (E s).2.isAt T [[59]] = false
 ·rw [if_pos c6] at h; exact absurd h (fail_adv W (hf rfl))
 ·rw [if_neg c6]; exact ⟨rfl,rfl⟩
def NoSemi (T:List Tokn):Prop:=∀ i,¬ (((T.getD i tkz).k = 8 ∨ (T.getD i tkz).k = 7) ∧ (T.getD i tkz).t = [59])
theorem NoSemi.at (h:NoSemi T) (s:PS):s.isAt T [[59]] = false:=by
 cases c:s.isAt T [[59]]
 ·rfl
 ·have ct:(s.cur T).t = [59]:=List.mem_singleton.1 (at_t c)
  have ck:=at_k c
  rw [cur_o (at_err c)] at ct ck
  exact absurd ⟨ck,ct⟩ (h s.i)
theorem skip_lines (h:NoSemi T) (s:PS):s.skip T = s.lines T:=by
 have:∀ K (s:PS),skipN T K s = linesN T K s:=fun K=>by
  induction K with
  | zero=>exact fun _=>rfl
  | succ K ih =>
    intro s
    rw [skipN_s,linesN,h.at]
    by_cases c:(s.cur T).k = 1
    ·rw [if_pos (.inr c),if_pos c]; exact ih _
    ·rw [if_neg (by simpa using c),if_neg c]
 exact this _ _
theorem lines_to (W:TkOk T N):∀ (g K:Nat) {s:PS},SOk T N s → s.err = 0 → s.i + g < T.length → T.length ≤ s.i + K → NLs T s.i (s.i + g) → (T.getD (s.i + g) tkz).k ≠ 1 → linesN T K s = { s with i:=s.i + g }
 | 0,K,s,ok,e,h,hK,_,hn=>by
   cases K with
   | zero=>rfl
   | succ K=>rw [linesN,if_neg (by rw [cur_o e]; exact hn)]; rfl
 | g + 1,0,s,ok,e,h,hK,_,_=>by omega
 | g + 1,K + 1,s,ok,e,h,hK,nl,hn=>by
   have c:(s.cur T).k = 1:=by rw [cur_o e]; exact nl s.i (Nat.le_refl _) (by omega)
   have st:s.step T = { s with i:=s.i + 1 }:=by unfold PS.step; rw [if_pos ⟨e,by omega⟩]
   rw [linesN,if_pos c,st]
   have ok1:SOk T N { s with i:=s.i + 1 }:=by rw [← st]; exact (step_fwd W ok).ok
   have:=lines_to W g K (s:={ s with i:=s.i + 1 }) ok1 e (by show s.i + 1 + g < _; omega) (by show _ ≤ s.i + 1 + K; omega) (fun x h1 h2=>nl x (by have:s.i + 1 ≤ x:=h1; omega) (by have:x < s.i + 1 + g:=h2; omega)) (by show (T.getD (s.i + 1 + g) tkz).k ≠ 1; rw [show s.i + 1 + g = s.i + (g + 1) from by omega]; exact hn)
   rw [this]
   show ({ s with i:=s.i + 1 + g }:PS) = _
   rw [show s.i + 1 + g = s.i + (g + 1) from by omega]
theorem post_stay (e:R s = (t,s2)) (h1:s.isAt T [[43,43]] = false) (h2:s.isAt T [[45,45]] = false) (k0:(s2.cur T).k = 0):postM T R s = (t,s2):=by
 have n:∀ l,s2.isAt T l = false:=fun l=>by unfold PS.isAt; rw [k0]; rfl
 unfold postM
 dsimp only
 rw [if_neg (by rw [h1]; decide),if_neg (by rw [h2]; decide),e]
 dsimp only
 rw [n,n]
 split
 ·rfl
 ·rfl
theorem expr_stay (e:U (s.down T) = (t,s2)) (k0:(s2.cur T).k = 0):exprM T E U s = (t,s2.up):=by
 unfold exprM
 rw [or_stop e (.inl k0)]
 dsimp only
 rw [if_neg (by rw [show s2.isAt T [[63]] = false from by unfold PS.isAt; rw [k0]; rfl]; decide),if_neg (by rw [k0]; exact fun q=>absurd q.2.1 (by decide))]
theorem paren_expr {x:Tree × PS} (e0:T.getD 0 tkz = ⟨8,[40],0⟩) (hl:1 < T.length) (hx:insideM T (lev T (m + 1)).expr [41] ⟨1,1,false,0,0⟩ = x) :
  ((x.2.err = 14 → ((lev T (m + 2)).expr ps0).2.err = 14) ∧ ((x.2.cur T).k = 0 → (lev T (m + 2)).expr ps0 = (x.1,x.2.up))):=by
 have d0:ps0.down T = ⟨0,1,false,0,0⟩:=rfl
 have at_:∀ l:List Txt,PS.isAt T ⟨0,1,false,0,0⟩ l = decide ([40] ∈ l):=fun l=>by rw [isAt_of e0]; rfl
 have prim:(lev T (m + 1)).prim ⟨0,1,false,0,0⟩ = x:=by
  rw [lev_r]
  unfold primM
  rw [cur0,e0]
  dsimp only
  rw [if_neg (by decide),if_neg (by decide),if_neg (by decide),if_neg (by decide),if_neg (by decide),if_neg (by decide),if_pos (show PS.isAt T _ [[40]] = true by rw [at_]; rfl)]
  have st:PS.step T ⟨0,1,false,0,0⟩ = ⟨1,1,false,0,0⟩:=by unfold PS.step; rw [if_pos ⟨rfl,hl⟩]
  rw [st]; exact hx
 have un:(lev T (m + 1)).unary ⟨0,1,false,0,0⟩ = (lev T (m + 1)).post ⟨0,1,false,0,0⟩:=by
  rw [lev_u,unary_no (fun y hy=>by
   rw [at_]
   simp only [List.mem_cons,List.not_mem_nil,or_false] at hy
   rcases hy with rfl | rfl | rfl <;> rfl)]
 constructor
 ·intro h
  rw [lev_e,exprM_eq]
  refine exprStep_f (fore (fun q=>or_kp q) ?_)
  rw [d0,un,lev_p]
  have:Kp x.2 (postM T (lev T (m + 1)).prim ⟨0,1,false,0,0⟩).2:=by
   have q:Kp x.2 ((lev T (m + 1)).prim ⟨0,1,false,0,0⟩).2:=by rw [prim]; exact Kp.refl (by omega)
   unfold postM
   dsimp only
   rw [if_neg (by rw [at_]; decide),if_neg (by rw [at_]; decide)]
   split
   ·exact q
   split
   ·exact q.step
   split
   ·exact q.step
   ·exact q
  exact this.eq.trans h
 ·intro k0
  rw [lev_e]
  refine expr_stay ?_ k0
  rw [d0,un,lev_p]
  exact post_stay prim (by rw [at_]; rfl) (by rw [at_]; rfl) k0
theorem paren_exprN {x:Tree × PS} {n1 n2:Nat} (h1:n1 = m + 1) (h2:n2 = m + 2) (e0:T.getD 0 tkz = ⟨8,[40],0⟩) (hl:1 < T.length) (hx:insideM T (lev T n1).expr [41] ⟨1,1,false,0,0⟩ = x) :
  ((x.2.err = 14 → ((lev T n2).expr ps0).2.err = 14) ∧ ((x.2.cur T).k = 0 → (lev T n2).expr ps0 = (x.1,x.2.up))):=by
 subst h1; subst h2; exact paren_expr e0 hl hx
theorem levelsN {d:Nat} (X:Two T T' N k d n) {m1 m2:Nat} (h:m1 = m2 + d) (hb:m2 + d < 600):SL T T' N k d m1 m2:=by subst h; exact levels X m2 hb
theorem cur_at {q:PS} {i:Nat} (e:q.err = 0) (hi:q.i = i):q.cur T = T.getD i tkz:=by rw [cur_o e,hi]
def endI (n:Nat):List Tokn:=[⟨8,[41],n + 1⟩,⟨0,[],n + 2⟩]
theorem inner_law {s:Txt} (hs:s.length ≤ 1000) (hn:∀ x,x < s.length → pk s x ≠ 35 ∧ pk s x ≠ 59) {k:Tree} (h:parsedT s = .inl (nodeM [112,114,111,103,114,97,109] [k])) (h1:k.op = [114,117,108,101]) (h2:(k.kids.getD 1 .zero).op = [100,101,102,97,117,108,116]) :
  (∃ a,parsedT (mid [40] s [41]) = .inr (a,14)) ∨ ∃ t',parsedT (mid [40] s [41]) = .inl t' ∧ LikeT (nodeM [112,114,111,103,114,97,109] [k]) t':=by
 unfold parsedT at h
 cases hl:lexT s with
 | inl j=>rw [hl] at h; cases h
 | inr U =>
 rw [hl] at h
 obtain ⟨W,_,hbu⟩:=lex_ok (by omega) hl
 obtain ⟨a,rfl,B,la,lx⟩:=lex_inner (fun x hx=>(hn x hx).1) hl
 have lx:lexT (mid [40] s [41]) = .inr ([⟨8,[40],0⟩] ++ a.map (shT 1) ++ endI s.length):=lx
 have hml:(mid [40] s [41]).length = s.length + 2:=by rw [mid_len]; simp; omega
 obtain ⟨W',_,hb'⟩:=lex_ok (by omega) lx
 obtain ⟨e1,et⟩:=parse_inl h
 unfold parsedT
 rw [show lexT (mid [40] s [41]) = .inr ([⟨8,[40],0⟩] ++ a.map (shT 1) ++ endI s.length) from lx]
 dsimp only
 have len':([(⟨8,[40],0⟩:Tokn)] ++ a.map (shT 1) ++ endI s.length).length = a.length + 3:=by simp [endI]
 have gA:∀ j,j < a.length → ([(⟨8,[40],0⟩:Tokn)] ++ a.map (shT 1) ++ endI s.length).getD (j + 1) tkz = (a.map (shT 1)).getD j tkz:=fun j h=>by
  have:=getD_r (a:=[(⟨8,[40],0⟩:Tokn)]) (e:=a.map (shT 1) ++ endI s.length) (j:=j)
  rw [List.append_assoc,Nat.add_comm j 1,show 1 + j = [(⟨8,[40],0⟩:Tokn)].length + j from rfl,this,getD_l (by simpa using h)]
 have gC:([(⟨8,[40],0⟩:Tokn)] ++ a.map (shT 1) ++ endI s.length).getD (a.length + 1) tkz = ⟨8,[41],s.length + 1⟩:=by
  have:=getD_r (a:=[(⟨8,[40],0⟩:Tokn)] ++ a.map (shT 1)) (e:=endI s.length) (j:=0)
  simp only [List.length_append,List.length_map,List.length_cons,List.length_nil,Nat.add_zero] at this
  rw [Nat.add_comm a.length]; exact this
 have gE:([(⟨8,[40],0⟩:Tokn)] ++ a.map (shT 1) ++ endI s.length).getD (a.length + 2) tkz = ⟨0,[],s.length + 2⟩:=by
  have:=getD_r (a:=[(⟨8,[40],0⟩:Tokn)] ++ a.map (shT 1)) (e:=endI s.length) (j:=1)
  simp only [List.length_append,List.length_map,List.length_cons,List.length_nil] at this
  rw [show a.length + 2 = 0 + 1 + a.length + 1 from by omega]; exact this
 have g0:([(⟨8,[40],0⟩:Tokn)] ++ a.map (shT 1) ++ endI s.length).getD 0 tkz = ⟨8,[40],0⟩:=rfl
 generalize hT':([(⟨8,[40],0⟩:Tokn)] ++ a.map (shT 1) ++ endI s.length:List Tokn) = T' at W' hb' gA gC gE g0 len' ⊢
 have X:Two (a ++ [⟨0,[],s.length⟩]) T' s.length 1 1 a.length:=⟨W,by simp,by omega,hbu,fun j h=>by rw [gA j h,getD_l h]; exact (sh_get h).1,fun j h=>by rw [gA j h,getD_l h]; exact (sh_get h).2,.inr (.inr ⟨by rw [gC],by rw [gC]⟩)⟩
 have nz:=nz_of (e:=⟨0,[],s.length⟩) B
 have ns:NoSemi (a ++ [⟨0,[],s.length⟩]):=fun i q=>by
  by_cases c:i < a.length
  ·rw [getD_l c] at q
   have b:=B _ (getD_in c)
   rcases q.1 with z | z
   ·obtain ⟨x,x1,x2⟩:=b.2.2 z _ q.2
    exact (hn x x1).2 x2
   ·have:=b.2.1 z
    rw [q.2] at this; revert this; decide
  ·by_cases c2:i = a.length
   ·rw [c2,show a.length = a.length + 0 from rfl,getD_r] at q; rcases q.1 with z | z <;> cases z
   ·rw [getD_out (by rw [List.length_append]; show a.length + 1 ≤ i; omega)] at q; rcases q.1 with z | z <;> cases z
 have lenU:(a ++ [(⟨0,[],s.length⟩:Tokn)]).length = a.length + 1:=by simp
 rw [lenU] at e1 et
 generalize hU:(a ++ [(⟨0,[],s.length⟩:Tokn)]:List Tokn) = U at W hbu X nz ns e1 et lenU
 have hk:[k] = (itemsN U (a.length + 1 + 1) [] ps0).1:=by
  have:=congrArg Tree.kids et
  exact this
 have ok0:=ps0_ok W (by omega)
 rw [itemsN_s,if_pos (show ps0.err = 0 from rfl)] at e1 hk
 have f1:=skip_fwd W ok0
 have es:(ps0.skip U).err = 0:=skip_e rfl
 by_cases k0:((ps0.skip U).cur U).k = 0
 ·rw [if_pos k0] at hk; cases hk
 rw [if_neg k0,itemsN_acc] at e1 hk
 have hk:[k] = [(itemM U (ps0.skip U)).1] ++ (itemsN U (a.length + 1) [] (itemM U (ps0.skip U)).2).1:=hk
 rw [List.singleton_append] at hk
 injection hk with hk1 hk2
 have ey:(itemM U (ps0.skip U)).2.err = 0:=back (fun q=>q.itemsN _ _) e1
 have sd:(ps0.skip U).deep = 0:=f1.deep
 have yk:(((itemM U (ps0.skip U)).2.skip U).cur U).k = 0:=by
  refine Classical.byContradiction fun c=>?_
  rw [itemsN_s,if_pos ey,if_neg c,itemsN_acc] at hk2
  have:([]:List Tree) = [(itemM U ((itemM U (ps0.skip U)).2.skip U)).1] ++ _:=hk2
  cases this
 have L:=(levelsN (m1:=51) (m2:=50) X rfl (by decide)).expr
 have G:=good W 51 100 (by decide)
 have lv1:lvl 51 100 (ps0.skip U):=⟨fun _=>by omega,by omega⟩
 obtain ⟨i1,i2⟩:(itemM U (ps0.skip U)).1 = nodeM [114,117,108,101] [((lev U 51).expr (ps0.skip U)).1,nodeM [100,101,102,97,117,108,116] []] ∧ (itemM U (ps0.skip U)).2 = ((lev U 51).expr (ps0.skip U)).2:=by
  have ef:=(G.expr.fwd _ f1.ok lv1).ok
  rw [itemM_eq] at ey hk1 ⊢
  rw [hk1] at h1 h2
  generalize (lev U 51).expr = E at ey hk1 h1 h2 ef ⊢
  exact itemG_default W (fun {x} hx=>by rw [hx]; exact ef) ey h1 h2
 rw [hk1,i1]
 rw [i2] at ey yk
 have r0:Rel U s.length 1 1 ps0 ⟨1,1,false,0,0⟩:=⟨ok0,rfl,rfl,rfl,rfl,rfl,by show 1 ≤ 50; decide⟩
 have sl:=skip_lines ns ps0
 have ne:(ps0.lines U).i ≠ a.length:=fun c=>k0 (by
  have:=W.last
  rw [lenU] at this
  rw [sl,cur_o (by rw [← sl]; exact es),c]; exact this)
 have r1:=r0.lines X ne
 rw [sl] at ey yk sd lv1 f1 ⊢
 have q1:=r1.dp
 have sim:=L.sim _ _ r1 (by rw [sd]) (by omega) ey
 have hin:insideM T' (lev T' 50).expr [41] ⟨1,1,false,0,0⟩ = (((lev T' 50).expr (PS.lines T' ⟨1,1,false,0,0⟩)).1,{ (((lev T' 50).expr (PS.lines T' ⟨1,1,false,0,0⟩)).2.lines T').expect T' [41] with flat:=false }):=rfl
 obtain ⟨p1,p2⟩:=paren_exprN (m:=49) (n1:=50) (n2:=51) rfl rfl g0 (by omega) hin
 have pone:∀ {x:Tree} {s2:PS},(lev T' 51).expr ps0 = (x,s2) → (s2.cur T').k = 0 → parseM T' = if s2.err ≠ 0 then .inr (s2.bad,s2.err) else .inl (nodeM [112,114,111,103,114,97,109] [nodeM [114,117,108,101] [x,nodeM [100,101,102,97,117,108,116] []]]):=fun {x s2} he hs=>parse_one g0 (.inl rfl) (by omega) (fun y hy=>by
  simp only [List.mem_cons,List.not_mem_nil,or_false] at hy
  rcases hy with rfl | rfl | rfl | rfl | rfl <;> simp) he hs
 rcases sim with ⟨_,b14⟩ | ⟨ry,ly⟩
 ·
  have e14:((lev T' 51).expr ps0).2.err = 14:=p1 (by
   exact fore (fun q=>(q.lines.expect _).flat false) b14)
  cases hR:(lev T' 51).expr ps0 with
  | mk x s2 =>
    rw [hR] at e14
    have e14:s2.err = 14:=e14
    exact .inl ⟨s2.bad,by rw [pone hR (by rw [cur_z (by omega)]; rfl),if_pos (by omega),e14]⟩
 ·generalize (lev U 51).expr (ps0.lines U) = y at ey yk ry ly ⊢
  have lz:=skip_lines ns y.2
  have iy:(y.2.skip U).i = a.length:=by
   have fy:=(skip_fwd W ry.ok).ok.lt
   refine Classical.byContradiction fun c=>?_
   rw [cur_o (skip_e ry.e)] at yk
   exact nz _ (by omega) yk
  rw [lz] at iy
  have R:=lines_run (T:=U) ry.e
  have nl:=R.nls
  rw [iy] at nl
  have le:=ry.le X
  have okz:=(lines_fwd W' (s:=⟨1,1,false,0,0⟩) ⟨by show 1 < T'.length; omega,.inl rfl,Nat.zero_le _,fun _=>by show 1 ≤ 50; decide⟩)
  have okw:=((good W' 50 100 (by decide)).expr.fwd _ okz.ok ⟨fun _=>by have:=okz.deep; omega,by have:=okz.deep; omega⟩).ok
  generalize hw:(lev T' 50).expr (PS.lines T' ⟨1,1,false,0,0⟩) = w at ry ly p1 p2 okw
  have iw:=ry.i
  have wl:w.2.lines T' = { w.2 with i:=w.2.i + (a.length + 1 - w.2.i) }:=lines_to W' _ _ okw ry.e' (by omega) (by omega) (fun x h1 h2=>by
   obtain ⟨j,rfl⟩:∃ j,x = j + 1:=⟨x - 1,by omega⟩
   rw [X.tk j (by omega)]
   exact nl j (by omega) (by omega)) (by rw [show w.2.i + (a.length + 1 - w.2.i) = a.length + 1 from by omega,gC]; simp)
  rw [show w.2.i + (a.length + 1 - w.2.i) = a.length + 1 from by omega] at wl
  have at1:PS.isAt T' { w.2 with i:=a.length + 1 } [[41]] = true:=by
   unfold PS.isAt
   rw [cur_o (s:={ w.2 with i:=a.length + 1 }) ry.e']
   show ((decide ((T'.getD (a.length + 1) tkz).k = 8) || decide ((T'.getD (a.length + 1) tkz).k = 7)) && decide ((T'.getD (a.length + 1) tkz).t ∈ [[41]])) = true
   rw [gC]; rfl
  have ex:(w.2.lines T').expect T' [41] = { w.2 with i:=a.length + 2 }:=by
   rw [wl]
   unfold PS.expect
   rw [if_pos at1]
   unfold PS.step
   rw [if_pos ⟨ry.e',by show a.length + 1 + 1 < T'.length; omega⟩]
  rw [ex] at p2
  have k2:(PS.cur T' { ({ w.2 with i:=a.length + 2 }:PS) with flat:=false }).k = 0:=by
   rw [cur_o (s:={ ({ w.2 with i:=a.length + 2 }:PS) with flat:=false }) ry.e']
   show (T'.getD (a.length + 2) tkz).k = 0
   rw [gE]
  have he:=p2 k2
  refine .inr ⟨_,(pone he ?_).trans (if_neg ?_),?_⟩
  ·exact congrArg Tokn.k ((cur_at (q:=({ ({ w.2 with i:=a.length + 2 }:PS) with flat:=false }).up) (i:=a.length + 2) ry.e' rfl).trans gE)
  ·exact fun z=>z ry.e'
  ·exact like1 _ (like2 _ ly (.mk (by simp) .nil))
end Go.Proofs.YtkfbldogmgofoaaGreatDoor
namespace Go.Proofs.YtkfbldogmgofoaaGreatDoor
open Mir
variable {h:H} {Q:V → H → Prop} {m:Int}
theorem parsedT_op {src:Txt} {t:Tree} (h:parsedT src = .inl t):∃ l,t = nodeM [112,114,111,103,114,97,109] l:=by
 unfold parsedT at h
 split at h
 ·cases h
 ·unfold parseM at h
  dsimp only at h
  split at h
  ·cases h
  ·cases h; exact ⟨_,rfl⟩
end Go.Proofs.YtkfbldogmgofoaaGreatDoor
namespace Go.Proofs.YtkfbldogmgofoaaGreatDoor
open Mir
variable {h:H} {Q:V → H → Prop} {m:Int} {T:List Tokn} {s:PS} {E S:PF}
theorem itemG_rule (h:(itemG T (blockM T S) E s).1.op = [114,117,108,101]):∃ x y,(itemG T (blockM T S) E s).1 = nodeM [114,117,108,101] [x,y]:=by
 unfold itemG at h ⊢
 by_cases c1:s.isAt T [[66,69,71,73,78]] = true
 ·rw [if_pos c1] at h; exact absurd h (by simp [nodeM,Tree.op])
 rw [if_neg c1] at h ⊢
 by_cases c2:s.isAt T [[69,78,68]] = true
 ·rw [if_pos c2] at h; exact absurd h (by simp [nodeM,Tree.op])
 rw [if_neg c2] at h ⊢
 by_cases c3:s.isAt T [[102,117,110,99,116,105,111,110]] = true
 ·rw [if_pos c3] at h; exact absurd h (by simp [leafM,Tree.op])
 rw [if_neg c3] at h ⊢
 by_cases c4:s.isAt T [[123]] = true
 ·rw [if_pos c4]; exact ⟨_,_,rfl⟩
 rw [if_neg c4]
 dsimp only
 split
 ·exact ⟨_,_,rfl⟩
 ·exact ⟨_,_,rfl⟩
theorem itemM_rule (h:(itemM T s).1.op = [114,117,108,101]):∃ x y,(itemM T s).1 = nodeM [114,117,108,101] [x,y]:=by
 rw [itemM_eq] at h ⊢
 exact itemG_rule h
theorem rule_kids {src:Txt} {k:Tree} (h:parsedT src = .inl (nodeM [112,114,111,103,114,97,109] [k])) (h1:k.op = [114,117,108,101]):∃ x y,k = nodeM [114,117,108,101] [x,y]:=by
 unfold parsedT at h
 cases hl:lexT src with
 | inl j=>rw [hl] at h; cases h
 | inr U =>
   rw [hl] at h
   obtain ⟨e1,et⟩:=parse_inl h
   have hk:[k] = (itemsN U (U.length + 1) [] ps0).1:=congrArg Tree.kids et
   rw [itemsN_s,if_pos (show ps0.err = 0 from rfl)] at hk
   by_cases k0:((ps0.skip U).cur U).k = 0
   ·rw [if_pos k0] at hk; cases hk
   ·rw [if_neg k0,itemsN_acc] at hk
    have hk:[k] = [(itemM U (ps0.skip U)).1] ++ (itemsN U U.length [] (itemM U (ps0.skip U)).2).1:=hk
    rw [List.singleton_append] at hk
    injection hk with hk1 hk2
    rw [hk1] at h1 ⊢
    exact itemM_rule h1
theorem inner_ac (s:Txt) (hq:∀ h',Q (.bool true) h'):AC pg (.fn 11) [.str s] (hP m) Q:=by
 refine AC.fn' (g:=g11) rfl (by simp only [List.length_cons,List.length_nil,g11]; decide) ?_; simp only [g11,Mir.Ab.all]
 refine W0 ?_
 refine lcut_ac s 100 ?_
 obtain ⟨r,hr⟩:∃ r,r = s.take 100:=⟨_,rfl⟩
 have lr:r.length ≤ 100:=by rw [hr,List.length_take]; omega
 rw [← hr]
 refine W0 ?_
 refine E.loopX AC.mono (fun (i:Nat) a' h'=>i ≤ r.length ∧ h' = hP m ∧ a'.d = [] ∧ a'.t 0 = .str r ∧ a'.t 3 = .int .i64 i ∧ ∀ x,x < i → pk r x ≠ 35 ∧ pk r x ≠ 59) (fun i=>r.length - i) 0 ?_ ?_
 ·exact ⟨Nat.zero_le _,rfl,rfl,rfl,rfl,fun x hx=>absurd hx (Nat.not_lt_zero _)⟩
 ·rintro i ⟨t,ds⟩ h1 ⟨hi,rfl,hd,t0,t3,hn⟩
  simp only at hd t0 t3; subst hd
  by_cases ci:i < r.length
  ·have ep:=pk_nat ci
   by_cases c1:pk r i = 35
   ·have d1:(pk r i).toNat = 35:=by rw [c1]; rfl
    refine W3 t0 t3 ep ?_
    refine awake13_ac (m:=m) Sub.refl fun h2 s2=>?_
    refine W0 ?_
    exact ⟨_,Sub.refl,hq _⟩
   have n1:¬ (pk r i).toNat = 35:=fun e=>c1 (u8_eq.2 (e.trans rfl))
   by_cases c2:pk r i = 59
   ·have d2:(pk r i).toNat = 59:=by rw [c2]; rfl
    refine W3 t0 t3 ep ?_
    refine awake13_ac (m:=m) Sub.refl fun h2 s2=>?_
    refine W0 ?_
    exact ⟨_,Sub.refl,hq _⟩
   have n2:¬ (pk r i).toNat = 59:=fun e=>c2 (u8_eq.2 (e.trans rfl))
   refine W3 t0 t3 ep ?_
   refine ⟨i + 1,by omega,ci,by simp,fun x hx=>?_⟩
   by_cases e:x = i
   ·rw [e]; exact ⟨c1,c2⟩
   ·exact hn x (by omega)
  ·obtain rfl:i = r.length:=by omega
   refine W2 t0 t3 ?_
   refine Parse_ac words_P (mm:=m) rfl (by omega) (fun a e h1 hp s1=>?_) fun tr v p h1 hp s1 hv=>?_
   ·have e0:e ≠ 0:=by have:=(parsedT_err (by omega) hp).1; omega
    refine W0 ?_
    intro b hb
    refine W1 e0 ?_
    refine awake13_ac (m:=m) (s1.add hb) fun h2 s2=>?_
    refine W0 ?_
    exact ⟨_,Sub.refl,hq _⟩
   ·obtain ⟨l,rfl⟩:=parsedT_op hp
    obtain ⟨kv,rfl,kb⟩:∃ kv,v = .agg [.str [112,114,111,103,114,97,109],.str [],.int .i64 (0:Nat),kv] ∧ KidsV (hP m) h1 p l kv:=hv.inv
    have kf:=kb.flat
    have kll:=kb.ll
    refine W1 kf ?_
    intro b hb
    have s2:=s1.add (o:=.cells [.str [112,114,111,103,114,97,109],.str [],(.int .i64 (0:Nat)),kv] false) hb
    have c1:hadd h1 b (.cells [.str [112,114,111,103,114,97,109],.str [],(.int .i64 (0:Nat)),kv] false) b = some (.cells [.str [112,114,111,103,114,97,109],.str [],(.int .i64 (0:Nat)),kv] false):=hadd_same
    have kb2:=kb.put (o:=.cells [.str [112,114,111,103,114,97,109],.str [],(.int .i64 (0:Nat)),kv] false) hb
    refine W1 kf ?_
    generalize hadd h1 b (.cells [.str [112,114,111,103,114,97,109],.str [],(.int .i64 (0:Nat)),kv] false) = g1 at s2 c1 kb2 ⊢
    by_cases cl:l.length = 1
    ·obtain ⟨k,rfl⟩:=List.length_eq_one_iff.1 cl
     obtain ⟨b0,cs0,k0,ek,hk0,tk0,kk0,lk0⟩:=kids_get kb2 (i:=0) (by simp)
     rw [Nat.zero_mul,List.drop_zero] at tk0
     have kf0:=kk0.flat
     simp only [List.getD_cons_zero,List.length_cons,List.length_nil,Nat.zero_add] at tk0 kk0 lk0 ek kll
     have ecs:cs0 = nodeC k k0:=by rw [← tk0,List.take_of_length_le (by omega)]
     subst ecs
     subst ek
     by_cases c2:k.op = [114,117,108,101]
     ·obtain ⟨x,y,rfl⟩:=rule_kids hp c2
      have kk1:KidsV (hP m) g1 p [x,y] k0:=kk0
      obtain ⟨b1,cs1,k1,ek1,hk1,tk1,kk2,lk1⟩:=kids_get kk1 (i:=1) (by simp)
      subst ek1
      simp only [List.getD_cons_zero,List.getD_cons_succ,List.length_cons,List.length_nil] at tk1 kk2 lk1
      have hk0':g1 b0 = some (.cells [.str [114,117,108,101],.str [],.int .i64 (0:Nat),.sl b1 0 4 2] false):=hk0
      have e4:cs1[4]? = some (.str y.op):=by
       have:=congrArg (fun l:List V=>l[0]?) tk1
       simpa [nodeC] using this
      by_cases c3:y.op = [100,101,102,97,117,108,116]
      ·rw [c3] at e4
       refine W6 t0 c1 kll hk0' hk1 e4 ?_
       rcases inner_law (s:=r) (by omega) hn hp c2 (by simpa [nodeM,Tree.kids] using c3) with ⟨a14,h14⟩ | ⟨t',hp',lk⟩
       ·rw [show (40 :: (r ++ [41]):Txt) = mid [40] r [41] from rfl]
        refine Parse_ac (Words.of s2) (mm:=m) (s2 _ _ rfl) (by rw [mid_len]; simp; omega) (fun a e h2 hp2 s3=>?_) fun _ _ _ _ hp2 _ _=>by rw [h14] at hp2; cases hp2
        rw [h14] at hp2; cases hp2
        refine W0 ?_
        intro b2 hb2
        refine W0 ?_
        refine awake13_ac (m:=m) (fun x o hx=>(s3.add hb2) _ _ (s2 _ _ hx)) fun h3 s5=>?_
        refine W0 ?_
        exact ⟨_,Sub.refl,hq _⟩
       ·rw [show (40 :: (r ++ [41]):Txt) = mid [40] r [41] from rfl]
        refine Parse_ac (Words.of s2) (mm:=m) (s2 _ _ rfl) (by rw [mid_len]; simp; omega) (fun a e h2 hp2 _=>by rw [hp'] at hp2; cases hp2) fun t2 v2 p2 h2 hp2 s3 hv2=>?_
        rw [hp'] at hp2; cases hp2
        obtain ⟨kv2,rfl,kb3⟩:=hv2.inv
        have kf2:=kb3.flat
        have c2':=s3 _ _ c1
        have kb4:=kb2.up s3
        refine W1 kf2 ?_
        intro b2 hb2
        have s4:=s3.add (o:=.cells [.str t'.op,.str t'.text,.int .i64 t'.at',kv2] false) hb2
        have d1:hadd h2 b2 (.cells [.str t'.op,.str t'.text,.int .i64 t'.at',kv2] false) b2 = some (.cells [.str t'.op,.str t'.text,.int .i64 t'.at',kv2] false):=hadd_same
        have d2:=(Sub.refl.add (o:=.cells [.str t'.op,.str t'.text,.int .i64 t'.at',kv2] false) hb2) _ _ c2'
        have kb5:=kb4.put (o:=.cells [.str t'.op,.str t'.text,.int .i64 t'.at',kv2] false) hb2
        have kb6:=kb3.put (o:=.cells [.str t'.op,.str t'.text,.int .i64 t'.at',kv2] false) hb2
        refine W1 kf2 ?_
        generalize hadd h2 b2 (.cells [.str t'.op,.str t'.text,.int .i64 t'.at',kv2] false) = g2 at s4 d1 d2 kb5 kb6 ⊢
        refine awake13_ac (m:=m) (fun x o hx=>s4 _ _ (s2 _ _ hx)) fun h3 s5=>?_
        have f1:=s5 _ _ d1
        have f2:=s5 _ _ d2
        have n5:NodeV _ h3 _ (nodeM [112,114,111,103,114,97,109] [nodeM [114,117,108,101] [x,y]]) (.agg [.str [112,114,111,103,114,97,109],.str [],(.int .i64 (0:Nat)),.sl b0 0 4 1]):=NodeV.of (t:=nodeM [112,114,111,103,114,97,109] [nodeM [114,117,108,101] [x,y]]) (kb5.up s5)
        have n6:NodeV _ h3 _ t' (.agg [.str t'.op,.str t'.text,.int .i64 t'.at',kv2]):=NodeV.of (kb6.up s5)
        refine W3 f1 f2 kf2 ?_
        refine same_ac _ (nodeM [112,114,111,103,114,97,109] [nodeM [114,117,108,101] [x,y]]) t' (Nat.lt_succ_self _) n5 n6 lk fun h4 s6=>?_
        refine W0 ?_
        exact ⟨_,Sub.refl,hq _⟩
      ·have c3':(y.op = [100,101,102,97,117,108,116]) = False:=eq_false c3
       refine W6 c1 kll hk0' hk1 e4 c3' ?_
       refine awake13_ac (m:=m) s2 fun h2 s3=>?_
       refine W0 ?_
       exact ⟨_,Sub.refl,hq _⟩
     ·have c2':(k.op = [114,117,108,101]) = False:=eq_false c2
      refine W4 c1 kll hk0 c2' ?_
      refine awake13_ac (m:=m) s2 fun h2 s3=>?_
      refine W0 ?_
      exact ⟨_,Sub.refl,hq _⟩
    ·have cl':¬ (l.length:Int) = 1:=by omega
     refine W2 c1 kll ?_
     refine awake13_ac (m:=m) s2 fun h2 s3=>?_
     refine W0 ?_
     exact ⟨_,Sub.refl,hq _⟩
end Go.Proofs.YtkfbldogmgofoaaGreatDoor
namespace Go.Proofs.YtkfbldogmgofoaaGreatDoor
open Mir Go.ChangeShapes Go.WideShapes Go.ChangeAt Go.RowKit
open Go.ChangeMaps (open_string shut_string)
set_option maxRecDepth 100000 in
theorem parseInner_lifted (os:Os) (started:os.Started) (H:Type) (enc:TypeId × Value → H) :
  ReturnsInHanded {} Tryz.checked os 11 .any (fun w args=>(Rows.parseInnerSpec.pre enc Tryz.prog Tryz.f11 Rows.parseInnerRow.domain false w args ∧ laidMet Tryz.prog laidsP w) ∧ sizedMet enc Tryz.prog Tryz.f11 (OpenSpec.ofChange Rows.parseInnerSpec) false w args) (Rows.parseInnerSpec.post enc Tryz.prog Tryz.f11 false true false false):=by
 refine handed_shaped (C:=Tryz.checked) (X:=fun w _=>laidMet Tryz.prog laidsP w) (fun _ _ _ hh h=>h.of_heap hh) Tryz.own started (by kernel_rfl) Tryz.func11
  (ChangeSpec.witness_shaped (enc:=enc) (C:=Tryz.checked) (os:=os) (X:=fun w _=>laidMet Tryz.prog laidsP w) false (laidWorldP os) #[.string ⟨#[]⟩] 8 rfl (World.shaped_of_RefB (by kernel_rfl) (by kernel_rfl)) (by kernel_rfl) (by kernel_rfl) (by kernel_rfl) (laidWorldP_met os _)) ?_
 intro W base args ds gs before hval0 hW hcnd hLd hsh
 obtain ⟨L1,L2,L3,m,S⟩:=startP hLd hsh
 have hval:∀ (j:Nat) t v,Tryz.f11.params[j]? = some t → args[j]? = some v → Value.okWide Tryz.prog W .any base t v:=hval0
 have hW':=hW
 obtain ⟨p,q,hA0,hV,rfl,hfz,hnd⟩:=hW
 have hA:DataW.TrodAll enc Tryz.prog W 0 (fun _=>true) true Tryz.f11.params.toList args.toList ds p:=hA0
 rw [Tryz.params11] at hA hval
 obtain ⟨v0,d0,rfl,rfl,h0⟩:=trodAll_one hA
 obtain ⟨rfl,rfl⟩:=trodVars_none hV
 obtain ⟨s0,rfl,rfl,rfl,w0⟩:=open_string Tryz.underlying9 (hval 0 9 v0 rfl rfl) h0
 clear hA0 hval0
 simp only [List.append_nil] at hW'
 have hcalls:=law_ro (f:=11) rfl (args:=[.str s0.data.toList]) (args':=[.string s0]) (.cons (by have:=VR.str (μ:=muP L1 L2 L3) s0.data.toList; simpa using this) .nil) hP_ro (inner_ac _ (fun _=>rfl)) (P_start S)
 refine hcalls.mono fun e W' ⟨he,hb⟩=>?_
 subst he
 exact ⟨_,rfl,post_of_plain hW' (fun _ _ _=>trodAll_mk1 (shut_bool Tryz.underlying4 true)) (fun sp=>trodAll_mk1 (shut_string Tryz.underlying9 w0)) (fun _=>rfl) hb (ok_one (by kernel_rfl) rfl (okWide_bool_mk Tryz.underlying4 true))⟩
theorem parseInner_holds:Rows.ParseInnerSaid :=
 OpenClaim.holds_of_wide 11 Tryz.f11 rfl rfl rfl rfl rfl rfl rfl ⟨rfl,rfl,rfl,rfl,rfl⟩ rfl rfl rfl rfl rfl (by kernel_rfl) Tryz.func11 (by kernel_rfl)
  (of_decide_eq_true (by kernel_rfl)) (by unfold Func.isWrapper; first | (rw [if_pos (by decide +kernel)]; kernel_rfl) | (rw [if_neg (by decide +kernel)]; exact ⟨rfl,rfl⟩))
  (fun os started H enc _=>parseInner_lifted os started H enc)
theorem parseInnerCard_holds:Rows.ParseInnerCardSaid :=
 Claim7.holds_tied_plain_at .later [] [.data,.data,.data,.widerDeep,.widerDeep,.widerDeep] true (true,"940a08ca661267cf0838873448a6070153acbc0a0ad72a3c6dd6014d7f7e68da") false
  parseInner_holds (fun _ h=>by cases h) (by kernel_rfl) (fun _ h=>by cases h) parseInner_row_tie rfl ⟨rfl,rfl⟩ (by kernel_rfl) rfl
  (fun f fn hf hfn=>by
   obtain rfl:f = 11:=Option.some.inj ((show Tryz.prog.funcNamed "scribe/scribelaw13.ParseInner" = some 11 by kernel_rfl).symm.trans hf) |>.symm
   obtain rfl:fn = Tryz.f11:=(Option.some.inj (Tryz.func11.symm.trans hfn)).symm
   refine ⟨by kernel_rfl,fun j t ht=>?_⟩
   rw [Tryz.params11] at ht
   have h3:t = 9:=by
    rcases j with _ | j <;> simp at ht <;> simp [← ht]
   subst h3
   ·exact (show Tryz.prog.wantsStandIn 9 = false by kernel_rfl))
  (by kernel_rfl)
end Go.Proofs.YtkfbldogmgofoaaGreatDoor
