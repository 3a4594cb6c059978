import Derived.Laws.Cells
import Derived.Laws.Externs
import Derived.Lib.Bytealg
import Derived.Lib.UnsafeStr
import Derived.Test.YtkfbldogmgofoaaGreatDoorK3
set_option linter.unusedSimpArgs false
set_option linter.unusedVariables false
namespace Mir
section
open Go
variable{P:Program}{μ:Mu}{w:World}{n:Nat}{ρ:Opd→V}{ρ':Operand→Value}{v:V}
theorem jQ{fn:Func}(h:qB fn=true):Extern.findNext fn=none:=by
 simp only[qB,Bool.and_eq_true,Option.isNone_iff_eq_none]at h;simp only[Extern.findNext,h.1,h.2,Option.map_none];rfl
theorem AP{fn:Func}(h:fn.name = "internal/bytealg.IndexByteString"):Extern.find fn=some Extern.BytealgIndexByte.indexByte:=by
 have e1:List.lookup "internal/bytealg.IndexByteString" Extern.allGenericRows=none:=by rfl
 have e2:List.lookup "internal/bytealg.IndexByteString" Extern.allTypedRows=none:=by rfl
 have e3:List.lookup "internal/bytealg.IndexByteString" Extern.allRows=some Extern.BytealgIndexByte.indexByte:=by rfl
 simp only[Extern.find,h,e1,e2,e3,Option.map_none];rfl
theorem yA{fn:Func}(h:fn.name = "internal/abi.NoEscape"):Extern.find fn=some Extern.AbiNoEscape.same:=by
 have e1:List.lookup "internal/abi.NoEscape" Extern.allGenericRows=none:=by rfl
 have e2:List.lookup "internal/abi.NoEscape" Extern.allTypedRows=none:=by rfl
 have e3:List.lookup "internal/abi.NoEscape" Extern.allRows=some Extern.AbiNoEscape.same:=by rfl
 simp only[Extern.find,h,e1,e2,e3,Option.map_none];rfl
theorem Dk{fn:Func}(h:fn.name = "internal/bytealg.IndexString"):Extern.find fn=some Extern.BytealgIndex.index:=by
 have e1:List.lookup "internal/bytealg.IndexString" Extern.allGenericRows=none:=by rfl
 have e2:List.lookup "internal/bytealg.IndexString" Extern.allTypedRows=none:=by rfl
 have e3:List.lookup "internal/bytealg.IndexString" Extern.allRows=some Extern.BytealgIndex.index:=by rfl
 simp only[Extern.find,h,e1,e2,e3,Option.map_none];rfl
theorem Gg{s t:List UInt8}{m:Int}{g:Nat}(hg:Bq P=some g)(hc:w.cell? ⟨g,0,none⟩=some (.int .i64 m))(h2:2≤t.length)(hm:(t.length:Int)≤m)(hs:s.length<4294967281):
  (Extern.BytealgIndex.index #[.string ⟨s.toArray⟩,.string ⟨t.toArray⟩]).run P w=.ok (.int .i64 (cu t s)) w:=by
 have e1:(Extern.BytealgIndex.maxLen).run P w=.ok m w:=by
  unfold Bq at hg;simp[Extern.BytealgIndex.maxLen,globalAddr,hg,asInt,asIntOf,run_load,hc]
 have e0:Extern.BytealgIndex.index #[.string ⟨s.toArray⟩,.string ⟨t.toArray⟩]=(do
  let a ← (pure (⟨s.toArray⟩:ByteArray):Sem ByteArray)
  let b ← (pure (⟨t.toArray⟩:ByteArray):Sem ByteArray)
  if b.size<2||(b.size:Int)>(← Extern.BytealgIndex.maxLen)then unsupported (.noEntry "extern/internal/bytealg.Index.length")
  if a.size≥2 ^ 32-15 then unsupported (.noEntry "extern/internal/bytealg.Index: a haystack of 2^32 - 15 bytes or more")
  match (List.range (a.size+1-b.size)).find? fun i=>a.extract i (i+b.size)==b with
  |some i=>pure (goInt i)
  |none=>pure (goInt (-1))):=rfl
 rw[e0];simp only[Sem.run_bind,Sem.run_pure,Result.andThen_ok,e1,dJ];rw[if_neg (by simp;omega),if_neg (by rw[show(2 ^ 32-15:Nat)=4294967281 from by decide];omega)];unfold cu;simp only[jV,bytes_beq];generalize List.find? _ _=o;cases o<;>rfl
theorem GH(c:UInt8):∀l:List UInt8,Lib.indexByte l c=mG c l
 |[]=>rfl
 |b::l=>by simp only[Lib.indexByte,mG,GH c l,beq_iff_eq]
theorem aC{s:Sem Value}{d:Value}{w':World}(h:s.run P w=.ok d w'):(do let x ← s;pure (Next.value x):Sem Next).run P w=.ok (.value d) w':=by simp[h]
theorem yC{t:TypeId}(h:t∈nI P):(∃k,P.underlying t=some (.int k))∧∃i,P.info? t=some i∧i.comparable=true:=by
 unfold nI at h;have h2:=(List.mem_filter.1 h).2;split at h2
 ·rename_i k i e1 e2;exact⟨⟨k,e1⟩,i,e2,h2⟩
 ·cases h2
theorem EU{t:TypeId}{ms:_}(hu:P.underlying t=some (.interface ms)){x y:V}{b:Bool}{dx dy:Value}(hx:VR μ x dx)(hy:VR μ y dy)(he:OJ (nI P) x y=some b)(n:Nat):
  (Op.equalIn (n+2) t dx dy).run P w=.ok b w∧¬(dx=.nilIface∧dy=.nilIface)∧(dx=.nilIface∨∃u d,dx=.iface u d)∧(dy=.nilIface∨∃u d,dy=.iface u d):=by
 unfold OJ at he;split at he
 ·cases he;cases hx;cases hy;exact⟨by simp[Op.equalIn,au hu],by simp,.inl rfl,.inr ⟨_,_,rfl⟩⟩
 ·cases he;cases hx;cases hy;exact⟨by simp[Op.equalIn,au hu],by simp,.inr ⟨_,_,rfl⟩,.inl rfl⟩
 ·cases hx with
  |iface hx =>
    cases hy with
    |iface hy =>
      cases hx;cases hy;refine⟨?_,by simp,.inr ⟨_,_,rfl⟩,.inr ⟨_,_,rfl⟩⟩;split at he
      ·rename_i e;subst e;split at he
       ·rename_i e2;obtain⟨e3,e4⟩:=e2;subst e3;cases he;obtain⟨hk,i,h2,h3⟩:=yC e4;rename_i tt kk a1 b1;have h5:(Op.equalIn (n+1) tt (.int kk a1) (.int kk b1)).run P w=.ok (a1==b1) w:=jC (c:=.int) (μ:=μ) (t:=tt) hk (VR.int kk a1) (VR.int kk b1) (by simp[eQ]) n;rw[Op.equalIn];simp only[Sem.run_bind,au hu,Result.andThen_ok,ne_eq,not_true_eq_false,if_false,run_typeInfo_some h2,h3,Bool.not_true,Bool.false_eq_true];exact h5
       ·cases he
      ·rename_i e;cases he;rw[Op.equalIn];simp only[Sem.run_bind,au hu,Result.andThen_ok,ne_eq,e,not_false_eq_true,if_true,Sem.run_pure]
 ·cases he
theorem yN{neg:Bool}{t:TypeId}{x y:Operand}{a b:Opd}{k:PK}(hc:cEq P neg t x y a b=some k)(hx:VR μ (ρ a) (ρ' x))(hy:VR μ (ρ b) (ρ' y))
  (hcx:isConst x=true→∃c,x=.const c) (hcy:isConst y=true→∃c,y=.const c) (he:k.ev ρ=some v):
  ∃d,VR μ v d∧(do eqGuard (if neg then .neq else .eql) t x y (ρ' x) (ρ' y);binOp (if neg then .neq else .eql) t (ρ' x) (ρ' y):Sem Value).run P w=.ok d w:=by
 have fin:∀(c:EqC),EqT P t c→c≠.int→c≠.str→c≠.iface→PK.ev ρ (.eq c neg a b)=some v →
   ∃d,VR μ v d∧(do eqGuard (if neg then .neq else .eql) t x y (ρ' x) (ρ' y);binOp (if neg then .neq else .eql) t (ρ' x) (ρ' y):Sem Value).run P w=.ok d w:=by
  intro c hT h1 h2 h3 he;simp only[PK.ev]at he;cases hb:eQ c (ρ a) (ρ b)with
  |none=>simp[hb]at he
  |some r =>
    simp[hb]at he;subst he;refine⟨_,.bool _,?_⟩;have hs:=jC hT hx hy hb (w:=w) 9999;generalize ρ' x=dx at *;generalize ρ' y=dy at *;cases c<;>first|(exact absurd rfl h1)|(exact absurd rfl h2)|(exact absurd rfl h3)|skip
    all_goals
     generalize ρ a=va at *;generalize ρ b=vb at *;cases hx<;>simp only[eQ]at hb<;>(try cases hb;done)<;>cases hy<;>simp only[eQ]at hb<;>(try cases hb;done)
     all_goals (cases neg<;>simp[eqGuard_at_bool,eqGuard_at_pointer,eqGuard_at_slice,eqGuard_at_map,eqGuard_at_func,eqGuard_at_nilFunc,binOp,Op.equal,Op.maxDepth,hs])
 unfold cEq at hc;split at hc
 ·cases hc;simp only[PK.ev]at he;exact mY hx hy he t x y
 ·cases hc;simp only[PK.ev]at he;exact mY hx hy he t x y
 ·rename_i hu;cases hc;exact fin .bool hu (by simp) (by simp) (by simp) he
 ·rename_i e hu;split at hc
  ·rename_i s hs;split at hc
   ·cases hc
   ·rename_i h0;cases hc;exact fin .ptr ⟨e,s,hu,hs,h0⟩ (by simp) (by simp) (by simp) he
  ·cases hc
 ·rename_i e hu;cases hc;exact fin .sl ⟨e,hu⟩ (by simp) (by simp) (by simp) he
 ·rename_i e e' hu;cases hc;exact fin .map ⟨e,e',hu⟩ (by simp) (by simp) (by simp) he
 ·rename_i e e' e'' hu;cases hc;exact fin .fn ⟨e,e',e'',hu⟩ (by simp) (by simp) (by simp) he
 ·rename_i ms hu;split at hc
  ·rename_i hcon;cases hc;simp only[PK.ev]at he;cases hb:eQ .iface (ρ a) (ρ b)with
   |none=>simp[hb]at he
   |some r =>
     simp[hb]at he;subst he;refine⟨_,.bool _,?_⟩;have hs:=jC (c:=.iface) (t:=t) (P:=P) ⟨ms,hu⟩ hx hy hb (w:=w) 9999;have hg:(eqGuard (if neg then .neq else .eql) t x y (ρ' x) (ρ' y)).run P w=.ok () w:=by
      simp only[Bool.or_eq_true]at hcon;generalize ρ' x=dx at *;generalize ρ' y=dy at *;generalize ρ a=va at *;generalize ρ b=vb at *;cases hx<;>simp only[eQ]at hb<;>(try cases hb;done)<;>cases hy<;>simp only[eQ]at hb<;>(try cases hb;done)
      ·cases neg<;>simp[eqGuard]
      ·rw[eqGuard_nil_iface];simp
      ·rcases hcon with h|h
       ·obtain⟨c,rfl⟩:=hcx h;rw[eqGuard_nil_constL];simp
       ·obtain⟨c,rfl⟩:=hcy h;rw[eqGuard_nil_constR];simp
     rw[Sem.run_bind,hg];simp only[Result.andThen_ok];generalize ρ' x=dx at *;generalize ρ' y=dy at *;generalize ρ a=va at *;generalize ρ b=vb at *;cases hx<;>simp only[eQ]at hb<;>(try cases hb;done)<;>cases hy<;>simp only[eQ]at hb<;>(try cases hb;done)
     all_goals (cases neg<;>simp[binOp,Op.equal,Op.maxDepth,hs])
  ·cases hc;simp only[PK.ev]at he;cases hb:OJ (nI P) (ρ a) (ρ b)with
   |none=>simp[hb]at he
   |some r =>
     simp[hb]at he;subst he;refine⟨_,.bool _,?_⟩;obtain⟨hs,hn,hdx,hdy⟩:=EU (w:=w) hu hx hy hb 9998;generalize ρ' x=dx at *;generalize ρ' y=dy at *;rcases hdx with rfl|⟨u,d,rfl⟩<;>rcases hdy with rfl|⟨u',d',rfl⟩
     ·exact absurd ⟨rfl,rfl⟩ hn
     all_goals (cases neg<;>simp[eqGuard,binOp,Op.equal,Op.maxDepth,hs])
 ·rename_i fs hu;cases hs:fC P t with
  |none=>simp[hs]at hc
  |some cs =>
    simp[hs]at hc;subst hc;simp only[PK.ev]at he;cases hxa:ρ a<;>simp only[hxa]at he<;>(try cases he;done);rename_i xs;cases hya:ρ b<;>simp only[hya]at he<;>(try cases he;done);rename_i ys;rw[hxa]at hx;rw[hya]at hy;obtain⟨r,hr,rfl⟩:=Option.map_eq_some_iff.1 he;refine⟨_,.bool _,?_⟩;have hq:=oG (w:=w) hs hx hy hr 9998;have hg2:P.eqGuardType P.depth t=false:=by
     unfold fC at hs;rw[hu]at hs;simp only at hs;split at hs
     ·rename_i h;exact h.2
     ·cases hs
    obtain⟨ds,e1,_⟩:=hx.agg_inv;obtain⟨es,e2,_⟩:=hy.agg_inv;rw[e1,e2]at hq⊢;cases neg<;>simp[eqGuard,hg2,binOp,Op.equal,Op.maxDepth,hq]
 ·cases hc
abbrev Rho(P:Program)(n:Nat)(μ:Mu)(ρ:Opd→V)(ρ':Operand→Value):Prop:=∀x y,aH P n x=some y→VR μ (ρ y) (ρ' x)
theorem jr(x:Operand):isConst x=true→∃c,x=.const c:=by
 cases x<;>simp[isConst]
theorem VR.str_inv{s:List UInt8}{d:Value}(h:VR μ (.str s) d):d=.string ⟨s.toArray⟩:=by cases h;rfl
theorem VR.int_inv{k:IntKind}{i:Int}{d:Value}(h:VR μ (.int k i) d):d=.int k i:=by cases h;rfl
theorem VR.bool_inv{b:Bool}{d:Value}(h:VR μ (.bool b) d):d=.bool b:=by cases h;rfl
theorem VR.ptr_inv{b o:Nat}{d:Value}(h:VR μ (.ptr b o) d):∃L,μ b=some L∧d=.pointer (some ⟨L.B,L.s+o,none⟩):=by cases h;exact⟨_,‹_›,rfl⟩
theorem VR.sl_inv{b o es len:Nat}{d:Value}(h:VR μ (.sl b o es len) d):
  ∃L o' cap,μ b=some L∧(0<len→o'=o)∧len≤cap∧L.s+o'+cap*es≤L.n∧0<es∧d=.slice (some ⟨L.B,L.s+o',none⟩) len cap:=by
 cases h;exact⟨_,_,_,‹_›,‹_›,‹_›,‹_›,‹_›,rfl⟩
theorem VR.nilsl_inv{d:Value}(h:VR μ .nilsl d):d=.slice none 0 0:=by cases h;rfl
theorem VR.map_inv{b:Nat}{d:Value}(h:VR μ (.map b) d):∃L,μ b=some L∧d=.map (some L.B):=by cases h;exact⟨_,‹_›,rfl⟩
theorem VR.iface_inv{t:Nat}{v:V}{d:Value}(h:VR μ (.iface t v) d):∃u,d=.iface t u∧VR μ v u:=by cases h;exact⟨_,rfl,‹_›⟩
theorem add_lit(b o j:Nat):Addr.add ⟨b,o,none⟩ j=⟨b,o+j,none⟩:=Addr.add_lit b o j
theorem yI{t e:TypeId}{s:Nat}{x:Operand}{a:Opd}{l h:Option Operand}{l' h':Option Opd}(hρ:Rho P n μ ρ ρ')(hu:P.underlying t=some (.slice e))(hs:fZ P e=some s)
  (hx:aH P n x=some a) (hl:uU P n l=some l') (hh:uU P n h=some h') (he:PK.ev ρ (.subSl s a l' h')=some v):
  ∃d,VR μ v d∧(Instr.sliceAt t (ρ' x) (l.map ρ') (h.map ρ') none).run P w=.ok d w:=by
 have hv:=hρ x a hx;simp only[PK.ev]at he;cases ha:ρ a<;>simp[ha]at he
 case sl b o es len =>
  rw[ha]at hv;obtain⟨hes,i,j,hb,rfl⟩:=he;subst hes;obtain⟨L,o',cap,hL,ho,hc,hn,hp,e'⟩:=hv.sl_inv;obtain⟨hr,hij,hjl⟩:=jk (w:=w) hρ hl hh hc hb true;refine⟨_,.sl (L:=L) (o':=if cap=i then o' else o'+i*s) (cap:=cap-i) hL ?_ (by omega) ?_ hp,?_⟩
  ·intro hlt;rw[if_neg (by omega),ho (by omega)]
  ·split
   ·rename_i e;subst e;simp;exact Nat.le_trans (Nat.le_add_right _ _) hn
   ·have:(cap-i)*s+i*s=cap*s:=by rw[← Nat.add_mul];congr 1;omega
    omega
  ·rw[e'];simp only[Instr.sliceAt,Sem.run_bind,au hu,Result.andThen_ok,Instr.slice,hr,run_sizeOf hs,Sem.run_pure];congr 2;split
   ·rfl
   ·simp only[Option.map_some,add_lit];rw[Nat.add_assoc]
 case nilsl =>
  rw[ha]at hv;obtain⟨⟨i,j,hb⟩,rfl⟩:=he;rw[hv.nilsl_inv];obtain⟨hr,hij,hjl⟩:=jk (w:=w) hρ hl hh (Nat.le_refl 0) hb true;refine⟨_,.nilsl,?_⟩;have hi0:i=0:=by omega
  have hj0:j=0:=by omega
  subst hi0;subst hj0;simp[Instr.sliceAt,au hu,Instr.slice,hr,run_sizeOf hs]
theorem AZ{t e:TypeId}{k s:Nat}{g:Bool}{a b:Opd}{da db:Value}(hu:P.underlying t=some (.array k e))(hs:szA P e=some (s,g))(ha:VR μ (ρ a) da)(hb:VR μ (ρ b) db)
  (he:PK.ev ρ (.idxAgg k s g a b)=some v):∃d,VR μ v d∧(Instr.index t da db).run P w=.ok d w:=by
 simp only[PK.ev]at he;cases ea:ρ a<;>simp only[ea]at he<;>(try cases he;done);cases eb:ρ b<;>simp only[eb]at he<;>(try cases he;done);rename_i cs kk i;rw[ea]at ha;rw[eb]at hb;split at he
 ·rename_i h1;obtain⟨ds,rfl,hv⟩:=ha.agg_inv;rw[hb.int_inv];obtain⟨d,hd,hr⟩:=xu (w:=w) hs hv he;refine⟨d,hd,?_⟩;simp[Instr.index,asIntOf,au hu,h1,run_sizeOf (x8 hs),hr]
 ·cases he
theorem qL{f:Value→Option V}(hf:∀d v,f d=some v→VR μ v d):∀(ds:List Value) (vs:List V),Es f ds=some vs→VRs μ vs ds
 |[],vs,h=>by simp only[Es]at h;cases h;exact .nil
 |d::ds,vs,h=>by
   simp only[Es]at h;split at h
   ·rename_i x xs h1 h2;cases h;exact .cons (hf _ _ h1) (qL hf ds xs h2)
   ·cases h
theorem kY:∀(k:Nat) (d:Value) (v:V),toV k d=some v→VR μ v d
 |0,d,v,h=>by simp only[toV]at h;cases h
 |k+1,d,v,h=>by
   simp only[toV]at h;split at h
   ·cases h;exact .bool _
   ·cases h;exact .int _ _
   ·rename_i s;cases h;exact .str s.data.toList
   ·cases h;exact .nilptr
   ·cases h;exact .nilsl
   ·cases h;exact .nilmap
   ·cases h;exact .nilfn
   ·cases h;exact .nilif
   ·rename_i f a c;split at h
    ·rename_i e;cases h;have ha:a=#[]:=Array.eq_empty_of_size_eq_zero e.1;have hc:c=#[]:=Array.eq_empty_of_size_eq_zero e.2;subst ha;subst hc;exact VR.mkFn .nil .nil
    ·cases h
   ·rename_i t u;cases hu:toV k u with
    |none=>simp[hu]at h
    |some x=>simp[hu]at h;subst h;exact .iface (kY k u x hu)
   ·rename_i cs;cases hu:Es (toV k) cs.toList with
    |none=>simp[hu]at h
    |some x=>simp[hu]at h;subst h;have:=VR.mkAgg (qL (kY k) _ _ hu);simpa using this
   ·rename_i cs;cases hu:Es (toV k) cs.toList with
    |none=>simp[hu]at h
    |some x=>simp[hu]at h;subst h;have:=VR.mkTup (qL (kY k) _ _ hu);simpa using this
   ·cases h
theorem oJ{t:TypeId}{v:V}(h:zN P t=some v):∃d,VR μ v d∧∀w,(zeroValue t).run P w=.ok d w:=by
 unfold zN at h;split at h
 ·rename_i i hi;split at h
  ·rename_i z hz;exact⟨z,kY 4 z v h,fun w=>by simp[zeroValue,run_typeInfo_some hi,hz]⟩
  ·cases h
 ·cases h
theorem iC{t:TypeId}{z:List V}(h:lV P t=some z):∃d ds,(∀w,(zeroValue t).run P w=.ok d w)∧d.cells=ds.toArray∧VRs μ z ds∧fZ P t=some z.length∧0<z.length∧z.all V.flat=true:=by
 unfold lV at h;split at h
 ·rename_i zv s h1 h2;split at h
  ·rename_i hc;cases h;obtain⟨d,hd,hr⟩:=oJ (μ:=μ) h1;obtain⟨ds,hds,hv⟩:=hd.cells hc.2.1;refine⟨d,ds,hr,hds,hv,by rw[h2,hc.1],by omega,hc.2.1⟩
  ·cases h
 ·cases h
theorem vN{p p':Nat→Option (Nat × Nat)}(h:∀i x,p i=some x→p' i=some x):∀(ps:List (Nat × Operand)) (qs:List (Nat × Nat × Opd)),iG P n p ps=some qs→iG P n p' ps=some qs
 |[],qs,hq=>by simpa[iG]using hq
 |(i,x)::ps,qs,hq=>by
   simp only[iG]at hq⊢;split at hq
   ·rename_i o s y qs' h1 h2 h3;cases hq;rw[h _ _ h1,h2,vN h ps qs' h3]
   ·cases hq
theorem mr(w:World):∀(fs:List Field),fs.all (fun f=>(fZ P f.type).isSome)=true →
  (fs.mapM (fun f=>do let s ← Go.sizeOf f.type;pure (f.offset,s)):Sem (List (Nat × Nat))).run P w=.ok (fs.map fun f=>(f.offset,(fZ P f.type).getD 0)) w
 |[],_=>by simp
 |f::fs,h=>by
   simp only[List.all_cons,Bool.and_eq_true]at h;obtain⟨s,hs⟩:=Option.isSome_iff_exists.1 h.1;simp only[List.mapM_cons,Sem.run_bind,run_sizeOf hs,Result.andThen_ok,Sem.run_pure,mr w fs h.2,List.map_cons,hs,Option.getD_some]
theorem run_places(w:World)(fs:Array Field)(h:fs.toList.all (fun f=>(fZ P f.type).isSome)=true):
  (fs.mapM (fun f=>do let s ← Go.sizeOf f.type;pure (f.offset,s)):Sem (Array (Nat × Nat))).run P w=.ok (fs.map fun f=>(f.offset,(fZ P f.type).getD 0)) w:=by
 rw[Array.mapM_eq_mapM_toList];rw[Sem.run_map,mr w fs.toList h];simp only[Result.andThen_ok];congr 1;apply Array.toList_inj.1;simp
theorem um{t:TypeId}{ps:Array (Nat × Operand)}{z:List V}{qs:List (Nat × Nat × Opd)}(hρ:Rho P n μ ρ ρ')(hz:lV P t=some z)
  (hq:(∃fs,P.underlying t=some (.struct fs)∧fs.toList.all (fun f=>(fZ P f.type).isSome)=true∧iG P n (AO P fs) ps.toList=some qs)∨(∃k e s,P.underlying t=some (.array k e)∧fZ P e=some s∧iG P n (fun i=>some (i*s,s)) ps.toList=some qs))
  (he:PK.ev ρ (.build z qs)=some v):∃d,VR μ v d∧(Instr.build t (ps.map fun p=>(p.1,ρ' p.2))).run P w=.ok d w:=by
 obtain⟨d,ds,hd,hcs,hv,hs,_⟩:=iC (μ:=μ) hz;simp only[PK.ev]at he;cases hf:di ρ z qs with
 |none=>simp[hf]at he
 |some r =>
   simp[hf]at he;subst he;rcases hq with⟨fs,hu,hall,hc⟩|⟨k,e,s,hu,hse,hc⟩
   ·have hm:=run_places (P:=P) w fs hall;obtain⟨es,h1,h2⟩:=qp hρ _ ps.toList qs z ds r (vN (p':=((fs.map fun f=>(f.offset,(fZ P f.type).getD 0))[·]?)) (fun i x h=>by
     unfold AO at h;cases hi:fs[i]? with
     |none=>simp[hi]at h
     |some f =>
       simp only[hi]at h;obtain⟨s,hs',rfl⟩:=Option.map_eq_some_iff.1 h;simp[hi,hs']) _ _ hc) hv hf
    refine⟨_,VR.mkAgg h2,?_⟩;simp only[Instr.build,Sem.run_bind,hd,Result.andThen_ok,au hu,hcs,hm];rw[show(ps.map fun p=>(p.1,ρ' p.2)).toList=ps.toList.map fun p=>(p.1,ρ' p.2)from Array.toList_map ..];rw[h1];rfl
   ·obtain⟨es,h1,h2⟩:=qp hρ (fun i=>some (i*s,s)) ps.toList qs z ds r hc hv hf;refine⟨_,VR.mkAgg h2,?_⟩;simp only[Instr.build,Sem.run_bind,hd,Result.andThen_ok,au hu,run_sizeOf hse,hcs];rw[show(ps.map fun p=>(p.1,ρ' p.2)).toList=ps.toList.map fun p=>(p.1,ρ' p.2)from Array.toList_map ..];rw[h1];rfl
theorem aY{x:Operand}{a:Opd}(hρ:Rho P n μ ρ ρ')(hx:aH P n x=some a):VR μ (ρ a) (ρ' x):=hρ x a hx
theorem yx{b:Builtin}{args:Array Operand}{ts:Array TypeId}{type:TypeId}{k:PK}(hρ:Rho P n μ ρ ρ')(hc:iT P n b args.toList ts.toList=some (.p k))(he:k.ev ρ=some v):
  ∃d,VR μ v d∧∀consts,(builtin b ts type consts (args.map ρ')).run P w=.ok (.value d) w:=by
 have hargs:(args.map ρ').toList=args.toList.map ρ':=Array.toList_map ..;unfold iT at hc;split at hc
 ·rename_i x t tl hA hT;have h0:(args.map ρ')[0]?=some (ρ' x):=by rw[← Array.getElem?_toList,hargs,hA];simp
  have t0:ts[0]?=some t:=by rw[← Array.getElem?_toList,hT];simp
  split at hc
  ·rename_i a h1 h2;cases hc;have hv:=aY hρ h1;simp only[PK.ev]at he;cases ha:ρ a<;>simp only[ha]at he<;>(try cases he;done);rw[ha]at hv;cases he;refine⟨_,.int _ _,fun consts=>?_⟩;simp only[builtin];refine aC ?_;simp[Builtin.len_,h0,t0,au h2,hv.str_inv,dJ,goInt]
  ·rename_i a e h1 h2;cases hc;have hv:=aY hρ h1;simp only[PK.ev]at he;cases ha:ρ a<;>simp only[ha]at he<;>(try cases he;done)
   ·rw[ha]at hv;cases he;obtain⟨L,o',cap,hL,ho,hc',hn,hp,e'⟩:=hv.sl_inv;refine⟨_,.int _ _,fun consts=>?_⟩;simp only[builtin];refine aC ?_;simp[Builtin.len_,h0,t0,au h2,e',goInt]
   ·rw[ha]at hv;cases he;refine⟨_,.int _ _,fun consts=>?_⟩;simp only[builtin];refine aC ?_;simp[Builtin.len_,h0,t0,au h2,hv.nilsl_inv,goInt]
  ·cases hc
  ·rename_i a k' e h1 h2;cases hc;simp only[PK.ev]at he;cases he;refine⟨_,.int _ _,fun consts=>?_⟩;simp only[builtin];refine aC ?_;simp[Builtin.len_,h0,t0,au h2,goInt]
  ·cases hc
 ·rename_i x xs _ hA;split at hc
  ·rename_i a as h1 h2;cases hc;simp only[PK.ev]at he;obtain⟨d,hd,hr⟩:=zh (P:=P) (w:=w) false _ _ _ _ _ (lU hρ _ _ h2) (aY hρ h1) he;refine⟨d,hd,fun consts=>?_⟩;simp only[builtin];refine aC ?_;simp only[Builtin.min_,hargs,hA,List.map_cons];simpa using hr
  ·cases hc
 ·rename_i x xs _ hA;split at hc
  ·rename_i a as h1 h2;cases hc;simp only[PK.ev]at he;obtain⟨d,hd,hr⟩:=zh (P:=P) (w:=w) true _ _ _ _ _ (lU hρ _ _ h2) (aY hρ h1) he;refine⟨d,hd,fun consts=>?_⟩;simp only[builtin];refine aC ?_;simp only[Builtin.max_,hargs,hA,List.map_cons];simpa using hr
  ·cases hc
 ·exfalso
  repeat' (first|(cases hc;done)|(obtain⟨_,_,e⟩:=Option.map_eq_some_iff.1 hc;cases e;done)|split at hc)
 ·exfalso
  repeat' (first|(cases hc;done)|(obtain⟨_,_,e⟩:=Option.map_eq_some_iff.1 hc;cases e;done)|split at hc)
 ·rename_i x hA;obtain⟨a,h1,e⟩:=Option.map_eq_some_iff.1 hc;cases e;have hv:=aY hρ h1;have hm:args.map ρ'=#[ρ' x]:=by apply Array.toList_inj.1;rw[hargs,hA];rfl
  simp only[PK.ev]at he;cases ha:ρ a<;>simp only[ha]at he<;>(try cases he;done)
  ·rw[ha]at hv;split at he
   ·rename_i hl;cases he;obtain⟨L,o',cap,hL,ho,hc',hn,hp,e'⟩:=hv.sl_inv;refine⟨_,.ptr hL,fun consts=>?_⟩;simp only[builtin];refine aC ?_;rw[hm,e',ho hl];exact Lib.run_unsafeSliceData_row w ts type _ _ cap (by omega)
   ·cases he
  ·rw[ha]at hv;cases he;refine⟨_,.nilptr,fun consts=>?_⟩;simp only[builtin];refine aC ?_;rw[hm,hv.nilsl_inv];exact Lib.run_unsafeSliceData_nil w ts type _ _
 all_goals (repeat' (first|(cases hc;done)|(obtain⟨_,_,e⟩:=Option.map_eq_some_iff.1 hc;cases e;done)|split at hc))
set_option maxHeartbeats 4000000 in
theorem NE{op:Op}{k:PK}(hc:cOp P n op=some (.p k))(hρ:Rho P n μ ρ ρ')(he:k.ev ρ=some v)(o:Oper)(ho:o.op=op)(hF:∀f,ρ' (.func f)=.func (.func f) #[] #[]):
  ∃d,VR μ v d∧(execOp ρ' o).run P w=.ok (.value d) w:=by
 obtain⟨dst,op',type,pos,after,guard⟩:=o;simp only at ho;subst ho;cases op' with
 |move x =>
   simp only[cOp]at hc;obtain⟨a,hx,hk⟩:=Option.map_eq_some_iff.1 hc;cases hk;simp only[PK.ev]at he;cases he;exact⟨_,aY hρ hx,by simp[execOp]⟩
 |assign x =>
   simp only[cOp]at hc;obtain⟨a,hx,hk⟩:=Option.map_eq_some_iff.1 hc;cases hk;simp only[PK.ev]at he;cases he;exact⟨_,aY hρ hx,by simp[execOp]⟩
 |pick c x y =>
   simp only[cOp]at hc;split at hc
   ·rename_i c' a b h1 h2 h3;cases hc;simp only[PK.ev]at he;have hv:=aY hρ h1;cases hcv:ρ c'<;>simp only[hcv]at he<;>(try cases he;done);rename_i bb;rw[hcv]at hv;cases he;refine⟨if bb then ρ' x else ρ' y,?_,by simp[execOp,hv.bool_inv,asBool]⟩;cases bb
    ·exact aY hρ h3
    ·exact aY hρ h2
   ·cases hc
 |build t ps =>
   simp only[cOp]at hc;split at hc
   ·rename_i fs z hu hz;split at hc
    ·rename_i hall;obtain⟨qs,hq,hk⟩:=Option.map_eq_some_iff.1 hc;cases hk;obtain⟨d,hd,hr⟩:=um (w:=w) hρ hz (.inl ⟨fs,hu,hall,hq⟩) he;exact⟨d,hd,by simp only[execOp];exact aC hr⟩
    ·cases hc
   ·rename_i k' e z hu hz;split at hc
    ·rename_i s hs;obtain⟨qs,hq,hk⟩:=Option.map_eq_some_iff.1 hc;cases hk;obtain⟨d,hd,hr⟩:=um (w:=w) hρ hz (.inr ⟨_,e,s,hu,hs,hq⟩) he;exact⟨d,hd,by simp only[execOp];exact aC hr⟩
    ·cases hc
   ·cases hc
 |nilCheck x =>
   simp only[cOp]at hc;obtain⟨a,hx,hk⟩:=Option.map_eq_some_iff.1 hc;cases hk;have hv:=aY hρ hx;simp only[PK.ev]at he;generalize ρ a=va at *;simp only[execOp];generalize ρ' x=dx at *;cases hv<;>simp only at he<;>(try cases he;done)<;>cases he
   all_goals first
    |exact⟨_,VR.fn ‹_› ‹_› ‹_› ‹_›,by simp⟩
    |exact⟨_,VR.agg ‹_› ‹_›,by simp⟩
    |exact⟨_,VR.tup ‹_› ‹_›,by simp⟩
    |exact⟨_,VR.iface ‹_›,by simp⟩
    |exact⟨_,VR.sl ‹_› ‹_› ‹_› ‹_› ‹_›,by simp⟩
    |exact⟨_,VR.ptr ‹_›,by simp⟩
    |exact⟨_,VR.map ‹_›,by simp⟩
    |exact⟨_,VR.yield ‹_›,by simp⟩
    |exact⟨_,by constructor,by simp⟩
 |binOp op t x y u =>
   simp only[cOp]at hc;split at hc
   ·rename_i a b h1 h2;have hx:=aY hρ h1;have hy:=aY hρ h2;have gen:∀d,(do eqGuard op t x y (ρ' x) (ρ' y);binOp op t (ρ' x) (ρ' y):Sem Value).run P w=.ok d w →
      (execOp ρ' {dst:=dst,op:=.binOp op t x y u,type:=type,pos:=pos,after:=after,guard:=guard}).run P w=.ok (.value d) w:=by
     intro d hd;simp only[execOp];exact aC hd
    split at hc
    ·obtain⟨k',hk,e⟩:=Option.map_eq_some_iff.1 hc;cases e;obtain⟨d,hd,hr⟩:=yN (w:=w) hk hx hy (jr x) (jr y) he;exact⟨d,hd,gen d (by simpa using hr)⟩
    ·obtain⟨k',hk,e⟩:=Option.map_eq_some_iff.1 hc;cases e;obtain⟨d,hd,hr⟩:=yN (w:=w) hk hx hy (jr x) (jr y) he;exact⟨d,hd,gen d (by simpa using hr)⟩
    ·cases hc;simp only[PK.ev]at he;obtain⟨d,hd,hr⟩:=mY (P:=P) (w:=w) hx hy he t x y;exact⟨d,hd,gen d hr⟩
   ·cases hc
 |unOp op t x =>
   simp only[cOp]at hc;obtain⟨a,hx,hk⟩:=Option.map_eq_some_iff.1 hc;cases hk;have hv:=aY hρ hx;simp only[PK.ev]at he;cases ha:ρ a<;>cases op<;>simp only[ha]at he<;>(try cases he;done)
   ·rw[ha]at hv;cases he;exact⟨_,.bool _,by simp[execOp,hv.bool_inv,Op.unary]⟩
   ·rw[ha]at hv;cases he;exact⟨_,.int _ _,by simp[execOp,hv.int_inv,Op.unary,Op.intArith]⟩
   ·rw[ha]at hv;cases he;exact⟨_,.int _ _,by simp[execOp,hv.int_inv,Op.unary,Op.intBits]⟩
 |convert s d x =>
   simp only[cOp]at hc;split at hc
   ·rename_i a k1 k2 h1 h2 h3;cases hc;have hv:=aY hρ h1;simp only[PK.ev]at he;cases ha:ρ a<;>simp only[ha]at he<;>(try cases he;done);rw[ha]at hv;cases he;exact⟨_,.int _ _,by simp[execOp,hv.int_inv,convert,au h2,au h3,Conv.intToInt]⟩
   ·rename_i a h1 h2 h3;cases hc;have hv:=aY hρ h1;simp only[PK.ev]at he;cases ha:ρ a<;>simp only[ha]at he<;>(try cases he;done);rw[ha]at hv;cases he;exact⟨_,.str _,by simp[execOp,hv.str_inv,convert,au h2,au h3]⟩
   ·split at hc<;>cases hc
   ·split at hc<;>cases hc
   ·split at hc<;>cases hc
   ·split at hc<;>cases hc
   ·cases hc
 |makeInterface t x =>
   simp only[cOp]at hc;split at hc
   ·cases hc
   ·rename_i a u hni h1 h2;cases hc;simp only[PK.ev]at he;cases he;refine⟨_,.iface (aY hρ h1),?_⟩;simp only[execOp];refine aC ?_;simp only[Instr.makeInterface,Sem.run_bind,au h2,Result.andThen_ok];cases u<;>first|rfl|exact absurd rfl (hni _ _)
   ·cases hc
 |makeFunc f a c =>
   cases f<;>simp only[cOp]at hc<;>(try cases hc;done);split at hc
   ·rename_i as cs h1 h2;cases hc;simp only[PK.ev]at he;cases he;refine⟨_,VR.mkFn (lU hρ _ _ h1) (lU hρ _ _ h2),?_⟩;simp only[execOp,Instr.makeFunc];refine aC ?_;simp only[Sem.run_pure];congr 2<;>(apply Array.toList_inj.1;simp)
   ·cases hc
 |slice t x l h m =>
   cases m with
   |some m=>simp only[cOp]at hc;cases hc
   |none =>
     simp only[cOp]at hc;split at hc
     ·rename_i a l' h' h1 h2 h3 h4;cases hc;have hv:=aY hρ h1;simp only[PK.ev]at he;cases ha:ρ a<;>simp only[ha]at he<;>(try cases he;done);rename_i s;rw[ha]at hv;obtain⟨⟨i,j⟩,hb,rfl⟩:=Option.map_eq_some_iff.1 he;obtain⟨hr,hij,hjl⟩:=jk (w:=w) hρ h2 h3 (Nat.le_refl s.length) hb false;refine⟨_,.str _,?_⟩;simp only[execOp];refine aC ?_;rw[hv.str_inv];simp only[Instr.sliceAt,Sem.run_bind,au h4,Result.andThen_ok,Instr.slice,Option.map_none,Option.isSome_none,Bool.false_eq_true,if_false,dJ,hr,jV,Sem.run_pure]
     ·rename_i a l' h' e h1 h2 h3 h4;split at hc
      ·rename_i s hs;split at hc
       ·cases hc;obtain⟨d,hd,hr⟩:=yI (w:=w) hρ h4 hs h1 h2 h3 he;exact⟨d,hd,by simp only[execOp,Option.map_none];exact aC hr⟩
       ·cases hc
      ·cases hc
     ·split at hc
      ·split at hc<;>cases hc
      ·cases hc
     ·cases hc
 |fieldAddr t x f =>
   simp only[cOp]at hc;split at hc
   ·rename_i a fs h1 h2;split at hc
    ·rename_i fl hf;split at hc
     ·rename_i s hs;split at hc
      ·cases hc
      ·rename_i h0;cases hc;have hv:=aY hρ h1;simp only[PK.ev]at he;cases ha:ρ a<;>simp only[ha]at he<;>(try cases he;done);rw[ha]at hv;cases he;obtain⟨L,hL,e⟩:=hv.ptr_inv;refine⟨_,.ptr hL,?_⟩;simp only[execOp];refine aC ?_;rw[e];simp[Instr.fieldAt,au h2,hf,Instr.sureAddr,fieldPlace,run_sizeOf hs,h0,add_lit,Nat.add_assoc]
     ·cases hc
    ·cases hc
   ·cases hc
 |field t x f =>
   simp only[cOp]at hc;split at hc
   ·rename_i a fs h1 h2;split at hc
    ·rename_i fl hf;split at hc
     ·rename_i s g hs;cases hc;have hv:=aY hρ h1;simp only[PK.ev]at he;cases ha:ρ a<;>simp only[ha]at he<;>(try cases he;done);rw[ha]at hv;obtain⟨ds,e,hds⟩:=hv.agg_inv;obtain⟨d,hd,hr⟩:=xu (w:=w) hs hds he;refine⟨d,hd,?_⟩;simp only[execOp];refine aC ?_;rw[e];simp[Instr.field,au h2,hf,asAgg,hr]
     ·cases hc
    ·cases hc
   ·cases hc
 |indexAddr t x i =>
   simp only[cOp]at hc;split at hc
   ·rename_i a b e h1 h2 h3;split at hc
    ·rename_i s hs;cases hc;have hv:=aY hρ h1;have hw:=aY hρ h2;simp only[PK.ev]at he;cases ha:ρ a<;>simp only[ha]at he<;>(try cases he;done);cases hb:ρ b<;>simp only[hb]at he<;>(try cases he;done);rename_i b' o es len kk j;rw[ha]at hv;rw[hb]at hw;split at he
     ·rename_i hcond;obtain⟨hes,hj0,hj1⟩:=hcond;subst hes;cases he;obtain⟨L,o',cap,hL,ho,hc',hn,hp,e'⟩:=hv.sl_inv;have ho':=ho (by omega);subst ho';refine⟨_,.ptr hL,?_⟩;simp only[execOp];refine aC ?_;rw[e',hw.int_inv];simp[Instr.indexAt,asIntOf,au h3,hj0,hj1,run_sizeOf hs,add_lit,Nat.add_assoc]
     ·cases he
    ·cases hc
   ·rename_i a b k' e h1 h2 h3;split at hc
    ·rename_i s hs;cases hc;have hv:=aY hρ h1;have hw:=aY hρ h2;simp only[PK.ev]at he;cases ha:ρ a<;>simp only[ha]at he<;>(try cases he;done);cases hb:ρ b<;>simp only[hb]at he<;>(try cases he;done);rename_i b' o kk j;rw[ha]at hv;rw[hb]at hw;split at he
     ·rename_i hcond;obtain⟨hj0,hj1⟩:=hcond;cases he;obtain⟨L,hL,e'⟩:=hv.ptr_inv;refine⟨_,.ptr hL,?_⟩;simp only[execOp];refine aC ?_;rw[e',hw.int_inv];simp[Instr.indexAt,asIntOf,au h3,hj0,hj1,run_sizeOf hs,add_lit,Nat.add_assoc,Instr.sureAddr]
     ·cases he
    ·cases hc
   ·cases hc
 |index t x i =>
   simp only[cOp]at hc;split at hc
   ·rename_i a b h1 h2 h3;cases hc;have hv:=aY hρ h1;have hw:=aY hρ h2;simp only[PK.ev]at he;cases ha:ρ a<;>simp only[ha]at he<;>(try cases he;done);cases hb:ρ b<;>simp only[hb]at he<;>(try cases he;done);rename_i s kk j;rw[ha]at hv;rw[hb]at hw;split at he
    ·rename_i hj;obtain⟨c,hc',rfl⟩:=Option.map_eq_some_iff.1 he;refine⟨_,.int _ _,?_⟩;simp only[execOp];refine aC ?_;rw[hv.str_inv,hw.int_inv];have hg:(⟨s.toArray⟩:ByteArray)[j.toNat]?=some c:=by
      have h1:j.toNat<s.length:=by
       rcases Nat.lt_or_ge j.toNat s.length with h|h
       ·exact h
       ·rw[List.getElem?_eq_none h]at hc';cases hc'
      have h2:j.toNat<(⟨s.toArray⟩:ByteArray).size:=by rw[dJ];exact h1
      rw[getElem?_pos (⟨s.toArray⟩:ByteArray) j.toNat h2];rw[List.getElem?_eq_getElem h1]at hc';cases hc';rfl
     simp[Instr.index,asIntOf,au h3,hj,hg]
    ·cases he
   ·rename_i a b k' e h1 h2 h3;split at hc
    ·rename_i s g hs;cases hc;obtain⟨d,hd,hr⟩:=AZ (w:=w) h3 hs (aY hρ h1) (aY hρ h2) he;exact⟨d,hd,by simp only[execOp];exact aC hr⟩
    ·cases hc
   ·cases hc
 |typeAssert x xt t ok =>
   cases ok with
   |true=>simp only[cOp]at hc;cases hc
   |false =>
     simp only[cOp]at hc;split at hc
     ·cases hc
     ·rename_i a u hni h1 h2;cases hc;have hv:=aY hρ h1;simp only[PK.ev]at he;cases ha:ρ a<;>simp only[ha]at he<;>(try cases he;done);rw[ha]at hv;split at he
      ·rename_i ht;cases he;subst ht;obtain⟨z,e,hz⟩:=hv.iface_inv;refine⟨z,hz,?_⟩;simp only[execOp];refine aC ?_;rw[e];simp only[Instr.typeAssert,Sem.run_bind,au h2,Result.andThen_ok];cases u<;>first|simp|exact absurd rfl (hni _ _)
      ·cases he
     ·cases hc
 |extract x i =>
   simp only[cOp]at hc;obtain⟨a,hx,hk⟩:=Option.map_eq_some_iff.1 hc;cases hk;have hv:=aY hρ hx;simp only[PK.ev]at he;cases ha:ρ a<;>simp only[ha]at he<;>(try cases he;done);rw[ha]at hv;obtain⟨ds,e,hds⟩:=hv.tup_inv;obtain⟨d,hd,hr⟩:=hds.get he;refine⟨d,hr,?_⟩;simp only[execOp];refine aC ?_;rw[e];simp[Instr.extract,hd]
 |call c =>
   obtain⟨cal,args,ts⟩:=c;simp only[cOp]at hc;split at hc
   ·rename_i _ b;obtain⟨d,hd,hr⟩:=yx (w:=w) (type:=type) hρ hc he;exact⟨d,hd,by simp only[execOp,resolve];simpa[invoke]using hr _⟩
   ·split at hc
    ·split at hc
     ·split at hc
      ·obtain⟨a,_,e⟩:=Option.map_eq_some_iff.1 hc;cases e
      ·cases hc
     ·split at hc
      ·rename_i fn hf _ hcl;split at hc
       ·rename_i x y hA;split at hc
        ·rename_i a b h1 h2;cases hc;have hx:=aY hρ h1;have hy:=aY hρ h2;simp only[PK.ev]at he;cases ha:ρ a<;>simp only[ha]at he<;>(try cases he;done);cases hb:ρ b<;>simp only[hb]at he<;>(try cases he;done);rename_i s k m;cases k<;>simp only at he<;>(try cases he;done);cases he;rw[ha]at hx;rw[hb]at hy;have hargs:args.map ρ'=#[ρ' x,ρ' y]:=by apply Array.toList_inj.1;rw[Array.toList_map,hA];rfl
         refine⟨_,.int _ _,?_⟩;simp only[execOp,resolve,hF,Deferred.ofValue,invoke,hargs,Sem.run_bind,Sem.run_pure,Result.andThen_ok];rw[hx.str_inv,hy.int_inv];simp only[Array.append_empty,Array.empty_append];rw[run_callFunc_extern hf (by rw[hcl.2.1];rfl) hcl.1 (jQ hcl.2.2) (AP hcl.2.1),Lib.run_indexByteString,GH];rfl
        ·cases hc
       ·cases hc
      ·split at hc
       ·rename_i fn hf _ _ hcl;split at hc
        ·rename_i x hA;obtain⟨a,h1,e⟩:=Option.map_eq_some_iff.1 hc;cases e;have hx:=aY hρ h1;simp only[PK.ev]at he;cases he;have hargs:args.map ρ'=#[ρ' x]:=by apply Array.toList_inj.1;rw[Array.toList_map,hA];rfl
         refine⟨_,hx,?_⟩;simp only[execOp,resolve,hF,Deferred.ofValue,invoke,hargs,Sem.run_bind,Sem.run_pure,Result.andThen_ok];simp only[Array.append_empty,Array.empty_append];rw[run_callFunc_extern hf (by rw[hcl.2.1];rfl) hcl.1 (jQ hcl.2.2) (yA hcl.2.1)];rfl
        ·cases hc
       ·split at hc
        ·split at hc
         ·split at hc
          ·split at hc<;>cases hc
          ·cases hc
         ·cases hc
        ·obtain⟨a,_,e⟩:=Option.map_eq_some_iff.1 hc;cases e
    ·cases hc
   ·split at hc<;>cases hc
   ·cases hc
 |makeMap t r=>cases r<;>simp only[cOp]at hc<;>cases hc
 |_ =>
   exfalso;simp only[cOp]at hc
   repeat' (first|(cases hc;done)|(obtain⟨_,_,e⟩:=Option.map_eq_some_iff.1 hc;cases e;done)|split at hc)
end
section
open Go
variable{P:Program}{μ:Mu}{h:H}{w:World}{n:Nat}{ρ:Opd→V}{ρ':Operand→Value}{v:V}
theorem R.cells(r:R P μ h w){b:Nat}{cs:List V}{ro:Bool}{L:Loc}(hb:h b=some (.cells cs ro))(hL:μ b=some L):
  (∀i v,cs[i]?=some v→∃d,w.cell? ⟨L.B,L.s+i,none⟩=some d∧VR μ v d∧d.oneCell'=true)∧L.s+cs.length≤L.n:=by
 obtain⟨L',x,e,hx,c,el,fr,rfl,h1,h2,h3,_⟩:=r.at_ b _ hb;rw[hL]at e;cases e;refine⟨fun i v hv=>?_,h2⟩;obtain⟨d,hd,hr,h1⟩:=h3 i v hv;exact⟨d,by simp[World.cell?,hx,hd],hr,h1⟩
theorem R.some_cells(r:R P μ h w){b:Nat}{cs:List V}{ro:Bool}{L:Loc}(hb:h b=some (.cells cs ro))(hL:μ b=some L)(o k:Nat)(hk:o+k≤cs.length):
  ∃ds:List Value,ds.length=k∧VRs μ ((cs.drop o).take k) ds∧∀j d,ds[j]?=some d→w.cell? (Addr.add ⟨L.B,L.s+o,none⟩ j)=some d∧d.oneCell'=true:=by
 obtain⟨hc,_⟩:=r.cells hb hL;have key:∀k,o+k≤cs.length→∃ds:List Value,ds.length=k∧VRs μ ((cs.drop o).take k) ds∧∀j d,ds[j]?=some d→w.cell? (Addr.add ⟨L.B,L.s+o,none⟩ j)=some d∧d.oneCell'=true:=by
  intro k;induction k with
  |zero=>intro _;exact⟨[],rfl,by simpa using All2.nil,fun j d hd=>by simp at hd⟩
  |succ k ih =>
    intro hk;obtain⟨ds,hl,hv,hd⟩:=ih (by omega);have hlt:o+k<cs.length:=by omega
    obtain⟨d,hd1,hd2,hd3⟩:=hc (o+k) cs[o+k] (List.getElem?_eq_getElem hlt);refine⟨ds++[d],by simp[hl],?_,fun j d' hj=>?_⟩
    ·have:(cs.drop o).take (k+1)=(cs.drop o).take k++[cs[o+k]]:=by
      rw[List.take_succ_eq_append_getElem (by simp;omega)];simp
     rw[this];exact hv.append (.cons hd2 .nil)
    ·rcases Nat.lt_or_ge j ds.length with hj'|hj'
     ·rw[List.getElem?_append_left hj']at hj;exact hd j d' hj
     ·rw[List.getElem?_append_right hj']at hj;have:j=ds.length:=by
       rcases Nat.lt_or_ge ds.length j with h|h
       ·have:1≤j-ds.length:=by omega
        rw[List.getElem?_eq_none (by simpa using this)]at hj;cases hj
       ·omega
      subst this;simp at hj;subst hj;rw[add_lit,hl];exact⟨by simpa[Nat.add_assoc]using hd1,hd3⟩
 exact key k hk
theorem pF{a:Addr}{ds:List Value}(hc:∀j d,ds[j]?=some d→w.cell? (a.add j)=some d):(loadCells a ds.length).run P w=.ok ds.toArray w:=
 run_loadCells_list w a ds hc
theorem yM{t:TypeId}(h:Cb P=some t):(∃i,P.info? t=some i∧i.size=P.cellsOf t)∧P.cellsOf t≠0∧liesAt P P.depth t (P.cellsOf t / P.cellsOf t) 0 t 1=true:=by
 have h:=List.find?_some h;unfold QB at h;split at h
 ·rename_i i hi;simp only[Bool.and_eq_true,bne_iff_ne,ne_eq,beq_iff_eq]at h;exact⟨⟨i,hi,h.1.2⟩,h.1.1.2,h.2⟩
 ·cases h
theorem Jp(r:R P μ h w){s d t:TypeId}(hT:Cb P=some t)(hd:(P.underlying s=some (.pointer t)∧P.underlying d=some .unsafePointer)∨(P.underlying s=some .unsafePointer∧P.underlying d=some (.pointer t)))
  {b:Nat} {cs:List V} {ro:Bool} {L:Loc} (hb:h b=some (.cells cs ro)) (hL:μ b=some L) (hW:isW b):(convert s d (.pointer (some ⟨L.B,L.s+0,none⟩))).run P w=.ok (.pointer (some ⟨L.B,L.s+0,none⟩)) w:=by
 obtain⟨L',X,eL,hX,hO⟩:=r.at_ b _ hb;rw[hL]at eL;cases eL;obtain⟨hs0,hww⟩:=(r.byt b _ L X hb hL hX).2 hW;obtain⟨c,el,fr,rfl,_⟩:=hO;obtain⟨e1,e2⟩:=hww _ _ _ rfl;rw[hT]at e1;cases e1;obtain⟨⟨i,hi,hsz⟩,hne,hlies⟩:=yM hT;have hsh:w.shape? L.B=some (t,c.size):=by simp[World.shape?,hX]
 have hso:(Go.sizeOf t).run P w=.ok (P.cellsOf t) w:=by rw[run_sizeOf (s:=P.cellsOf t) (by simp[fZ,hi,hsz])]
 rw[hs0];rcases hd with⟨h1,h2⟩|⟨h1,h2⟩
 ·simp[convert,au h1,au h2,Conv.unsafePointer,Conv.seenAt,viewAt,hsh,cellsIn,hso,hne,e2]
 ·simp[convert,au h1,au h2,Conv.unsafePointer,Conv.seenAt,viewAt,hsh,hso,hne,e2,variablesAt,hlies]
theorem iZ{t:TypeId}{kc:KC}(hk:keyOf P t=some kc):(∃c,kc=.one c∧vW P t=some c)∨(∃cs,kc=.agg cs∧fC P t=some cs):=by
 unfold keyOf at hk;split at hk
 ·rename_i c hc;cases hk;exact .inl ⟨c,rfl,hc⟩
 ·obtain⟨cs,hc,rfl⟩:=Option.map_eq_some_iff.1 hk;exact .inr ⟨cs,rfl,hc⟩
theorem nO{t:TypeId}{kc:KC}(hk:keyOf P t=some kc){x y:V}{dx dy:Value}{b:Bool}(hx:VR μ x dx)(hy:VR μ y dy)(he:bH kc x y=some b)(w:World):
  (Op.equal t dx dy).run P w=.ok b w:=by
 rcases iZ hk with⟨c,rfl,hc⟩|⟨cs,rfl,hc⟩
 ·simp only[bH]at he;exact jC (jy hc).1 hx hy he 9999
 ·cases x<;>(try (simp[bH]at he;done));cases y<;>(try (simp[bH]at he;done));exact oG hc hx hy he 9998
theorem jY{t:TypeId}{c:EqC}{d:TypeDesc}(hc:vW P t=some c)(hd:P.underlying t=some d){x y:V}{dx dy:Value}{b:Bool}(hx:VR μ x dx)(hy:VR μ y dy)(he:eQ c x y=some b):
  Instr.sameNow d dx dy=some b:=by
 unfold vW at hc;split at hc<;>cases hc<;>rename_i hu<;>rw[hu]at hd<;>cases hd
 all_goals
  cases hx<;>simp only[eQ]at he<;>(try cases he;done)<;>cases hy<;>simp only[eQ]at he<;>(try cases he;done)
 ·cases he;rfl
 ·split at he
  ·rename_i e;cases he;simp[Instr.sameNow,e]
  ·cases he
 ·cases he;simp[Instr.sameNow,bytes_beq]
abbrev sO(μ:Mu):=fun(e:V × V × Nat) (m:MapEntry)=>VR μ e.1 m.key∧VR μ e.2.1 m.val∧e.2.2=m.born
theorem rF{d:TypeDesc}{k:Value}{f:Value→Option Bool}(hf:∀x,Instr.sameNow d k x=f x):∀(l:List MapEntry) (i:Nat),(∀e∈l,f e.key=some false)→Instr.findNow d k l i=some none
 |[],i,_=>rfl
 |e::l,i,h=>by
   simp only[Instr.findNow,hf,h e (by simp)];exact rF hf l (i+1) fun x hx=>h x (by simp[hx])
theorem rG{d:TypeDesc}{k:Value}:∀(l:List MapEntry) (i j:Nat) (e:MapEntry),l[j]?=some e→Instr.sameNow d k e.key=some true→(∀i' e',i'<j→l[i']?=some e'→Instr.sameNow d k e'.key=some false) →
  Instr.findNow d k l i=some (some (i+j,e.val))
 |[],i,j,e,h,_,_=>by simp at h
 |x::l,i,0,e,h,h1,h2=>by simp at h;subst h;simp[Instr.findNow,h1]
 |x::l,i,j+1,e,h,h1,h2=>by
   simp only[Instr.findNow,h2 0 x (by omega) (by simp)];rw[rG l (i+1) j e (by simpa using h) h1 fun i' e' hi he=>h2 (i'+1) e' (by omega) (by simpa using he)];congr 3;omega
theorem lY{t:TypeId}{k:Value}:∀(l:List MapEntry) (i:Nat),(∀e∈l,(Op.equal t k e.key).run P w=.ok false w)→(Instr.findAsking t k l i).run P w=.ok none w
 |[],i,_=>by simp[Instr.findAsking]
 |e::l,i,h=>by
   simp only[Instr.findAsking,Sem.run_bind,h e (by simp),Result.andThen_ok,Bool.false_eq_true,if_false];exact lY l (i+1) fun x hx=>h x (by simp[hx])
theorem lZ{t:TypeId}{k:Value}:∀(l:List MapEntry) (i j:Nat) (e:MapEntry),l[j]?=some e→(Op.equal t k e.key).run P w=.ok true w→(∀i' e',i'<j→l[i']?=some e'→(Op.equal t k e'.key).run P w=.ok false w) →
  (Instr.findAsking t k l i).run P w=.ok (some (i+j,e.val)) w
 |[],i,j,e,h,_,_=>by simp at h
 |x::l,i,0,e,h,h1,h2=>by simp at h;subst h;simp[Instr.findAsking,h1]
 |x::l,i,j+1,e,h,h1,h2=>by
   simp only[Instr.findAsking,Sem.run_bind,h2 0 x (by omega) (by simp),Result.andThen_ok,Bool.false_eq_true,if_false];rw[lZ l (i+1) j e (by simpa using h) h1 fun i' e' hi he=>h2 (i'+1) e' (by omega) (by simpa using he)];congr 3;omega
theorem wz{kc:KC}{k:V}{x:V}{m:Nat}:∀{es:Ents},aK kc k es=some (some (x,m)) →
  ∃j k0,es[j]?=some (k0,x,m)∧bH kc k k0=some true∧(∀i e,i<j→es[i]?=some e→bH kc k e.1=some false)∧(∀y,sD kc k y es=es.set j (k,y,m))∧Am kc k es=es.eraseIdx j
 |[],h=>by simp[aK]at h
 |(k0,y,m')::es,h=>by
   simp only[aK]at h;split at h
   ·rename_i hk;cases h;exact⟨0,k0,by simp,hk,fun i e hi=>by omega,fun y=>by simp[sD,hk],by simp[Am,hk]⟩
   ·rename_i hk;obtain⟨j,k1,h1,h2,h3,h4,h5⟩:=wz h;refine⟨j+1,k1,by simpa using h1,h2,fun i e hi he=>?_,fun y=>by simp[sD,hk,h4],by simp[Am,hk,h5]⟩;cases i with
    |zero=>simp at he;subst he;exact hk
    |succ i=>exact h3 i e (by omega) (by simpa using he)
   ·cases h
theorem qw{kc:KC}{k:V}:∀{es:Ents},aK kc k es=some none→(∀e∈es,bH kc k e.1=some false)∧Am kc k es=es
 |[],h=>by simp[Am]
 |(k0,y,m')::es,h=>by
   simp only[aK]at h;split at h
   ·cases h
   ·rename_i hk;obtain⟨h1,h2⟩:=qw h;exact⟨fun e he=>by
     rcases List.mem_cons.1 he with rfl|he
     ·exact hk
     ·exact h1 e he,by simp[Am,hk,h2]⟩
   ·cases h
theorem All2.mem{α β:Type}{R:α→β→Prop}{as:List α}{bs:List β}(h:All2 R as bs){b:β}(hb:b∈bs):∃a∈as,R a b:=by
 induction h with
 |nil=>simp at hb
 |cons hr _ ih =>
   rcases List.mem_cons.1 hb with rfl|hb
   ·exact⟨_,by simp,hr⟩
   ·obtain⟨a,ha,hr⟩:=ih hb;exact⟨a,by simp[ha],hr⟩
theorem All2.getR{α β:Type}{R:α→β→Prop}{as:List α}{bs:List β}(h:All2 R as bs){i:Nat}{b:β}(hb:bs[i]?=some b):∃a,as[i]?=some a∧R a b:=by
 have hi:i<as.length:=by
  rw[h.len];exact(List.getElem?_eq_some_iff.1 hb).1
 obtain⟨b',hb',hr⟩:=h.get (List.getElem?_eq_getElem hi);rw[hb]at hb';cases hb';exact⟨_,List.getElem?_eq_getElem hi,hr⟩
theorem gZ{t:TypeId}{kc:KC}(hk:keyOf P t=some kc){k:V}{dk:Value}(hd:VR μ k dk){es:Ents}{ents:List MapEntry}(he:All2 (sO μ) es ents)(hf:aK kc k es=some none)(w:World):
  (Instr.findKey t dk ents).run P w=.ok none w:=by
 obtain⟨h1,_⟩:=qw hf;have hall:∀e∈ents,(Op.equal t dk e.key).run P w=.ok false w:=fun e hm=>by
  obtain⟨a,ha,hr⟩:=he.mem hm;exact nO hk hd hr.1 (h1 a ha) w
 rcases iZ hk with⟨c,rfl,hc⟩|⟨cs,rfl,hc⟩
 ·obtain⟨hT,d,hu,_⟩:=jy hc;have:Instr.findNow d dk ents 0=some none:=rF (f:=fun x=>Instr.sameNow d dk x) (fun _=>rfl) ents 0 fun e hm=>by
   obtain⟨a,ha,hr⟩:=he.mem hm;exact jY hc hu hd hr.1 (h1 a ha)
  simp[Instr.findKey,au hu,this]
 ·have hu:∃fs,P.underlying t=some (.struct fs):=by
   unfold fC at hc;split at hc
   ·rename_i fs e;exact⟨fs,e⟩
   ·cases hc
  obtain⟨fs,hu⟩:=hu;simp only[Instr.findKey,Sem.run_bind,au hu,Result.andThen_ok];cases ents with
  |nil=>simp[Instr.findNow]
  |cons e es' =>
    have:Instr.findNow (.struct fs) dk (e::es') 0=none:=by simp[Instr.findNow,Instr.sameNow]
    rw[this];exact lY _ 0 hall
theorem jq{t:TypeId}{kc:KC}(hk:keyOf P t=some kc){k:V}{dk:Value}(hd:VR μ k dk){es:Ents}{ents:List MapEntry}(he:All2 (sO μ) es ents){x:V}{m:Nat}
  (hf:aK kc k es=some (some (x,m))) (w:World):
  ∃j e k0,ents[j]?=some e∧es[j]?=some (k0,x,m)∧sO μ (k0,x,m) e∧bH kc k k0=some true∧(∀y,sD kc k y es=es.set j (k,y,m))∧Am kc k es=es.eraseIdx j ∧
    (Instr.findKey t dk ents).run P w=.ok (some (j,e.val)) w:=by
 obtain⟨j,k0,h1,h2,h3,h4,h5⟩:=wz hf;obtain⟨e,he1,he2⟩:=he.get h1;refine⟨j,e,k0,he1,h1,he2,h2,h4,h5,?_⟩;have e1:=nO hk hd he2.1 h2 w;have e2:∀i' e',i'<j→ents[i']?=some e'→(Op.equal t dk e'.key).run P w=.ok false w:=fun i' e' hi hm=>by
  obtain⟨a,ha,hr⟩:=he.getR hm;exact nO hk hd hr.1 (h3 i' a hi ha) w
 rcases iZ hk with⟨c,rfl,hc⟩|⟨cs,rfl,hc⟩
 ·obtain⟨hT,d,hu,_⟩:=jy hc;have:Instr.findNow d dk ents 0=some (some (0+j,e.val)):=rG ents 0 j e he1 (jY hc hu hd he2.1 h2) fun i' e' hi hm=>by
   obtain⟨a,ha,hr⟩:=he.getR hm;exact jY hc hu hd hr.1 (h3 i' a hi ha)
  simp[Instr.findKey,au hu,this]
 ·have hu:∃fs,P.underlying t=some (.struct fs):=by
   unfold fC at hc;split at hc
   ·rename_i fs e;exact⟨fs,e⟩
   ·cases hc
  obtain⟨fs,hu⟩:=hu;simp only[Instr.findKey,Sem.run_bind,au hu,Result.andThen_ok];have:Instr.findNow (.struct fs) dk ents 0=none:=by
   cases ents with
   |nil=>simp at he1
   |cons e' es'=>simp[Instr.findNow,Instr.sameNow]
  rw[this];simpa using lZ ents 0 j e he1 e1 e2
theorem uV(m:Nat)(em:Bool):∀(fs:List Field) (i:Nat) (cs:List EqC) (xs:List V) (ds:List Value),pU P fs i=some cs→VRs μ xs (ds.drop i)→fF cs xs xs=some true →
  (forIn fs PUnit.unit (fun f (_:PUnit)=>if f.name ≠ "_" then do Instr.checkKey em (m+1) f.type (← part f.type ds.toArray f.offset);pure (ForInStep.yield PUnit.unit)else pure (ForInStep.yield PUnit.unit)):Sem PUnit).run P w=.ok PUnit.unit w:=by
 intro fs;induction fs with
 |nil=>intro i cs xs ds _ _ _;simp
 |cons f fs ih =>
   intro i cs xs ds hc hv he;simp only[pU]at hc;split at hc
   ·rename_i hf;split at hc
    ·rename_i c cs' h1 h2;cases hc;cases xs with
     |nil=>simp[fF]at he
     |cons x xs =>
       obtain⟨hT,d,hd,hn1,hn2⟩:=jy h1;obtain⟨vx,ex,rx⟩:=hv.get (i:=0) (a:=x) (by simp);simp at ex;have tx:VRs μ xs (ds.drop (i+1)):=by simpa using hv.drop 1
       simp only[fF]at he;have hx1:eQ c x x=some true:=by
        split at he
        ·assumption
        ·cases he
        ·cases he
       rw[hx1]at he;have px:(part f.type ds.toArray f.offset).run P w=.ok vx w:=by simp[part,jf hd hn1 hn2,hf.2,ex]
       have hck:(Instr.checkKey em (m+1) f.type vx).run P w=.ok () w:=by
        simp only[Instr.checkKey,Sem.run_bind,au hd,Result.andThen_ok];unfold vW at h1;split at h1<;>cases h1<;>rename_i hu<;>rw[hu]at hd<;>cases hd<;>simp
       simp only[List.forIn_cons,ne_eq,hf.1,not_false_eq_true,if_true,Sem.run_bind,px,Result.andThen_ok,hck,Sem.run_pure];exact ih (i+1) cs' xs ds h2 tx he
    ·cases hc
   ·cases hc
theorem uX{t:TypeId}{kc:KC}(hk:keyOf P t=some kc){k:V}{dk:Value}(hd:VR μ k dk)(he:bH kc k k=some true)(em:Bool)(w:World)(m:Nat):(Instr.checkKey em (m+2) t dk).run P w=.ok () w:=by
 rcases iZ hk with⟨c,rfl,hc⟩|⟨cs,rfl,hc⟩
 ·obtain⟨hT,d,hu,_⟩:=jy hc;rw[Instr.checkKey];simp only[Sem.run_bind,au hu,Result.andThen_ok];unfold vW at hc;split at hc<;>cases hc<;>rename_i hu'<;>rw[hu']at hu<;>cases hu<;>simp
 ·cases k<;>(try (simp[bH]at he;done));rename_i xs;simp only[bH]at he;obtain⟨ds,rfl,hv⟩:=hd.agg_inv;unfold fC at hc;split at hc
  ·rename_i fs hu;split at hc
   ·rw[Instr.checkKey];simp only[Sem.run_bind,au hu,Result.andThen_ok];rw[← Array.forIn_toList];have:=uV (w:=w) m em fs.toList 0 cs xs ds hc (by simpa using hv) he;simp at this⊢;rw[this];rfl
   ·cases hc
  ·cases hc
theorem gV{t:TypeId}{kc:KC}(hk:keyOf P t=some kc){k:V}{dk:Value}(hd:VR μ k dk)(he:bH kc k k=some true)(em:Bool)(w:World):(Instr.checkKey em 10000 t dk).run P w=.ok () w:=
 uX hk hd he em w 9998
theorem yG{a:Addr}{d:Value}(hc:w.cell? a=some d):(load a).run P w=.ok d w:=by rw[run_load,hc]
theorem qc(r:R P μ h w){t:TypeId}{k:Nat}{g:Bool}(hz:szA P t=some (k,g)){b o:Nat}{cs:List V}{ro:Bool}{L:Loc}(hb:h b=some (.cells cs ro))(hL:μ b=some L)(he:partOf o k g cs=some v):
  ∃d,VR μ v d∧(loadVar t ⟨L.B,L.s+o,none⟩).run P w=.ok d w:=by
 unfold partOf at he;cases g with
 |true =>
   simp only[if_true]at he;split at he
   ·rename_i hle;cases he;obtain⟨ds,hl,hv,hc⟩:=r.some_cells hb hL o k hle;refine⟨_,VR.mkAgg hv,?_⟩;simp only[loadVar,Sem.run_bind,pG hz,Result.andThen_ok,if_true,run_sizeOf (x8 hz)];rw[← hl,pF fun j d hj=>(hc j d hj).1];simp
   ·cases he
 |false =>
   simp only[Bool.false_eq_true,if_false]at he;obtain⟨hc,_⟩:=r.cells hb hL;obtain⟨d,hd,hr,_⟩:=hc o v he;refine⟨d,hr,?_⟩;simp only[loadVar,Sem.run_bind,pG hz,Result.andThen_ok,Bool.false_eq_true,if_false];exact yG hd
theorem pR:∀(vs:List V) (ds:List Value) (s:List UInt8),VRs μ vs ds→bytesOf vs=some s→∃ns:List Int,ds=ns.map (Value.int .u8)∧s=ns.map fun n=>UInt8.ofNat n.toNat
 |[],_,s,hv,he=>by cases hv;simp only[bytesOf]at he;cases he;exact⟨[],rfl,rfl⟩
 |v::vs,_,s,hv,he=>by
   cases hv with
   |cons h1 h2 =>
     cases v<;>(try (simp[bytesOf]at he;done));rename_i k i;cases k<;>(try (simp[bytesOf]at he;done));simp only[bytesOf]at he;split at he
     ·rename_i s' hs;cases he;obtain⟨ns,rfl,rfl⟩:=pR vs _ s' h2 hs;exact⟨i::ns,by rw[h1.int_inv];rfl,rfl⟩
     ·cases he
theorem jL:∀(ns:List Int) (s:ByteArray),ns.foldl (fun r n=>r.push (UInt8.ofNat n.toNat)) s=⟨s.data++(ns.map fun n=>UInt8.ofNat n.toNat).toArray⟩
 |[],s=>by simp
 |n::ns,s=>by
   simp only[List.foldl_cons,List.map_cons];rw[jL ns];simp[ByteArray.push]
theorem nC{m:Nat}{x y:V}:∀{es:Ents} {ents:List MapEntry},All2 (sO μ) es ents→bV m es=some (x,y)→∃e,ents.find? (·.born==m)=some e∧VR μ x e.key∧VR μ y e.val
 |_,_,.nil,hf=>by simp[bV]at hf
 |_,_,.cons (a:=a) (b:=b) h1 h2,hf=>by
   simp only[bV]at hf;split at hf
   ·rename_i hm;cases hf;exact⟨b,by simp[List.find?_cons,← h1.2.2,hm],h1.1,h1.2.1⟩
   ·rename_i hm;obtain⟨e,he,hr⟩:=nC h2 hf;have:(b.born==m)=false:=by rw[← h1.2.2];simpa using hm
    exact⟨e,by simp[List.find?_cons,this,he],hr⟩
set_option maxHeartbeats 2000000 in
theorem Eh{op:Op}{k:RK}(hc:cOp P n op=some (.r k))(hρ:Rho P n μ ρ ρ')(r:R P μ h w)(he:k.ev ρ h=some v)(o:Oper)(ho:o.op=op)(hF:∀f,ρ' (.func f)=.func (.func f) #[] #[]):
  ∃d,VR μ v d∧(execOp ρ' o).run P w=.ok (.value d) w:=by
 obtain⟨dst,op',type,pos,after,guard⟩:=o;simp only at ho;subst ho;cases op' with
 |load t x =>
   simp only[cOp]at hc;split at hc
   ·rename_i a s g h1 h2;split at hc
    ·cases hc;have hv:=aY hρ h1;simp only[RK.ev]at he;cases ha:ρ a<;>simp only[ha]at he<;>(try cases he;done);rename_i b o;rw[ha]at hv;obtain⟨L,hL,e⟩:=hv.ptr_inv;split at he
     ·rename_i cs ro hb;obtain⟨d,hd,hr⟩:=qc r h2 hb hL he;refine⟨d,hd,?_⟩;simp only[execOp];refine aC ?_;rw[e];simp[Instr.loadAt,Instr.sureAddr,hr]
     ·cases he
    ·cases hc
   ·cases hc
 |lookup t m x ok =>
   simp only[cOp]at hc;split at hc
   ·rename_i m' k' kt e h1 h2 h3;split at hc
    ·rename_i kc z hkc hz;cases hc;have hm:=aY hρ h1;have hkv:=aY hρ h2;obtain⟨zd,hzv,hzr⟩:=oJ (μ:=μ) hz;simp only[RK.ev]at he;split at he
     ·rename_i hkk;have hck:=fun em=>gV hkc hkv hkk em w;cases hmv:ρ m'<;>simp only[hmv]at he<;>(try cases he;done)
      ·rename_i b;rw[hmv]at hm;obtain⟨L,hL,eM⟩:=hm.map_inv;split at he
       ·rename_i es clock hb;obtain⟨L',x',eL,hx,ents,rfl,hents⟩:=r.at_ b _ hb;rw[hL]at eL;cases eL;have hg:(getObj L.B).run P w=.ok (.map ents clock) w:=by simp[getObj,Sem.run,hx]
        split at he
        ·rename_i v0 m0 hf;obtain⟨j,e',k0,q1,q2,q3,q4,q5,q6,q7⟩:=jq hkc hkv hents hf w;cases he;refine⟨if ok then .tuple #[e'.val,.bool true]else e'.val,?_,?_⟩
         ·cases ok
          ·exact q3.2.1
          ·exact VR.mkTup (.cons q3.2.1 (.cons (.bool _) .nil))
         ·simp only[execOp];refine aC ?_;rw[eM];simp only[Instr.lookup,Sem.run_bind,au h3,Result.andThen_ok,hg,Sem.run_pure,hck,q7]
        ·rename_i hf;have q7:=gZ hkc hkv hents hf w;cases he;refine⟨if ok then .tuple #[zd,.bool false]else zd,?_,?_⟩
         ·cases ok
          ·exact hzv
          ·exact VR.mkTup (.cons hzv (.cons (.bool _) .nil))
         ·simp only[execOp];refine aC ?_;rw[eM];simp only[Instr.lookup,Sem.run_bind,au h3,Result.andThen_ok,hg,Sem.run_pure,hck,q7,hzr]
        ·cases he
       ·cases he
      ·rw[hmv]at hm;have eM:ρ' m=.map none:=by generalize ρ' m=q at hm;cases hm;rfl
       cases he;have q7:=gZ (es:=[]) (ents:=[]) hkc hkv .nil rfl w;refine⟨if ok then .tuple #[zd,.bool false]else zd,?_,?_⟩
       ·cases ok
        ·exact hzv
        ·exact VR.mkTup (.cons hzv (.cons (.bool _) .nil))
       ·simp only[execOp];refine aC ?_;rw[eM];simp only[Instr.lookup,Sem.run_bind,au h3,Result.andThen_ok,Sem.run_pure,hck,q7,hzr]
     ·cases he
    ·cases hc
   ·cases hc
 |entry it =>
   simp only[cOp]at hc;obtain⟨a,hx,hk⟩:=Option.map_eq_some_iff.1 hc;cases hk;have hv:=aY hρ hx;simp only[RK.ev]at he;cases ha:ρ a<;>simp only[ha]at he<;>(try cases he;done);rename_i i o;cases o with
   |succ o=>simp at he
   |zero =>
     simp only at he;rw[ha]at hv;obtain⟨L,hL,e⟩:=hv.ptr_inv;cases hi:h i with
     |none=>simp[hi]at he
     |some oi =>
       cases oi<;>simp only[hi]at he<;>(try cases he;done);rename_i m since seen stepped;cases m with
       |none=>simp at he
       |some m =>
         simp only at he;obtain⟨L',x',eL,hx',h0,m',rfl,K,hK,rfl⟩:=r.at_ i _ hi;rw[hL]at eL;cases eL;cases hm:h m with
         |none=>simp[hm]at he
         |some om =>
           cases om<;>simp only[hm]at he<;>(try cases he;done);rename_i es clock;obtain⟨K',y',eK,hy,ents,rfl,hents⟩:=r.at_ m _ hm;rw[hK]at eK;cases eK;split at he
           ·rename_i nn hlast;split at he
            ·rename_i hcl;obtain⟨⟨x,y⟩,hf,rfl⟩:=Option.map_eq_some_iff.1 he;obtain⟨e',q1,q2,q3⟩:=nC hents hf;refine⟨_,VR.mkTup (.cons q2 (.cons q3 .nil)),?_⟩;simp only[execOp];refine aC ?_;have g1:(getObj L.B).run P w=.ok (.mapIter (some K.B) since seen.toArray stepped) w:=by simp[getObj,Sem.run,hx']
             have g2:(getObj K.B).run P w=.ok (.map ents clock) w:=by simp[getObj,Sem.run,hy]
             have g3:seen.toArray.back?=some nn:=by simpa using hlast
             have g4:ents.find? (·.born==nn)=some e':=by rw[← Array.find?_toList];exact q1
             rw[e,h0];simp[Instr.entry,g1,g2,g3,g4,hcl]
            ·cases he
           ·cases he
 |slice t x l hh m =>
   cases m with
   |some m=>simp only[cOp]at hc;cases hc
   |none =>
     simp only[cOp]at hc;split at hc
     ·cases hc
     ·split at hc
      ·split at hc<;>cases hc
      ·cases hc
     ·rename_i a l' h' k' e h1 h2 h3 h4;split at hc
      ·rename_i s hs;split at hc
       ·rename_i hpos;cases hc;have hv:=aY hρ h1;simp only[RK.ev]at he;cases ha:ρ a<;>simp only[ha]at he<;>(try cases he;done);rename_i b o;rw[ha]at hv;obtain⟨L,hL,eP⟩:=hv.ptr_inv;cases hb:h b with
        |none=>simp[hb]at he
        |some ob =>
          cases ob<;>simp only[hb]at he<;>(try cases he;done);rename_i cs ro;split at he
          ·rename_i hle;obtain⟨⟨i,j⟩,hij,rfl⟩:=Option.map_eq_some_iff.1 he;obtain⟨hr,hij',hjl⟩:=jk (w:=w) hρ h2 h3 (Nat.le_refl k') hij false;obtain⟨_,hn⟩:=r.cells hb hL;refine⟨_,.sl (L:=L) (o':=if k'=i then o else o+i*s) (cap:=k'-i) hL ?_ (by omega) ?_ hpos,?_⟩
           ·intro hlt;rw[if_neg (by omega)]
           ·split
            ·rename_i ei;subst ei;simp;omega
            ·have:(k'-i)*s+i*s=k'*s:=by rw[← Nat.add_mul];congr 1;omega
             omega
           ·simp only[execOp,Option.map_none];refine aC ?_;rw[eP];simp only[Instr.sliceAt,Sem.run_bind,au h4,Result.andThen_ok,Instr.sureAddr,hr,run_sizeOf hs,Sem.run_pure];congr 3;split
            ·rfl
            ·rw[add_lit,Nat.add_assoc]
          ·cases he
       ·cases hc
      ·cases hc
     ·cases hc
 |convert s d x =>
   simp only[cOp]at hc;have unsC:∀{a:Opd} {t:TypeId},Cb P=some t→((P.underlying s=some (.pointer t)∧P.underlying d=some .unsafePointer)∨(P.underlying s=some .unsafePointer∧P.underlying d=some (.pointer t)))→aH P n x=some a→(RK.uns a).ev ρ h=some v →
     ∃d',VR μ v d'∧(execOp ρ' {dst:=dst,op:=Op.convert s d x,type:=type,pos:=pos,after:=after,guard:=guard}).run P w=.ok (.value d') w:=fun {a t} hT hd h1 he=>by
    have hv:=aY hρ h1;simp only[RK.ev]at he;split at he
    ·rename_i b ha;rw[ha]at hv;obtain⟨L,hL,e⟩:=hv.ptr_inv;split at he
     ·rename_i cs ro hb;split at he
      ·rename_i hW;cases he;refine⟨_,.ptr hL,?_⟩;simp only[execOp];refine aC ?_;rw[e];exact Jp r hT hd hb hL hW
      ·cases he
     ·cases he
    ·cases he
   split at hc
   ·cases hc
   ·cases hc
   ·rename_i a e h1 h2 h3;split at hc
    ·rename_i hu8;cases hc;have hv:=aY hρ h1;simp only[RK.ev]at he;cases ha:ρ a<;>simp only[ha]at he<;>(try cases he;done)
     ·rename_i b o es len;rw[ha]at hv;obtain⟨L,o',cap,hL,ho,hcap,hn,hp,eS⟩:=hv.sl_inv;cases hb:h b with
      |none=>simp[hb]at he
      |some ob =>
        cases ob<;>simp only[hb]at he<;>(try cases he;done);rename_i cs ro;split at he
        ·rename_i hle;obtain⟨s',hs',rfl⟩:=Option.map_eq_some_iff.1 he;obtain⟨ds,hl,hvs,hcs⟩:=r.some_cells hb hL o len hle.2;obtain⟨ns,rfl,rfl⟩:=pR _ _ _ hvs hs';refine⟨_,.str _,?_⟩;simp only[execOp];refine aC ?_;rw[eS,run_convert_bytes_string w s d e _ _ _ h2 hu8 h3];have hlc:(loadCells ⟨L.B,L.s+o',none⟩ len).run P w=.ok (ns.map (Value.int .u8)).toArray w:=by
          rcases Nat.eq_zero_or_pos len with h0|h0
          ·subst h0;have:ns=[]:=by simpa using hl
           subst this;simp[loadCells,loadCellsFrom]
          ·rw[ho h0,← hl];exact pF fun j d hj=>(hcs j d hj).1
         rw[run_bytesToString w _ len cap ns hlc,jL];have he0:ByteArray.empty.data=#[]:=rfl;rw[he0];simp
        ·cases he
     ·rw[ha]at hv;cases he;refine⟨_,.str _,?_⟩;simp only[execOp];refine aC ?_;rw[hv.nilsl_inv,run_convert_bytes_string w s d e _ _ _ h2 hu8 h3];simp[Conv.bytesToString];rfl
    ·cases hc
   ·split at hc<;>cases hc
   ·rename_i a t h1 h2 h3;split at hc
    ·rename_i hT;cases hc;exact unsC hT (.inl ⟨h2,h3⟩) h1 he
    ·cases hc
   ·rename_i a t h1 h2 h3;split at hc
    ·rename_i hT;cases hc;exact unsC hT (.inr ⟨h2,h3⟩) h1 he
    ·cases hc
   ·cases hc
 |call c =>
   obtain⟨cal,args,ts⟩:=c;simp only[cOp]at hc;split at hc
   ·rename_i _ b;unfold iT at hc;split at hc
    ·rename_i x t tl hA hT;have hargs:(args.map ρ').toList=args.toList.map ρ':=Array.toList_map ..;have h0:(args.map ρ')[0]?=some (ρ' x):=by rw[← Array.getElem?_toList,hargs,hA];simp
     have t0:ts[0]?=some t:=by rw[← Array.getElem?_toList,hT];simp
     split at hc
     ·cases hc
     ·cases hc
     ·rename_i a kt e h1 h2;cases hc;have hv:=aY hρ h1;simp only[RK.ev]at he;cases ha:ρ a<;>simp only[ha]at he<;>(try cases he;done)
      ·rename_i bb;rw[ha]at hv;obtain⟨L,hL,eM⟩:=hv.map_inv;cases hb:h bb with
       |none=>simp[hb]at he
       |some ob =>
         cases ob<;>simp only[hb]at he<;>(try cases he;done);rename_i es clock;cases he;obtain⟨L',x',eL,hx,ents,rfl,hents⟩:=r.at_ bb _ hb;rw[hL]at eL;cases eL;have hg:(getObj L.B).run P w=.ok (.map ents clock) w:=by simp[getObj,Sem.run,hx]
         have hlen:ents.size=es.length:=by rw[hents.len];simp
         refine⟨_,.int _ _,?_⟩;simp only[execOp,resolve];simp[invoke,builtin,Builtin.len_,h0,t0,au h2,eM,hg,goInt,hlen]
      ·rw[ha]at hv;cases he;have eM:ρ' x=.map none:=by generalize ρ' x=q at hv;cases hv;rfl
       refine⟨_,.int _ _,?_⟩;simp only[execOp,resolve];simp[invoke,builtin,Builtin.len_,h0,t0,au h2,eM,goInt]
     ·cases hc
     ·cases hc
    all_goals (repeat' (first|(cases hc;done)|(obtain⟨_,_,e⟩:=Option.map_eq_some_iff.1 hc;cases e;done)|split at hc))
   ·split at hc
    ·rename_i fn hf;split at hc
     ·split at hc
      ·obtain⟨_,_,e⟩:=Option.map_eq_some_iff.1 hc;cases e
      ·cases hc
     split at hc
     ·split at hc
      ·split at hc<;>cases hc
      ·cases hc
     split at hc
     ·split at hc
      ·obtain⟨_,_,e⟩:=Option.map_eq_some_iff.1 hc;cases e
      ·cases hc
     split at hc
     ·rename_i hcl;split at hc
      ·rename_i x y hA;split at hc
       ·rename_i a b g h1 h2 hg;split at hc
        ·rename_i hgs;cases hc;have hx:=aY hρ h1;have hy:=aY hρ h2;simp only[RK.ev]at he;split at he
         ·rename_i st tt m _ ha hb hm;split at he
          ·rename_i hle;cases he;rw[ha]at hx;rw[hb]at hy;have hargs:args.map ρ'=#[ρ' x,ρ' y]:=by apply Array.toList_inj.1;rw[Array.toList_map,hA];rfl
           obtain⟨n',hL⟩:=r.glob g hgs;obtain⟨L',X,eL,hX,hO⟩:=r.at_ g _ hm;rw[hL]at eL;cases eL;obtain⟨c,el,fr,rfl,q1,q2,q3,q4⟩:=hO;obtain⟨dm,d1,d2,d3⟩:=q3 0 _ rfl;have hcell:w.cell? ⟨g,0,none⟩=some (.int .i64 m):=by
            rw[d2.int_inv]at d1;simpa[World.cell?,hX]using d1
           refine⟨_,.int _ _,?_⟩;simp only[execOp,resolve,hF,Deferred.ofValue,invoke,hargs,Sem.run_bind,Sem.run_pure,Result.andThen_ok];rw[hx.str_inv,hy.str_inv];simp only[Array.append_empty,Array.empty_append];rw[run_callFunc_extern hf (by rw[hcl.2.1];rfl) hcl.1 (jQ hcl.2.2) (Dk hcl.2.1),Gg hg hcell hle.1 hle.2.1 hle.2.2];rfl
          ·cases he
         ·cases he
        ·cases hc
       ·cases hc
      ·cases hc
     ·obtain⟨_,_,e⟩:=Option.map_eq_some_iff.1 hc;cases e
    ·cases hc
   all_goals (repeat' (first|(cases hc;done)|(obtain⟨_,_,e⟩:=Option.map_eq_some_iff.1 hc;cases e;done)|split at hc))
 |makeMap t r=>cases r<;>simp only[cOp]at hc<;>cases hc
 |makeFunc f a c=>cases f<;>simp only[cOp]at hc<;>(try cases hc;done);split at hc<;>cases hc
 |typeAssert x xt t ok=>cases ok<;>simp only[cOp]at hc<;>(try cases hc;done);split at hc<;>cases hc
 |_ =>
   exfalso;simp only[cOp]at hc
   repeat' (first|(cases hc;done)|(obtain⟨_,_,e⟩:=Option.map_eq_some_iff.1 hc;cases e;done)|split at hc)
end

end Mir
