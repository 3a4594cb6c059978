import Derived.Laws.IdiomStrings
import Derived.Test.YtkfbldogmgofoaaGreatDoorK4
set_option linter.unusedSimpArgs false
set_option linter.unusedVariables false
namespace Mir
section
open Go
variable{P:Program}{μ:Mu}{h:H}{w:World}{n:Nat}{ρ:Opd→V}{ρ':Operand→Value}{v:V}
theorem yw(z:List V)(n:Nat):zeros z (n+1)=z++zeros z n:=by simp[zeros,List.replicate_succ]
theorem uk{z:List V}{ds:List Value}(hv:VRs μ z ds)(n:Nat):VRs μ (zeros z n) (List.replicate n ds).flatten:=by
 induction n with
 |zero=>simp[zeros];exact .nil
 |succ n ih=>rw[yw,List.replicate_succ,List.flatten_cons];exact hv.append ih
theorem uA(ds:List Value)(hp:0<ds.length):∀(n i:Nat),i<n*ds.length→(List.replicate n ds).flatten[i]?=ds[i % ds.length]?
 |0,i,h=>by simp at h
 |n+1,i,h=>by
   rw[List.replicate_succ,List.flatten_cons];rcases Nat.lt_or_ge i ds.length with hi|hi
   ·rw[List.getElem?_append_left hi,Nat.mod_eq_of_lt hi]
   ·rw[List.getElem?_append_right hi,uA ds hp n (i-ds.length) (by rw[Nat.succ_mul]at h;omega)];congr 1
    conv=>rhs;rw[show i=(i-ds.length)+ds.length from by omega,Nat.add_mod_right]
theorem uJ(ds:List Value)(hp:0<ds.length)(n:Nat):((Array.range (n*ds.length)).map (ds.toArray[· % ds.toArray.size]!)).toList=(List.replicate n ds).flatten:=by
 apply List.ext_getElem?;intro i;rcases Nat.lt_or_ge i (n*ds.length)with hi|hi
 ·rw[uA ds hp n i hi];have hm:i % ds.length<ds.length:=Nat.mod_lt _ hp;simp[hi,List.getElem?_eq_getElem hm]
 ·rw[List.getElem?_eq_none (by simpa using hi),List.getElem?_eq_none (by simpa using hi)]
theorem xK:(Array.range 0).map (fun _=>(default:Value))=#[]:=by rw[show Array.range 0=#[]from rfl];simp
theorem xg(r:R P μ h w){cs:List V}{ds:List Value}(hv:VRs μ cs ds)(hone:∀d∈ds,d.oneCell'=true)(c:Array Value)(el:TypeId)(fr:Nat × Nat)(extra:List Value)(hc:c.toList=ds++extra)(hfr:∀j,j<c.size→¬(fr.1≤j∧j<fr.2))(p:Nat→Prop)(hp:∀N0,∃N,N0≤N∧p N∧Tag P N ⟨w.heap.size,0,c.size⟩ (.cells c el fr)):
  ∃b μ',μ' b=some ⟨w.heap.size,0,c.size⟩∧h b=none∧μ b=none∧p b∧St P μ h w μ' (hadd h b (.cells cs false)) (w.alloc (.cells c el fr)):=by
 have hl:=hv.len;have hsz:c.size=ds.length+extra.length:=by rw[← Array.length_toList,hc];simp
 obtain⟨b,h1,h2,_,h4,h3⟩:=St.newP (P:=P) r (.cells c el fr) (.cells cs false) c.size p hp fun b hb=>by
  refine⟨c,el,fr,rfl,rfl,?_,fun i v hi=>?_,fun _ j _ hj=>hfr j hj⟩
  ·show 0+cs.length≤c.size;omega
  ·obtain⟨d,hd,hr⟩:=hv.get hi;have hd':c[0+i]?=some d:=by
    rw[Nat.zero_add,← Array.getElem?_toList,hc,List.getElem?_append_left (List.getElem?_eq_some_iff.1 hd).1];exact hd
   refine⟨d,hd',hr.mono ?_,hone d (List.mem_of_getElem? hd)⟩;intro b' L' e;have:b'≠b:=fun e'=>by subst e';rw[hb]at e;cases e
   simp[this,e]
 exact⟨b,_,by simp,h2,h1,h4,h3⟩
theorem lI(r:R P μ h w){cs:List V}{ds:List Value}(hv:VRs μ cs ds)(hone:∀d∈ds,d.oneCell'=true)(c:Array Value)(el:TypeId)(fr:Nat × Nat)(extra:List Value)(hc:c.toList=ds++extra)(hfr:∀j,j<c.size→¬(fr.1≤j∧j<fr.2))(by_:Bool)(hby:by_=true→P.underlying el=some (.int .u8)∧P.cellsOf el=1):
  ∃b μ',μ' b=some ⟨w.heap.size,0,c.size⟩∧h b=none∧μ b=none∧(by_=true→isB b)∧St P μ h w μ' (hadd h b (.cells cs false)) (w.alloc (.cells c el fr)):=by
 refine xg r hv hone c el fr extra hc hfr _ fun N0=>?_;cases by_
 ·obtain⟨N,h1,h2,h3⟩:=wF N0;exact⟨N,h1,fun e=>(by cases e),fun e=>absurd e h2,fun e=>absurd e h3⟩
 ·obtain⟨N,h1,h2,h3⟩:=vM N0;exact⟨N,h1,fun _=>h2,fun _ _ _ _ e'=>(by cases e';exact hby rfl),fun e=>absurd e h3⟩
theorem oZ(r:R P μ h w){cs:List V}{ds:List Value}(hv:VRs μ cs ds)(hone:∀d∈ds,d.oneCell'=true)(c:Array Value)(el:TypeId)(fr:Nat × Nat)(extra:List Value)(hc:c.toList=ds++extra)(hfr:∀j,j<c.size→¬(fr.1≤j∧j<fr.2)):
  ∃b μ',μ' b=some ⟨w.heap.size,0,c.size⟩∧h b=none∧μ b=none∧St P μ h w μ' (hadd h b (.cells cs false)) (w.alloc (.cells c el fr)):=by
 obtain⟨b,μ',h1,h2,h3,_,h4⟩:=lI r hv hone c el fr extra hc hfr false fun e=>by cases e
 exact⟨b,μ',h1,h2,h3,h4⟩
theorem lh{e:TypeId}{n:Nat}(h:fG P e n=1):P.underlying e=some (.int .u8)∧P.cellsOf e=1:=by
 unfold fG at h;split at h
 ·split at h
  ·split at h
   ·exact⟨‹_›,‹_›⟩
   ·cases h
  ·cases h
 ·exact absurd h ‹_›
theorem mO{e:TypeId}{n:Nat}:n≤fG P e n:=by
 unfold fG;split
 ·split
  ·split<;>omega
  ·omega
 ·omega
theorem Dl{cs:List V}{ds:List Value}(hv:VRs μ cs ds)(hf:cs.all V.flat=true):∀d∈ds,d.oneCell'=true:=fun d hd=>by
 obtain⟨a,ha,hr⟩:=hv.mem hd;exact hr.oneCell (List.all_eq_true.1 hf a ha)
theorem uw:∀(qs:List (Nat × Nat × Opd)) (c0 c1:List V),di ρ c0 qs=some c1→c0.all V.flat=true→c1.all V.flat=true
 |[],c0,c1,hh,h0=>by simp only[di]at hh;cases hh;exact h0
 |(o,s,y)::qs,c0,c1,hh,h0=>by
   simp only[di]at hh;split at hh
   ·rename_i hcc;refine uw qs _ c1 hh ?_;rw[List.all_eq_true]at h0⊢;intro x hx;simp only[List.append_assoc,List.mem_append]at hx;rcases hx with hx|hx|hx
    ·exact h0 x (List.mem_of_mem_take hx)
    ·exact List.all_eq_true.1 hcc.2.2 x hx
    ·exact h0 x (List.mem_of_mem_drop hx)
   ·cases hh
theorem yu{z:List V}(hz:z.all V.flat=true)(n:Nat):(zeros z n).all V.flat=true:=by
 induction n with
 |zero=>simp[zeros]
 |succ n ih=>rw[yw,List.all_append,hz,ih];rfl
theorem wrap_i64{i:Int}(h0:0≤i)(h1:i<9223372036854775808):IntKind.i64.wrap i=i:=by
 simp only[IntKind.wrap,IntKind.bits,IntKind.signed];simp only[Bool.true_and,ge_iff_le,decide_eq_true_eq];have e1:(2:Int) ^ 64=18446744073709551616:=by decide
 have e2:(2:Int) ^ (64-1)=9223372036854775808:=by decide
 rw[e1,e2];have:i % 18446744073709551616=i:=by omega
 rw[this,if_neg (by omega)]
theorem grownCap_ge(w:World)(a b:Nat)(e:TypeId):a≤grownCap w a b e:=by
 unfold grownCap Question.cut;exact Nat.le_add_right _ _
set_option maxHeartbeats 2000000 in
theorem Jy{op:Op}{k:AK}(hc:cOp P n op=some (.a k))(hρ:Rho P n μ ρ ρ')(r:R P μ h w){x:AObj}{f:Nat→V}(he:k.ev ρ=some (x,f))(o:Oper)(ho:o.op=op):
  ∃d w' μ' b,h b=none∧k.fits b∧VR μ' (f b) d∧(execOp ρ' o).run P w=.ok (.value d) w'∧St P μ h w μ' (hadd h b x) w':=by
 obtain⟨dst,op',type,pos,after,guard⟩:=o;simp only at ho;subst ho;cases op' with
 |alloc e =>
   simp only[cOp]at hc;obtain⟨z,hz,hk⟩:=Option.map_eq_some_iff.1 hc;cases hk;obtain⟨d,ds,hd,hcs,hv,hs,hp,hfl⟩:=iC (μ:=μ) hz
   by_cases hT:Cb P=some e
   ·rw[if_pos hT]at he⊢;simp only[AK.ev]at he;cases he;obtain⟨b,μ',hb,h1,h2,h4,h3⟩:=xg (w:=w) r hv (Dl hv hfl) ds.toArray e (0,0) [] (by simp) (fun j _ h=>by simp at h) isW (fun N0=>by
     obtain⟨N,n1,n2,n3⟩:=OC N0;refine⟨N,n1,n3,fun e=>absurd e n2,fun _=>⟨rfl,fun _ _ _ e'=>?_⟩⟩;cases e';obtain⟨⟨i,hi,hsz⟩,_,_⟩:=yM hT;refine⟨hT,?_⟩;simp only[fZ,hi,Option.map_some,Option.some.injEq]at hs;have:=hv.len;rw[List.size_toArray,← this,← hs,hsz])
    refine⟨_,_,μ',b,h1,h4,.ptr hb,?_,h3⟩;simp only[execOp];refine aC ?_;simp[Instr.alloc,hd,newVar,newRow,hcs]
   ·rw[if_neg hT]at he⊢;simp only[AK.ev]at he;cases he;obtain⟨b,μ',hb,h1,h2,h3⟩:=oZ (w:=w) r hv (Dl hv hfl) ds.toArray e (0,0) [] (by simp) (fun j _ h=>by simp at h);refine⟨_,_,μ',b,h1,trivial,.ptr hb,?_,h3⟩;simp only[execOp];refine aC ?_;simp[Instr.alloc,hd,newVar,newRow,hcs]
 |box e y =>
   simp only[cOp]at hc;obtain⟨a,ha,hk⟩:=Option.map_eq_some_iff.1 hc;cases hk;simp only[AK.ev]at he;split at he
   ·rename_i hflat;cases he;obtain⟨ds,hcs,hv⟩:=(aY hρ ha).cells hflat;obtain⟨b,μ',hb,h1,h2,h3⟩:=oZ (w:=w) r hv (Dl hv hflat) ds.toArray e (0,0) [] (by simp) (fun j _ h=>by simp at h);refine⟨_,_,μ',b,h1,trivial,.ptr hb,?_,h3⟩;simp only[execOp];refine aC ?_;simp[Instr.box,newVar,newRow,hcs]
   ·cases he
 |buildSlice t len ps =>
   simp only[cOp]at hc;split at hc
   ·rename_i e hu;split at hc
    ·rename_i z hz;split at hc
     ·rename_i hlim;obtain⟨qs,hq,hk⟩:=Option.map_eq_some_iff.1 hc;cases hk;simp only[AK.ev]at he;obtain⟨cs,hf,e'⟩:=Option.map_eq_some_iff.1 he;cases e';obtain⟨d,ds,hd,hcs,hv,hs,hp,hfl⟩:=iC (μ:=μ) hz;have hlen:=hv.len;obtain⟨es,q1,q2⟩:=qp hρ _ ps.toList qs _ _ cs hq (uk hv len) hf;obtain⟨b,μ',hb,h1,h2,h3⟩:=oZ (w:=w) r q2 (Dl q2 (uw qs _ _ hf (yu hfl len))) es.toArray e (0,0) [] (by simp) (fun j _ h=>by simp at h);have hsz:es.toArray.size=len*z.length:=by
       have a1:=q2.len;have a2:cs.length=len*z.length:=by
        have key:∀(qs:List (Nat × Nat × Opd)) (c0 c1:List V),di ρ c0 qs=some c1→c1.length=c0.length:=by
         intro qs;induction qs with
         |nil=>intro c0 c1 hh;simp only[di]at hh;cases hh;rfl
         |cons q qs ih =>
           intro c0 c1 hh;obtain⟨o,s,y⟩:=q;simp only[di]at hh;split at hh
           ·rename_i hcc;rw[ih _ _ hh];simp;omega
           ·cases hh
        rw[key qs _ _ hf];simp[zeros]
       simp;omega
      refine⟨_,_,μ',b,h1,trivial,.sl (o':=0) (cap:=len) hb (fun _=>rfl) (Nat.le_refl _) (by rw[hsz];simp) hp,?_,h3⟩;simp only[execOp];refine aC ?_;simp only[Instr.buildSlice,Sem.run_bind,au hu,Result.andThen_ok,run_sizeOf hs];rw[if_neg (by rw[show(2:Nat)^24=16777216 from by decide];omega)];have hps:(ps.map fun p=>(p.1,ρ' p.2)).toList=ps.toList.map fun p=>(p.1,ρ' p.2):=Array.toList_map ..
      by_cases h0:len*z.length=0
      ·have hl0:len=0:=by rcases Nat.mul_eq_zero.1 h0 with h|h<;>omega
       subst hl0;simp at q1;simp[hps,xK,q1,newRow]
      ·have hcell:(Array.range (len*z.length)).map (ds.toArray[· % ds.toArray.size]!)=(List.replicate len ds).flatten.toArray:=by
        apply Array.toList_inj.1;rw[hlen,uJ ds (by omega) len]
       simp only[if_neg h0,Sem.run_bind,hd,Result.andThen_ok,Sem.run_pure,hcs,hcell,hps,q1];simp[newRow]
     ·cases hc
    ·cases hc
   ·cases hc
 |makeMap t rs =>
   cases rs<;>simp only[cOp]at hc<;>(try cases hc;done);cases hc;simp only[AK.ev]at he;cases he;obtain⟨b,h1,h2,_,h3⟩:=St.new (P:=P) r (.map #[] 0) (.map [] 0) 0 fun b hb=>⟨#[],rfl,.nil⟩;refine⟨_,_,_,b,h2,trivial,.map (L:=⟨w.heap.size,0,0⟩) (by simp),?_,h3⟩;simp only[execOp];refine aC ?_;simp[Instr.makeMap]
 |makeSlice t l c =>
   simp only[cOp]at hc;split at hc
   ·rename_i l' c' e h1 h2 hu;split at hc
    ·rename_i z i hz hi;split at hc
     ·rename_i hby;cases hc;simp only[AK.ev]at he;cases hl:ρ l'<;>simp only[hl]at he<;>(try cases he;done);rename_i kl nl;cases hcv:ρ c'<;>simp only[hcv]at he<;>(try cases he;done);rename_i kc nc;cases kl<;>cases kc<;>(try (exfalso;simp at he;done));simp only at he;split at he
      ·rename_i hcond;obtain⟨c1,c2,c3,c4⟩:=hcond;have c3:nc*(i.bytes:Nat)≤1099511627776:=Int.le_trans (Int.mul_le_mul_of_nonneg_left (Int.ofNat_le.2 (mO (P:=P) (e:=e))) (Int.le_trans c1 c2)) c3;cases he;have e1:=aY hρ h1;have e2:=aY hρ h2;rw[hl]at e1;rw[hcv]at e2;obtain⟨d,ds,hd,hcs,hv,hs,hp,hfl⟩:=iC (μ:=μ) hz;have hlen:=hv.len;obtain⟨b,μ',hb,q1,q2,q4,q3⟩:=lI (w:=w) r (uk hv nc.toNat) (Dl (uk hv nc.toNat) (yu hfl _)) (List.replicate nc.toNat ds).flatten.toArray e (0,0) [] (by simp) (fun j _ h=>by simp at h) (fG P e i.bytes==1) (fun e=>lh (by simpa using e));refine⟨_,_,μ',b,q1,(fun e=>q4 (by simpa using e)),.sl (o':=0) (cap:=nc.toNat) hb (fun _=>rfl) (by omega) (by simp[hlen]) hp,?_,q3⟩;simp only[execOp];refine aC ?_;rw[e1.int_inv,e2.int_inv];have w1:IntKind.i64.wrap nl=nl:=wrap_i64 c1 (by omega);have w2:IntKind.i64.wrap nc=nc:=wrap_i64 (by omega) (by omega);have hbig:¬((i.bytes:Int)*nc>2 ^ 48):=by
        rw[Int.mul_comm,show(2:Int) ^ 48=281474976710656 from by decide];omega
       have hti:(typeInfo e).run P w=.ok i w:=run_typeInfo_some hi w;simp only[Instr.makeSlice,Sem.run_bind,au hu,Result.andThen_ok,asInt,asIntOf,Sem.run_pure,hti,w1,w2];rw[if_neg (by simp;omega)]
       by_cases h0:nc.toNat*z.length=0
       ·have hl0:nc.toNat=0:=by rcases Nat.mul_eq_zero.1 h0 with h|h<;>omega
        simp[run_sizeOf hs,hl0,newRow,xK]
       ·have hrow:(Array.range (nc.toNat*z.length)).map (ds.toArray[· % ds.toArray.size]!)=(List.replicate nc.toNat ds).flatten.toArray:=by
         apply Array.toList_inj.1;rw[hlen,uJ ds (by omega)]
        simp only[Sem.run_bind,run_askRoom,Result.andThen_ok,run_sizeOf hs,if_neg h0,hd,Sem.run_pure,hcs,hrow];simp[newRow]
      ·cases he
     ·cases hc
    ·cases hc
   ·cases hc
 |convert s d y =>
   simp only[cOp]at hc;split at hc
   ·cases hc
   ·cases hc
   ·split at hc<;>cases hc
   ·rename_i a e h1 h2 h3;split at hc
    ·rename_i hu8;cases hc;simp only[AK.ev]at he;cases ha:ρ a<;>simp only[ha]at he<;>(try cases he;done);rename_i str;have hv:=aY hρ h1;rw[ha]at hv;cases he;have hs:(⟨str.toArray⟩:ByteArray).size=str.length:=dJ str;have hbv:VRs μ (bytesIn str) (str.map fun b=>Value.int .u8 b.toNat):=All2.map_same str fun x _=>.int _ _;have r':R P μ h w.drew:=r.eqv rfl;have hcap:=grownCap_ge w (⟨str.toArray⟩:ByteArray).size 0 e;have hrow:(bytesRow ⟨str.toArray⟩ (grownCap w (⟨str.toArray⟩:ByteArray).size 0 e)).toList=(str.map fun b=>Value.int .u8 b.toNat)++List.replicate (grownCap w (⟨str.toArray⟩:ByteArray).size 0 e-str.length) (.int .u8 0):=by
      simp[bytesRow,hs]
     have hsz:(bytesRow ⟨str.toArray⟩ (grownCap w (⟨str.toArray⟩:ByteArray).size 0 e)).size=grownCap w (⟨str.toArray⟩:ByteArray).size 0 e:=by
      rw[← Array.length_toList,hrow];simp;omega
     obtain⟨b,μ',hb,q1,q2,q3⟩:=oZ (w:=w.drew) r' hbv (fun d hd=>by obtain⟨c,_,rfl⟩:=List.mem_map.1 hd;rfl) (bytesRow ⟨str.toArray⟩ (grownCap w (⟨str.toArray⟩:ByteArray).size 0 e)) e ((bytesRow ⟨str.toArray⟩ (grownCap w (⟨str.toArray⟩:ByteArray).size 0 e)).size,(bytesRow ⟨str.toArray⟩ (grownCap w (⟨str.toArray⟩:ByteArray).size 0 e)).size+1) _ hrow (fun j hj h=>by simp at h;omega);refine⟨_,_,μ',b,q1,trivial,.sl (o':=0) (cap:=grownCap w (⟨str.toArray⟩:ByteArray).size 0 e) hb (fun _=>rfl) (by omega) (by simp only[hsz];omega) (by decide),?_,St.trans ((St.refl r).eqv (vY w)) q3⟩;simp only[execOp];refine aC ?_;rw[hv.str_inv,run_bytes_of_string w s d e _ h2 h3 hu8,hs];rfl
    ·cases hc
   ·split at hc<;>cases hc
   ·split at hc<;>cases hc
   ·cases hc
 |makeFunc f a c=>cases f<;>simp only[cOp]at hc<;>(try cases hc;done);split at hc<;>cases hc
 |typeAssert x xt t ok=>cases ok<;>simp only[cOp]at hc<;>(try cases hc;done);split at hc<;>cases hc
 |slice t x l hh m=>cases m<;>simp only[cOp]at hc<;>repeat' (first|(cases hc;done)|split at hc)
 |call c =>
   obtain⟨cal,args,ts⟩:=c;simp only[cOp,iT]at hc
   repeat' (first|(cases hc;done)|(obtain⟨_,_,e⟩:=Option.map_eq_some_iff.1 hc;cases e;done)|split at hc)
 |_ =>
   exfalso;simp only[cOp]at hc
   repeat' (first|(cases hc;done)|(obtain⟨_,_,e⟩:=Option.map_eq_some_iff.1 hc;cases e;done)|split at hc)
end
section
open Go
variable{P:Program}{μ:Mu}{h:H}{w:World}{n:Nat}{ρ:Opd→V}{ρ':Operand→Value}{v:V}
def Done(P:Program)(μ:Mu)(h:H)(w:World)(s:Sem Next)(Q:V→H→Prop):Prop:=
 ∃nx v d h' μ' w',s.run P w=.ok nx w'∧(nx=.value d∨(nx=.skip∧d=undef))∧Q v h'∧VR μ' v d∧St P μ h w μ' h' w'
structure At(w w':World)(B:Nat)(x:Obj):Prop where
 size:w'.heap.size=w.heap.size
 here:w'.heap[B]?=some x
 else_:∀B',B'≠B→w'.heap[B']?=w.heap[B']?
 rest:w'.os=w.os∧w'.tape=w.tape∧w'.output=w.output
theorem At.trans{w w' w'':World}{B:Nat}{x y:Obj}(a:At w w' B x)(b:At w' w'' B y):At w w'' B y:=
 ⟨b.size.trans a.size,b.here,fun B' h=>(b.else_ B' h).trans (a.else_ B' h),b.rest.1.trans a.rest.1,b.rest.2.1.trans a.rest.2.1,b.rest.2.2.trans a.rest.2.2⟩
theorem EE{B off:Nat}{c:Array Value}{el:TypeId}{fr:Nat × Nat}(hb:w.heap[B]?=some (.cells c el fr))(v:Value):At w (w.setCell ⟨B,off,none⟩ v) B (.cells (c.setIfInBounds off v) el fr):=by
 refine⟨by simp,?_,fun B' hB=>?_,rfl,rfl,rfl⟩
 ·simp[World.setCell,Array.getElem?_modify,hb]
 ·simp[World.setCell,Array.getElem?_modify,Ne.symm hB]
theorem dG{B:Nat}{o:Obj}(hb:B<w.heap.size)(x:Obj):At w {w with heap:=w.heap.setIfInBounds B x} B x:=by
 refine⟨by simp,?_,fun B' hB=>?_,rfl,rfl,rfl⟩
 ·simp[hb]
 ·simp[Array.getElem?_setIfInBounds,Ne.symm hB]
theorem lQ(B off:Nat)(el:TypeId)(fr:Nat × Nat):∀(vs:List Value) (i:Nat) (w:World) (c:Array Value),w.heap[B]?=some (.cells c el fr)→off+i+vs.length≤c.size →
  (∀j,off+i≤j→j<off+i+vs.length→¬(fr.1≤j∧j<fr.2))→(∀v∈vs,v.oneCell'=true) →
  ∃w' c',(storeCells ⟨B,off,none⟩ vs i).run P w=.ok () w'∧At w w' B (.cells c' el fr)∧c'.size=c.size∧c'.toList=c.toList.take (off+i)++vs++c.toList.drop (off+i+vs.length)
 |[],i,w,c,hb,_,_,_=>⟨w,c,by simp[storeCells],⟨rfl,hb,fun _ _=>rfl,rfl,rfl,rfl⟩,rfl,by simp⟩
 |v::vs,i,w,c,hb,hs,hf,ho=>by
   simp only[List.length_cons]at hs hf;have hlt:off+i<c.size:=by omega
   have hcell:w.cell? ⟨B,off+i,none⟩=some c[off+i]:=by simp[World.cell?,hb,hlt]
   have hfr:w.frozen? ⟨B,off+i,none⟩=false:=by
    have:=hf (off+i) (Nat.le_refl _) (by omega);simp only[World.frozen?,hb];rw[Bool.and_eq_false_iff,decide_eq_false_iff_not,decide_eq_false_iff_not];omega
   have hst:(store ((⟨B,off,none⟩:Addr).add i) v).run P w=.ok () (w.setCell ⟨B,off+i,none⟩ v):=by
    rw[add_lit,run_store P w _ v _ (ho v (by simp))];simp[hcell,hfr]
   have ha:=EE hb (off:=off+i) v;obtain⟨w',c',h1,h2,h3,h4⟩:=lQ B off el fr vs (i+1) _ _ ha.here (by simp;omega) (fun j hj1 hj2=>hf j (by omega) (by omega)) (fun x hx=>ho x (by simp[hx]));refine⟨w',c',?_,ha.trans h2,by simpa using h3,?_⟩
   ·simp only[storeCells,Sem.run_bind,hst,Result.andThen_ok,h1]
   ·rw[h4];simp only[Array.toList_setIfInBounds,List.length_cons];rw[show off+(i+1)=off+i+1 from by omega,List.take_set,List.drop_set,if_pos (by omega)];have hl:off+i<c.toList.length:=by simpa using hlt
    have:(c.toList.take (off+i+1)).set (off+i) v=c.toList.take (off+i)++[v]:=by
     rw[List.take_succ_eq_append_getElem hl];have hm:(c.toList.take (off+i)).length=off+i:=by rw[List.length_take];omega
     rw[List.set_append_right _ _ (by omega),hm];simp
    rw[this];simp;congr 1;omega
theorem uh{L:Loc}{cs:List V}{c c':Array Value}{el:TypeId}{fr:Nat × Nat}{o:Nat}{ps:List V}{ds:List Value}(hO:OR P μ L (.cells cs false) (.cells c el fr))(hv:VRs μ ps ds)(hone:∀d∈ds,d.oneCell'=true)
  (hle:o+ps.length≤cs.length) (hs:c'.size=c.size) (hc:c'.toList=c.toList.take (L.s+o)++ds++c.toList.drop (L.s+o+ds.length)):
  OR P μ L (.cells (cs.take o++ps++cs.drop (o+ps.length)) false) (.cells c' el fr):=by
 obtain⟨c0,el0,fr0,e,h1,h2,h3,h4⟩:=hO;cases e;have hl:=hv.len;refine⟨c',el,fr,rfl,hs.trans h1,by simp;omega,fun i v hi=>?_,h4⟩;have hcl:c.toList.length=L.n:=by simpa using h1
 rw[← Array.getElem?_toList,hc];have hm:(c.toList.take (L.s+o)).length=L.s+o:=by rw[List.length_take];omega
 have hm':(cs.take o).length=o:=by rw[List.length_take];omega
 rcases Nat.lt_or_ge i o with ho|ho
 ·rw[List.append_assoc,List.getElem?_append_left (by omega)]at hi;rw[List.append_assoc,List.getElem?_append_left (by omega),List.getElem?_take_of_lt (by omega)];rw[List.getElem?_take_of_lt ho]at hi;obtain⟨d,hd,hr⟩:=h3 i v hi;exact⟨d,by rw[Array.getElem?_toList];exact hd,hr⟩
 ·rcases Nat.lt_or_ge i (o+ps.length)with ho2|ho2
  ·rw[List.getElem?_append_left (by simp;omega),List.getElem?_append_right (by omega),hm']at hi;rw[List.getElem?_append_left (by simp;omega),List.getElem?_append_right (by omega),hm];obtain⟨d,hd,hr⟩:=hv.get hi;exact⟨d,by rw[← hd];congr 1;omega,hr,hone d (List.mem_of_getElem? hd)⟩
  ·rw[List.getElem?_append_right (by simp;omega)]at hi;rw[List.getElem?_append_right (by simp;omega)];simp only[List.length_append,hm,hm']at hi⊢;rw[List.getElem?_drop]at hi⊢;have e1:o+ps.length+(i-(o+ps.length))=i:=by omega
   rw[e1]at hi;obtain⟨d,hd,hr⟩:=h3 i v hi;exact⟨d,by rw[← hd,Array.getElem?_toList];congr 1;omega,hr⟩
theorem Ep{t:TypeId}{x y:Operand}{a b:Opd}{s:Nat}(hρ:Rho P n μ ρ ρ')(r:R P μ h w)(h1:aH P n x=some a)(h2:aH P n y=some b)(hs:fZ P t=some s){Q:V→H→Prop}{call:CP}
  (hE:HK.E call ρ h Q (.store s a b)):Done P μ h w (do Instr.storeAt t (ρ' x) (ρ' y);pure .skip) Q:=by
 have hv:=aY hρ h1;have hw:=aY hρ h2;simp only[HK.E]at hE;cases ha:ρ a<;>simp only[ha]at hE<;>(try exact hE.elim);rename_i bb o;rw[ha]at hv;obtain⟨L,hL,e⟩:=hv.ptr_inv;cases hb:h bb with
 |none=>simp[hb]at hE
 |some ob =>
   cases ob<;>simp only[hb]at hE<;>(try exact hE.elim);rename_i cs ro;cases ro
   case true=>exact hE.elim
   case false =>
    simp only at hE;obtain⟨c1,c2,c3,c4⟩:=hE;obtain⟨ds,hds,hvs⟩:=hw.cells c3;obtain⟨L',X,eL,hx,hO⟩:=r.at_ bb _ hb;rw[hL]at eL;cases eL;have hO':=hO;obtain⟨c,el,fr,rfl,q1,q2,q3,q4⟩:=hO;have hl:=hvs.len;have hone:∀u∈ds,u.oneCell'=true:=fun u hu=>by
     obtain⟨a',ha',hr'⟩:=hvs.mem hu;exact hr'.oneCell (List.all_eq_true.1 c3 a' ha')
    obtain⟨w',c',g1,g2,g3,g4⟩:=lQ (P:=P) L.B (L.s+o) el fr ds 0 w c hx (by omega) (fun j hj1 hj2=>q4 rfl j (by omega) (by omega)) hone;simp only[Nat.add_zero]at g4;refine⟨.skip,.undef,undef,_,μ,w',?_,.inr ⟨rfl,rfl⟩,c4,.undef _,?_⟩
    ·rw[e];have hsz:(ρ' y).cells.size=s:=by rw[hds];simp;omega
     simp only[Instr.storeAt,Instr.sureAddr,Sem.run_bind,Sem.run_pure,Result.andThen_ok,storeVar,run_sizeOf hs];rw[hsz];simp only[ne_eq,not_true_eq_false,if_false,Sem.run_pure,Sem.run_bind,Result.andThen_ok,hds,g1]
    ·have:=uh hO' hvs hone (o:=o) (by omega) g3 g4;rw[c1]at this;exact St.put r hb rfl hL g2.size g2.here g2.else_ g2.rest this (fun y hy=>by rw[hx]at hy;cases hy;exact Kp.same g3)
theorem zJ(r:R P μ h w){es k:Nat}{y:V}{dy:Value}{new:List V}(hv:VR μ y dy)(he:dI es h y=some (k,new)):
  (Builtin.lenOf dy).run P w=.ok k w∧new.length=k*es∧∃ds:List Value,VRs μ new ds∧(∀d∈ds,d.oneCell'=true)∧∀m,m≤k→∀w1:World,w1.heap=w.heap→(Builtin.firstCells es m dy).run P w1=.ok (ds.take (m*es)).toArray w1:=by
 cases y<;>simp only[dI]at he<;>(try cases he;done)
 case str s =>
  split at he
  ·rename_i h1;cases he;subst h1;rw[hv.str_inv];refine⟨by simp[Builtin.lenOf,dJ],by simp[bytesIn],s.map fun b=>.int .u8 b.toNat,All2.map_same s fun x _=>.int _ _,fun d hd=>by(obtain⟨c,_,rfl⟩:=List.mem_map.1 hd;rfl),fun m hm w1 _=>?_⟩;simp only[Builtin.firstCells,jV,Sem.run_pure];congr 1;apply Array.toList_inj.1;simp[List.map_take]
  ·cases he
 case sl b o es' len =>
  obtain⟨L,o',cap,hL,ho,hc,hn,hp,e⟩:=hv.sl_inv;cases hb:h b with
  |none=>simp[hb]at he
  |some ob =>
    cases ob<;>simp only[hb]at he<;>(try cases he;done);rename_i cs ro;split at he
    ·rename_i hcond;obtain⟨h1,h2⟩:=hcond;subst h1;cases he;obtain⟨ds,hl,hvs,hcs⟩:=r.some_cells hb hL o (k*es) h2;refine⟨by rw[e];simp[Builtin.lenOf],by simp;omega,ds,hvs,fun d hd=>(by obtain⟨j,hj⟩:=List.mem_iff_getElem?.1 hd;exact(hcs j d hj).2),fun m hm w1 hw1=>?_⟩;rw[e];simp only[Builtin.firstCells];rcases Nat.eq_zero_or_pos m with h0|h0
     ·subst h0;simp[loadCells,loadCellsFrom]
     ·rw[ho (by omega)];have hmul:m*es≤k*es:=Nat.mul_le_mul_right _ hm;have hlen:(ds.take (m*es)).length=m*es:=by rw[List.length_take];omega
      rw[← hlen,pF]
      ·simp[hlen]
      ·intro j d hj;have:ds[j]?=some d:=by
        rcases Nat.lt_or_ge j (m*es)with hj'|hj'
        ·rw[List.getElem?_take_of_lt hj']at hj;exact hj
        ·rw[List.getElem?_eq_none (by rw[hlen];exact hj')]at hj;cases hj
       have:=(hcs j d this).1;simp only[World.cell?,hw1]at this⊢;exact this
    ·cases he
 case nilsl =>
  cases he;rw[hv.nilsl_inv];exact⟨by simp[Builtin.lenOf],by simp,[],.nil,fun d hd=>by simp at hd,fun m hm w1 _=>by simp[Builtin.firstCells]⟩
theorem St.reborn(r:R P μ h w){b:Nat}{o o':AObj}{L:Loc}{s':Nat}{x:Obj}{w':World}(hb:h b=some o)(hro:o.ro=false)(hL:μ b=some L)(hat:At w w' L.B x)
  (ho:∀b',μ b'=none→OR P (fun i=>if i=b' then some ⟨L.B,s',L.n⟩else μ i) ⟨L.B,s',L.n⟩ o' x) (hby:∀y,w.heap[L.B]?=some y→Kp P y x):
  ∃b',b'≠b∧h b'=none∧(isB b→isB b')∧St P μ h w (fun i=>if i=b' then some ⟨L.B,s',L.n⟩else μ i) (hadd (hset h b none) b' o') w':=by
 obtain⟨N0,hN0⟩:=r.fin;obtain⟨N,hNN,hpar,hnW⟩:∃N,N0≤N∧(isB N↔isB b)∧¬isW N:=by
  by_cases hb:isB b
  ·obtain⟨N,n1,n2,n3⟩:=vM N0;exact⟨N,n1,by simp only[hb,n2],n3⟩
  ·obtain⟨N,n1,n2,n3⟩:=wF N0;exact⟨N,n1,by simp only[hb,n2],n3⟩
 have hN:∀b,N≤b→μ b=none:=fun b hb=>hN0 b (by omega);have hbN:μ N=none:=hN N (Nat.le_refl _);have hh:h N=none:=by
  cases e:h N with
  |none=>rfl
  |some o=>obtain⟨L,_,e',_⟩:=r.at_ N o e;rw[hbN]at e';cases e'
 have hne:N≠b:=fun e=>by subst e;rw[hbN]at hL;cases hL
 have hle:μ.le (fun i=>if i=N then some ⟨L.B,s',L.n⟩else μ i):=fun c K e=>by
  have:c≠N:=fun e'=>by subst e';rw[hbN]at e;cases e
  simp[this,e]
 have hold:∀c oc,hadd (hset h b none) N o' c=some oc→c≠N→c≠b∧h c=some oc:=fun c oc hc hcN=>by
  simp only[hadd,hset,hcN,if_false]at hc
  by_cases e:c=b
  ·simp[e]at hc
  ·simp[e]at hc;exact⟨e,hc⟩
 have hnew:∀oc,hadd (hset h b none) N o' N=some oc→oc=o':=fun oc hc=>by simp[hadd,hset]at hc;exact hc.symm
 have hother:∀c oc K,c≠b→h c=some oc→μ c=some K→L.B≠K.B:=fun c oc K hcb hc hK=>r.inj b c o oc L K hb hc (Ne.symm hcb) hL hK hro;refine⟨N,hne,hh,hpar.2,⟨hle,⟨⟨N+1,fun c hc=>?_⟩,fun c oc hc=>?_,fun c c' o₁ o₂ L₁ L₂ h₁ h₂ hcc e₁ e₂ hr=>?_,fun g hg=>let ⟨k,e⟩:=r.glob g hg;⟨k,hle g _ e⟩,fun c oc K y hc hK hy=>?_⟩,by rw[hat.size];exact Nat.le_refl _,fun B hB hO=>?_,fun B hB=>?_,fun c hc=>?_,hat.rest.1,hat.rest.2.1,hat.rest.2.2⟩⟩
 ·have:c≠N:=by omega
  simp[this];exact hN c (by omega)
 ·by_cases e:c=N
  ·subst e;have:=hnew oc hc;subst this;exact⟨⟨L.B,s',L.n⟩,x,by simp,hat.here,ho _ hbN⟩
  ·obtain⟨hcb,hc'⟩:=hold c oc hc e;obtain⟨K,y,a1,a2,a3⟩:=r.at_ c oc hc';exact⟨K,y,by simp[e,a1],by rw[hat.else_ _ (fun e'=>hother c oc K hcb hc' a1 e'.symm)];exact a2,a3.mono P hle⟩
 ·by_cases c₁:c=N
  ·subst c₁;have c₂:c'≠c:=fun e=>hcc e.symm;obtain⟨hcb,hc'⟩:=hold c' o₂ h₂ c₂;simp at e₁;subst e₁;simp[c₂]at e₂;exact hother c' o₂ L₂ hcb hc' e₂
  ·obtain⟨hcb,hc'⟩:=hold c o₁ h₁ c₁;simp[c₁]at e₁
   by_cases c₂:c'=N
   ·subst c₂;simp at e₂;subst e₂;exact fun e=>hother c o₁ L₁ hcb hc' e₁ e.symm
   ·obtain⟨hcb₂,hc₂⟩:=hold c' o₂ h₂ c₂;simp[c₂]at e₂;exact r.inj c c' o₁ o₂ L₁ L₂ hc' hc₂ hcc e₁ e₂ hr
 ·by_cases e:c=N
  ·subst e;simp at hK;subst hK;rw[hat.here]at hy;cases hy;obtain⟨L',z,a1,a2,_⟩:=r.at_ b o hb;rw[hL]at a1;cases a1;exact⟨fun hB=>(hby z a2).1 ((r.byt b o L z hb hL a2).1 (hpar.1 hB)),fun hW=>absurd hW hnW⟩
  ·obtain⟨hcb,hc'⟩:=hold c oc hc e;simp[e]at hK;rw[hat.else_ _ (fun e'=>hother c oc K hcb hc' hK e'.symm)]at hy;exact r.byt c oc K y hc' hK hy
 ·exact hat.else_ B fun e=>hO ⟨b,o,L,hb,hro,hL,e.symm⟩
 ·obtain⟨c,o₁,L₁,g1,g2,g3,rfl⟩:=hB
  by_cases e:c=N
  ·subst e;simp at g3;subst g3;exact .inl ⟨b,o,L,hb,hro,hL,rfl⟩
  ·obtain⟨hcb,hc'⟩:=hold c o₁ g1 e;simp[e]at g3;exact .inl ⟨c,o₁,L₁,hc',g2,g3,rfl⟩
 ·by_cases e:c=N
  ·subst e;refine .inr ⟨hbN,fun K hK=>?_⟩;simp at hK;subst hK;exact .inl ⟨b,o,L,hb,hro,hL,rfl⟩
  ·cases e2:hadd (hset h b none) N o' c with
   |none=>exact absurd e2 hc
   |some oc=>exact .inl (by rw[(hold c oc e2 e).2];simp)
end
section
open Go
variable{P:Program}{μ:Mu}{h:H}{w:World}{n:Nat}{ρ:Opd→V}{ρ':Operand→Value}{v:V}
theorem FN{need old:Nat}(h:old<need):Builtin.nextslicecap need old≤2*need:=nextslicecap_le h
theorem zS{t u:TypeId}{e:TypeId}{d:TypeDesc}{i:TypeInfo}{z:List V}{x y:Operand}{a b:Opd}{ts:Array TypeId}{args:Array Value}{type:TypeId}(hρ:Rho P n μ ρ ρ')(r:R P μ h w)
  (h1:aH P n x=some a) (h2:aH P n y=some b) (hu:P.underlying t=some (.slice e)) (hd:P.underlying u=some d) (hd':∀k,d≠.int k) (hz:lV P e=some z) (hi:P.info? e=some i)
  (hb1:0<i.bytes) (hb2:i.bytes≤1048576) (t0:ts[0]?=some t) (t1:ts[1]?=some u) (a0:args[0]?=some (ρ' x)) (a1:args[1]?=some (ρ' y)) {Q:V→H→Prop} {call:CP}
  (hE:HK.E call ρ h Q (.app z.length (fG P e i.bytes) a b)):Done P μ h w (do pure (.value (← Builtin.append_ ts type args))) Q:=by
 obtain⟨zd,zds,hzr,hzc,hzv,hs,hp,_⟩:=iC (μ:=μ) hz;have hx:=aY hρ h1;have hy:=aY hρ h2;simp only[HK.E]at hE;cases hsrc:dI z.length h (ρ b)with
 |none=>simp[hsrc]at hE
 |some pr =>
   obtain⟨k,new⟩:=pr;simp only[hsrc]at hE;obtain⟨hlen,hnl,ds,hdv,hflat,hfc⟩:=zJ (w:=w) r hy hsrc;have hdl:=hdv.len;have hti:∀w1:World,(typeInfo e).run P w1=.ok i w1:=fun w1=>run_typeInfo_some hi w1;have hmatch:(match d with|.int _=>true|_=>false)=false:=by
    cases d<;>first|rfl|exact absurd rfl (hd' _)
   have htake:ds.take (k*z.length)=ds:=List.take_of_length_le (by omega);have run0:∀(base:Option Addr) (sLen sCap:Nat),ρ' x=.slice base sLen sCap→sLen+k≤sCap→∀w',(match base with|some a=>storeCells (a.add (sLen*z.length)) ds.toArray.toList|none=>pure ():Sem Unit).run P w=.ok () w' →
     (Builtin.append_ ts type args).run P w=.ok (.slice base (sLen+k) sCap) w':=by
    intro base sLen sCap ex hle w' hst;have hn1:=hfc k (Nat.le_refl _) w rfl;rw[htake]at hn1;simp only[Builtin.append_,t0,t1,a0,a1,Sem.run_bind,au hu,au hd,Result.andThen_ok,ex,run_sizeOf hs,Sem.run_pure,hlen,hmatch];simp only[Bool.false_eq_true,if_false,Sem.run_bind,hlen,Result.andThen_ok,Sem.run_pure];rw[if_pos hle];simp only[Bool.not_false,if_true,Sem.run_bind,hn1,Result.andThen_ok];cases base with
    |none=>simp only[Sem.run_pure]at hst⊢;cases hst;rfl
    |some a=>simp only[Sem.run_bind,hst,Result.andThen_ok,Sem.run_pure]
   have run1:∀(base:Option Addr) (sLen sCap:Nat) (olds:List Value),ρ' x=.slice base sLen sCap→sCap<sLen+k→(sLen+k)*i.bytes≤1099511627776→sLen+k≤1099511627776 →
     (Builtin.firstCells z.length sLen (ρ' x)).run P w.drew=.ok olds.toArray w.drew →
     ∃cap,sLen+k≤cap∧(Builtin.append_ ts type args).run P w=.ok (.slice (some ⟨w.heap.size,0,none⟩) (sLen+k) cap) (w.drew.alloc (.cells (olds.toArray++ds.toArray++Builtin.zeroCells zds.toArray (cap-(sLen+k))) e)):=by
    intro base sLen sCap olds ex hlt hby hsm hold;have hn1:=hfc k (Nat.le_refl _) w.drew rfl;rw[htake]at hn1;rw[ex]at hold;refine⟨grownCap w (sLen+k) sCap e,grownCap_ge w _ _ _,?_⟩;simp only[Builtin.append_,t0,t1,a0,a1,Sem.run_bind,au hu,au hd,Result.andThen_ok,ex,run_sizeOf hs,Sem.run_pure,hlen,hmatch];simp only[Bool.false_eq_true,if_false,Sem.run_bind,hlen,Result.andThen_ok,Sem.run_pure];rw[if_neg (by omega)];have hno:¬((i.bytes:Nat)=0):=by omega
    have h48:¬(Builtin.nextslicecap (sLen+k) sCap*i.bytes>2 ^ 48):=by
     have:=FN hlt;have h2:Builtin.nextslicecap (sLen+k) sCap*i.bytes≤2*(sLen+k)*i.bytes:=Nat.mul_le_mul_right _ this;rw[Nat.mul_assoc]at h2;rw[show(2:Nat)^48=281474976710656 from by decide];omega
    simp only[Sem.run_bind,hti,Result.andThen_ok,Sem.run_pure,hno,or_false,and_false,Bool.false_eq_true,if_false,h48,run_choose,Question.forced,run_askRoom];simp only[show({w with drawn:=w.drawn+1}:World)=w.drew from rfl,hold,hn1,Result.andThen_ok,hti,Sem.run_bind,run_askRoom,Bool.not_false,if_true,hzr,hzc];simp only[newRow,Sem.run_bind,run_newObj,Result.andThen_ok,Sem.run_pure];rfl
   cases hxa:ρ a<;>simp only[hxa]at hE<;>(try exact hE.elim)
   case nilsl =>
    rw[hxa]at hx;have ex:=hx.nilsl_inv;split at hE
    ·rename_i hk0;subst hk0;refine⟨_,.nilsl,_,_,μ,w,aC (run0 none 0 0 ex (by omega) w rfl),.inl rfl,hE,by simpa using VR.nilsl,St.refl r⟩
    ·rename_i hk0;obtain⟨c1,c2,c3⟩:=hE;have c1:k*i.bytes≤1099511627776:=Nat.le_trans (Nat.mul_le_mul_left _ mO) c1;obtain⟨cap,hcap,hrun⟩:=run1 none 0 0 [] ex (by omega) (by simpa using c1) (by omega) (by rw[ex];simp[Builtin.firstCells]);have r':R P μ h w.drew:=r.eqv rfl;obtain⟨b',μ',hb',q1,q2,q4,q3⟩:=lI (w:=w.drew) r' hdv hflat (#[]++ds.toArray++Builtin.zeroCells zds.toArray (cap-(0+k))) e (0,0) (Builtin.zeroCells zds.toArray (cap-(0+k))).toList (by simp) (fun j _ hj=>by simp at hj) (fG P e i.bytes==1) (fun e=>lh (by simpa using e));refine⟨_,_,_,_,μ',_,aC hrun,.inl rfl,c3 b' q1 (fun e=>q4 (by simpa using e)),?_,St.trans ((St.refl r).eqv (vY w)) q3⟩;rw[Nat.zero_add];rw[Nat.zero_add]at hcap;refine .sl (o':=0) hb' (fun _=>rfl) hcap ?_ hp;simp[Builtin.zeroCells,← hdl,hnl,← hzv.len];rw[← Nat.add_mul];exact Nat.mul_le_mul_right _ (by omega)
   case sl bb o es len =>
    rw[hxa]at hx;obtain⟨L,o',cap,hL,ho,hc,hn,hpe,ex⟩:=hx.sl_inv;split at hE
    ·rename_i hk0;obtain⟨hes,hq⟩:=hE;subst hk0;subst hes;have hds0:ds=[]:=by
      have:ds.length=0:=by omega
      exact List.length_eq_zero_iff.1 this
     refine⟨_,.sl bb o z.length len,_,_,μ,w,aC (run0 (some ⟨L.B,L.s+o',none⟩) len cap ex (by omega) w (by subst hds0;simp[storeCells])),.inl rfl,hq,?_,St.refl r⟩;rw[Nat.add_zero,← ex];exact hx
    ·rename_i hk0;cases hbb:h bb with
     |none=>simp[hbb]at hE
     |some ob =>
       cases ob<;>simp only[hbb]at hE<;>(try exact hE.elim);rename_i cs ro;cases ro
       case true=>exact hE.elim
       case false =>
        simp only at hE;obtain⟨hes,c1,c2,c3,c4⟩:=hE;have c2:(len+k)*i.bytes≤1099511627776:=Nat.le_trans (Nat.mul_le_mul_left _ mO) c2;subst hes;obtain⟨L',X,eL,hxx,hO⟩:=r.at_ bb _ hbb;rw[hL]at eL;cases eL;obtain⟨c,el,fr,rfl,q1,q2,q3,q4⟩:=hO;obtain⟨olds,ol,ov,oc⟩:=r.some_cells hbb hL o (len*z.length) c1
        by_cases hroom:len+k≤cap
        ·
         have hsp:L.s+o'+len*z.length+ds.length≤L.n:=by
          have:(len+k)*z.length≤cap*z.length:=Nat.mul_le_mul_right _ hroom;rw[Nat.add_mul]at this;omega
         obtain⟨w',c',g1,g2,g3,g4⟩:=lQ (P:=P) L.B (L.s+o'+len*z.length) el fr ds 0 w c hxx (by omega) (fun j hj1 hj2=>q4 rfl j (by omega) (by omega)) hflat;have hrun:=run0 (some ⟨L.B,L.s+o',none⟩) len cap ex hroom w' (by show(storeCells (Addr.add ⟨L.B,L.s+o',none⟩ (len*z.length)) ds.toArray.toList).run P w=_;rw[add_lit];exact g1);have hOnew:∀b',μ b'=none→OR P (fun i=>if i=b' then some ⟨L.B,L.s+o',L.n⟩else μ i) ⟨L.B,L.s+o',L.n⟩ (.cells ((cs.drop o).take (len*z.length)++new) false) (.cells c' el fr):=by
          intro b' hb';have hml:((cs.drop o).take (len*z.length)).length=len*z.length:=by simp;omega
          refine⟨c',el,fr,rfl,g3.trans q1,by simp only[List.length_append,hml];omega,fun ii v hii=>?_,fun _ j hj1 hj2=>q4 rfl j (by simp only at hj1;omega) hj2⟩;simp only;rw[← Array.getElem?_toList,g4];have hle:μ.le (fun i=>if i=b' then some ⟨L.B,L.s+o',L.n⟩else μ i):=fun c K e=>by
           have:c≠b':=fun e'=>by subst e';rw[hb']at e;cases e
           simp[this,e]
          have hcl:c.toList.length=L.n:=by simpa using q1
          have hm:(c.toList.take (L.s+o'+len*z.length+0)).length=L.s+o'+len*z.length:=by rw[List.length_take];omega
          rcases Nat.lt_or_ge ii (len*z.length)with hi1|hi1
          ·rw[List.getElem?_append_left (by omega)]at hii;rw[List.append_assoc,List.getElem?_append_left (by omega),List.getElem?_take_of_lt (by omega)];have hl0:0<len:=by
            rcases Nat.eq_zero_or_pos len with e|e
            ·subst e;simp at hi1
            ·exact e
           rw[List.getElem?_take_of_lt hi1,List.getElem?_drop]at hii;obtain⟨d',hd1,hd2,hd3⟩:=q3 (o+ii) v hii;refine⟨d',?_,hd2.mono hle,hd3⟩;rw[Array.getElem?_toList,← hd1,ho hl0];congr 1;omega
          ·rw[List.getElem?_append_right (by omega),hml]at hii;obtain⟨d',hd1,hd2⟩:=hdv.get hii;have hlt:ii-len*z.length<ds.length:=(List.getElem?_eq_some_iff.1 hd1).1;refine⟨d',?_,hd2.mono hle,hflat d' (List.mem_of_getElem? hd1)⟩;rw[List.getElem?_append_left (by rw[List.length_append,hm];omega),List.getElem?_append_right (by rw[hm];omega),hm,← hd1];congr 1;omega
         obtain⟨b',p1,p2,p4,p3⟩:=St.reborn (P:=P) r hbb rfl hL g2 hOnew (fun y hy=>by rw[hxx]at hy;cases hy;exact Kp.same g3);refine⟨_,_,_,_,_,w',aC hrun,.inl rfl,c4 b' p1 p2 (fun _=>p4),.sl (L:=⟨L.B,L.s+o',L.n⟩) (o':=0) (by simp) (fun _=>rfl) hroom (by simpa using hn) hpe,p3⟩
        ·
         have hold:(Builtin.firstCells z.length len (ρ' x)).run P w.drew=.ok olds.toArray w.drew:=by
          rw[ex];simp only[Builtin.firstCells];rcases Nat.eq_zero_or_pos len with h0|h0
          ·subst h0;have:olds=[]:=by simpa using ol
           subst this;simp[loadCells,loadCellsFrom]
          ·rw[ho h0,← ol];exact pF (w:=w.drew) fun j d hj=>(oc j d hj).1
         obtain⟨cap',hcap',hrun⟩:=run1 _ len cap olds ex (by omega) c2 c3 hold;have rd:R P μ (hset h bb none) w.drew:=(r.sub (fun c oc hc=>by
          by_cases e:c=bb
          ·subst e;simp[hset]at hc
          ·simpa[hset,e]using hc)).eqv rfl
         have hsub:St P μ h w μ (hset h bb none) w.drew:=((St.refl r).sub (fun c oc hc=>by
          by_cases e:c=bb
          ·subst e;simp[hset]at hc
          ·simpa[hset,e]using hc)).eqv (vY w)
         have hodl:=ov.len;have hboth:∀d∈olds++ds,d.oneCell'=true:=fun d hd=>by
          rcases List.mem_append.1 hd with hd|hd
          ·obtain⟨j,hj⟩:=List.mem_iff_getElem?.1 hd;exact(oc j d hj).2
          ·exact hflat d hd
         obtain⟨b',μ',hb',p1,p2,p4,p3⟩:=lI (w:=w.drew) rd (ov.append hdv) hboth (olds.toArray++ds.toArray++Builtin.zeroCells zds.toArray (cap'-(len+k))) e (0,0) (Builtin.zeroCells zds.toArray (cap'-(len+k))).toList (by simp) (fun j _ hj=>by simp at hj) (fG P e i.bytes==1) (fun e=>lh (by simpa using e));have hbne:b'≠bb:=fun e=>by subst e;rw[hL]at p2;cases p2
         have hhb':h b'=none:=by simpa[hset,hbne]using p1
         refine⟨_,_,_,_,μ',_,aC hrun,.inl rfl,c4 b' hbne hhb' (fun e _=>p4 (by simpa using e)),.sl (o':=0) hb' (fun _=>rfl) hcap' ?_ hp,St.trans hsub p3⟩;simp[Builtin.zeroCells,← hdl,hnl,← hzv.len,ol];rw[← Nat.add_mul,← Nat.add_mul];exact Nat.mul_le_mul_right _ (by omega)
end
section
open Go
variable{P:Program}{μ:Mu}{h:H}{w:World}{n:Nat}{ρ:Opd→V}{ρ':Operand→Value}{v:V}
theorem EO{t:TypeId}{e:TypeId}{s:Nat}{x y:Operand}{a b:Opd}{ts:Array TypeId}{args:Array Value}{type:TypeId}(hρ:Rho P n μ ρ ρ')(r:R P μ h w)
  (h1:aH P n x=some a) (h2:aH P n y=some b) (hu:P.underlying t=some (.slice e)) (hs:fZ P e=some s) (hp:0<s)
  (t0:ts[0]?=some t) (a0:args[0]?=some (ρ' x)) (a1:args[1]?=some (ρ' y)) {Q:V→H→Prop} {call:CP}
  (hE:HK.E call ρ h Q (.copy s a b)):Done P μ h w (do pure (.value (← Builtin.copy_ ts type args))) Q:=by
 have hx:=aY hρ h1;have hy:=aY hρ h2;simp only[HK.E]at hE;cases hsrc:dI s h (ρ b)with
 |none=>simp[hsrc]at hE
 |some pr =>
   obtain⟨k,new⟩:=pr;simp only[hsrc]at hE;obtain⟨hlen,hnl,ds,hdv,hflat,hfc⟩:=zJ (w:=w) r hy hsrc;have hdl:=hdv.len;have gen:∀(base:Option Addr) (dLen dCap:Nat) (w':World),ρ' x=.slice base dLen dCap→(match base with|some a=>storeCells a (ds.take (min k dLen*s))|none=>pure ():Sem Unit).run P w=.ok () w' →
     (Builtin.copy_ ts type args).run P w=.ok (.int .i64 (min k dLen:Nat)) w':=by
    intro base dLen dCap w' ex hst;have hf:=hfc (min k dLen) (Nat.min_le_left _ _) w rfl;simp only[Builtin.copy_,t0,a0,a1,Sem.run_bind,au hu,Result.andThen_ok,ex,hlen,run_sizeOf hs];rw[show Nat.min k dLen=min k dLen from rfl];simp only[hf,Result.andThen_ok];cases base with
    |none=>simp only[Sem.run_pure]at hst;cases hst;rfl
    |some a=>simp only[Sem.run_bind,hst];rfl
   cases hxa:ρ a<;>simp only[hxa]at hE<;>(try exact hE.elim)
   case nilsl =>
    rw[hxa]at hx;have ex:=hx.nilsl_inv;refine⟨_,.int .i64 0,_,_,μ,w,aC (gen none 0 0 w ex rfl),.inl rfl,hE,?_,St.refl r⟩;rw[Nat.min_zero];exact .int _ _
   case sl bb o es len =>
    rw[hxa]at hx;obtain⟨L,o',cap,hL,ho,hc,hn,hpe,ex⟩:=hx.sl_inv;cases hbb:h bb with
    |none=>simp[hbb]at hE
    |some ob =>
      cases ob<;>simp only[hbb]at hE<;>(try exact hE.elim);rename_i cs ro;cases ro
      case true=>exact hE.elim
      case false =>
       simp only at hE;obtain⟨hes,c1,c2⟩:=hE;subst hes;obtain⟨L',X,eL,hxx,hO⟩:=r.at_ bb _ hbb;rw[hL]at eL;cases eL;have hO':=hO;obtain⟨c,el,fr,rfl,q1,q2,q3,q4⟩:=hO;have hmk:min k len*s≤k*s:=Nat.mul_le_mul_right _ (Nat.min_le_left _ _);have hml:min k len*s≤len*s:=Nat.mul_le_mul_right _ (Nat.min_le_right _ _);have htl:(new.take (min k len*s)).length=min k len*s:=by rw[List.length_take];omega
       have htd:(ds.take (min k len*s)).length=min k len*s:=by rw[List.length_take];omega
       have hone:∀u∈ds.take (min k len*s),u.oneCell'=true:=fun u hu=>hflat u (List.mem_of_mem_take hu);rcases Nat.eq_zero_or_pos len with h0|h0
       ·subst h0;have hz:ds.take (min k 0*s)=[]:=by simp
        refine⟨_,.int .i64 (min k 0:Nat),_,_,μ,w,aC (gen _ 0 cap w ex (by simp only[hz];rfl)),.inl rfl,c2,.int _ _,?_⟩;have:=uh (P:=P) (μ:=μ) (c':=c) hO' (hdv.take (min k 0*s)) hone (o:=o) (by rw[htl];omega) rfl (by rw[hz];simp);rw[htl]at this;exact St.put r hbb rfl hL rfl hxx (fun _ _=>rfl) ⟨rfl,rfl,rfl⟩ this (fun y hy=>by rw[hxx]at hy;cases hy;exact⟨id,id⟩)
       ·have eo:=ho h0;subst eo;obtain⟨w',c',g1,g2,g3,g4⟩:=lQ (P:=P) L.B (L.s+o') el fr (ds.take (min k len*s)) 0 w c hxx (by rw[htd];omega) (fun j hj1 hj2=>q4 rfl j (by omega) (by rw[htd]at hj2;omega)) hone;simp only[Nat.add_zero]at g4;refine⟨_,.int .i64 (min k len:Nat),_,_,μ,w',aC (gen _ len cap w' ex g1),.inl rfl,c2,.int _ _,?_⟩;have:=uh hO' (hdv.take (min k len*s)) hone (o:=o') (by rw[htl];omega) g3 g4;rw[htl]at this;exact St.put r hbb rfl hL g2.size g2.here g2.else_ g2.rest this (fun y hy=>by rw[hxx]at hy;cases hy;exact Kp.same g3)
theorem All2.set{α β:Type}{R:α→β→Prop}{as:List α}{bs:List β}(h:All2 R as bs)(j:Nat){a:α}{b:β}(hr:R a b):All2 R (as.set j a) (bs.set j b):=by
 induction h generalizing j with
 |nil=>simp;exact .nil
 | cons h1 h2 ih=>cases j with
   |zero=>simp;exact .cons hr h2
   |succ j=>simp;exact .cons h1 (ih j)
theorem All2.eraseIdx{α β:Type}{R:α→β→Prop}{as:List α}{bs:List β}(h:All2 R as bs)(j:Nat):All2 R (as.eraseIdx j) (bs.eraseIdx j):=by
 induction h generalizing j with
 |nil=>simp;exact .nil
 | cons h1 h2 ih=>cases j with
   |zero=>simp;exact h2
   |succ j=>simp;exact .cons h1 (ih j)
theorem jW{es:Array MapEntry}{j:Nat}{f:MapEntry→MapEntry}{e:MapEntry}(he:es.toList[j]?=some e):(es.modify j f).toList=es.toList.set j (f e):=by
 apply List.ext_getElem?;intro i;rw[Array.getElem?_toList,Array.getElem?_modify,List.getElem?_set]
 by_cases hi:j=i
 ·subst hi;have hlt:j<es.toList.length:=(List.getElem?_eq_some_iff.1 he).1;have hlt':j<es.size:=by simpa using hlt
  rw[Array.getElem?_toList]at he;have:=Array.getElem?_eq_some_iff.1 he;simp[he,hlt'];rw[this.2]
 ·simp[hi]
theorem fU{r:Nat}{es:Array MapEntry}{clock:Nat}(hx:w.heap[r]?=some (.map es clock)):(getObj r).run P w=.ok (.map es clock) w:=by simp[getObj,Sem.run,hx]
theorem fV{r:Nat}{es es':Array MapEntry}{clock clock':Nat}(hx:w.heap[r]?=some (.map es clock)):(setObj r (.map es' clock')).run P w=.ok () {w with heap:=w.heap.setIfInBounds r (.map es' clock')}:=by
 simp[setObj,Sem.run,hx]
theorem ou{c:EqC}{x y:V}{dx dy:Value}(hc:c=.int∨c=.str∨c=.bool)(hx:VR μ x dx)(hy:VR μ y dy)(he:eQ c x y=some true)(m:Nat):Instr.sameBits m dy dx=true:=by
 rcases hc with rfl|rfl|rfl<;>cases hx<;>simp only[eQ]at he<;>(try cases he;done)<;>cases hy<;>simp only[eQ]at he<;>(try cases he;done)
 ·split at he
  ·rename_i e;subst e;have:=Option.some.inj he;simp at this;subst this;cases m<;>simp[Instr.sameBits]
  ·cases he
 ·have:=Option.some.inj he;simp at this;subst this;cases m<;>simp[Instr.sameBits,bytes_beq]
 ·have:=Option.some.inj he;simp at this;subst this;cases m<;>simp[Instr.sameBits]
theorem vX{t:TypeId}{c:EqC}(h:vW P t=some c):c=.int∨c=.str∨c=.bool:=by
 unfold vW at h;split at h<;>cases h<;>simp
theorem uq:∀(fs:List Field) (i:Nat) (cs:List EqC),pU P fs i=some cs→∀c∈cs,c=.int∨c=.str∨c=.bool
 |[],i,cs,h=>by simp only[pU]at h;cases h;simp
 |f::fs,i,cs,h=>by
   simp only[pU]at h;split at h
   ·split at h
    ·rename_i c cs' h1 h2;cases h;intro x hx;rcases List.mem_cons.1 hx with rfl|hx
     ·exact vX h1
     ·exact uq fs (i+1) cs' h2 x hx
    ·cases h
   ·cases h
theorem wo:∀{cs:List EqC} {xs ys:List V} {dx dy:List Value},(∀c∈cs,c=.int∨c=.str∨c=.bool)→VRs μ xs dx→VRs μ ys dy→fF cs xs ys=some true→dx.length=dy.length∧∀p∈dy.zip dx,∀m,Instr.sameBits m p.1 p.2=true
 |[],[],[],_,_,_,hx,hy,_=>by cases hx;cases hy;simp
 |c::cs,x::xs,y::ys,_,_,hb,.cons hx hxs,.cons hy hys,he=>by
   simp only[fF]at he;split at he
   ·rename_i h1;obtain⟨h2,h3⟩:=wo (fun c' hc'=>hb c' (by simp[hc'])) hxs hys he;refine⟨by simp[h2],fun p hp m=>?_⟩;rw[List.zip_cons_cons]at hp;rcases List.mem_cons.1 hp with rfl|hp
    ·exact ou (hb c (by simp)) hx hy h1 m
    ·exact h3 p hp m
   ·cases he
   ·cases he
 |[],[],_::_,_,_,_,_,_,he=>by simp[fF]at he
 |[],_::_,_,_,_,_,_,_,he=>by simp[fF]at he
 |_::_,[],_,_,_,_,_,_,he=>by simp[fF]at he
 |_::_,_::_,[],_,_,_,_,_,he=>by simp[fF]at he
theorem nP{t:TypeId}{kc:KC}(hk:keyOf P t=some kc){x y:V}{dx dy:Value}(hx:VR μ x dx)(hy:VR μ y dy)(he:bH kc x y=some true)(w:World):(Instr.keyThatStays dy dx).run P w=.ok dx w:=by
 have hs:Instr.sameBits 10000 dy dx=true:=by
  rcases iZ hk with⟨c,rfl,hc⟩|⟨cs,rfl,hc⟩
  ·simp only[bH]at he;exact ou (vX hc) hx hy he _
  ·cases x<;>(try (simp[bH]at he;done));cases y<;>(try (simp[bH]at he;done));simp only[bH]at he;obtain⟨ds,rfl,h1⟩:=hx.agg_inv;obtain⟨es,rfl,h2⟩:=hy.agg_inv;unfold fC at hc;split at hc
   ·split at hc
    ·obtain⟨g1,g2⟩:=wo (uq _ _ _ hc) h1 h2 he
     show Instr.sameBits (9999+1) _ _=true
     rw[Instr.sameBits];rw[Bool.and_eq_true];refine⟨by simp[g1],List.all_eq_true.2 fun p hp=>g2 p (by simpa using hp) _⟩
    ·cases hc
   ·cases hc
 simp[Instr.keyThatStays,hs]
end

end Mir
