import Derived.Laws.Externs
import Derived.RangeFuncIn
import Derived.Test.YtkfbldogmgofoaaGreatDoorK5
set_option linter.unusedSimpArgs false
set_option linter.unusedVariables false
namespace Mir
section
open Go
variable{P:Program}{μ:Mu}{h:H}{w:World}{n:Nat}{ρ:Opd→V}{ρ':Operand→Value}{v:V}
theorem BF{s:Sem Unit}{w':World}(hs:s.run P w=.ok () w'):(do s;pure Next.skip:Sem Next).run P w=.ok .skip w':=by simp[hs]
theorem rV{t kt et:TypeId}{kc:KC}{m x y:Operand}{m' k' v':Opd}(hρ:Rho P n μ ρ ρ')(r:R P μ h w)(h1:aH P n m=some m')(h2:aH P n x=some k')(h3:aH P n y=some v')
  (hu:P.underlying t=some (.map kt et)) (hk:keyOf P kt=some kc) {Q:V→H→Prop} {call:CP} (hE:HK.E call ρ h Q (.mapUpd kc m' k' v')):
  Done P μ h w (do Instr.mapUpdate t (ρ' m) (ρ' x) (ρ' y);pure .skip) Q:=by
 have hm:=aY hρ h1;have hx:=aY hρ h2;have hy:=aY hρ h3;simp only[HK.E]at hE;cases ha:ρ m'<;>simp only[ha]at hE<;>(try exact hE.elim);rename_i b;rw[ha]at hm;obtain⟨L,hL,e⟩:=hm.map_inv;cases hb:h b with
 |none=>simp[hb]at hE
 |some ob =>
   cases ob<;>simp only[hb]at hE<;>(try exact hE.elim);rename_i es clock;obtain⟨hkk,hE⟩:=hE;obtain⟨L',X,eL,hX,ents,rfl,hents⟩:=r.at_ b _ hb;rw[hL]at eL;cases eL;have hlt:L.B<w.heap.size:=(Array.getElem?_eq_some_iff.1 hX).1;have hck:=gV hk hx hkk false w;have hg:=fU (P:=P) hX;split at hE
   ·rename_i v0 m0 hf;obtain⟨j,e',k0,q1,q2,q3,q4,q5,q6,q7⟩:=jq hk hx hents hf w;have hst:=nP hk hx q3.1 q4 w;refine⟨.skip,.undef,undef,_,μ,_,BF (w':={w with heap:=w.heap.setIfInBounds L.B (.map (ents.modify j fun e=>{e with key:=ρ' x,val:=ρ' y}) clock)}) ?_,.inr ⟨rfl,rfl⟩,hE,.undef _,?_⟩
    ·rw[e];have q1':ents[j]?=some e':=by rw[← Array.getElem?_toList];exact q1
     simp only[Instr.mapUpdate,Sem.run_bind,au hu,Result.andThen_ok,hg,hck,q7,q1',Option.map_some,Option.getD_some,hst];exact fV hX
    ·have hat:=dG (o:=.map ents clock) hlt (.map (ents.modify j fun e=>{e with key:=ρ' x,val:=ρ' y}) clock);refine St.put r hb rfl hL hat.size hat.here hat.else_ hat.rest ⟨_,rfl,?_⟩ (fun _ _=>Kp.no fun _ _ _ e=>by cases e);rw[jW q1,q5];exact hents.set j ⟨hx,hy,q3.2.2⟩
   ·rename_i hf;have q7:=gZ hk hx hents hf w;refine⟨.skip,.undef,undef,_,μ,_,BF (w':={w with heap:=w.heap.setIfInBounds L.B (.map (ents.push {key:=ρ' x,val:=ρ' y,born:=clock}) (clock+1))}) ?_,.inr ⟨rfl,rfl⟩,hE,.undef _,?_⟩
    ·rw[e];simp only[Instr.mapUpdate,Sem.run_bind,au hu,Result.andThen_ok,hg,hck,q7];exact fV hX
    ·have hat:=dG (o:=.map ents clock) hlt (.map (ents.push {key:=ρ' x,val:=ρ' y,born:=clock}) (clock+1));refine St.put r hb rfl hL hat.size hat.here hat.else_ hat.rest ⟨_,rfl,?_⟩ (fun _ _=>Kp.no fun _ _ _ e=>by cases e);rw[Array.toList_push];exact hents.append (.cons ⟨hx,hy,rfl⟩ .nil)
   ·exact hE.elim
theorem wY{t kt et:TypeId}{kc:KC}{z:V}{m x:Operand}{m' k':Opd}(hρ:Rho P n μ ρ ρ')(r:R P μ h w)(h1:aH P n m=some m')(h2:aH P n x=some k')
  (hu:P.underlying t=some (.map kt et)) (hk:keyOf P kt=some kc) (hz:zN P et=some z) {Q:V→H→Prop} {call:CP} (hE:HK.E call ρ h Q (.mapEntry kc z m' k')):
  Done P μ h w (do pure (.value (← Instr.mapEntry t (ρ' m) (ρ' x)))) Q:=by
 have hm:=aY hρ h1;have hx:=aY hρ h2;obtain⟨zd,hzv,hzr⟩:=oJ (μ:=μ) hz;simp only[HK.E]at hE;cases ha:ρ m'<;>simp only[ha]at hE<;>(try exact hE.elim);rename_i b;rw[ha]at hm;obtain⟨L,hL,e⟩:=hm.map_inv;cases hb:h b with
 |none=>simp[hb]at hE
 |some ob =>
   cases ob<;>simp only[hb]at hE<;>(try exact hE.elim);rename_i es clock;obtain⟨hkk,hE⟩:=hE;obtain⟨L',X,eL,hX,ents,rfl,hents⟩:=r.at_ b _ hb;rw[hL]at eL;cases eL;have hlt:L.B<w.heap.size:=(Array.getElem?_eq_some_iff.1 hX).1;have hck:=gV hk hx hkk false w;have hg:=fU (P:=P) hX;split at hE
   ·rename_i v0 m0 hf;obtain⟨j,e',k0,q1,q2,q3,q4,q5,q6,q7⟩:=jq hk hx hents hf w;have hst:=nP hk hx q3.1 q4 w;have q1':ents[j]?=some e':=by rw[← Array.getElem?_toList];exact q1
    refine⟨_,_,.tuple #[e'.val,goInt e'.born],_,μ,{w with heap:=w.heap.setIfInBounds L.B (.map (ents.modify j fun e=>{e with key:=ρ' x}) clock)},aC ?_,.inl rfl,hE,?_,?_⟩
    ·rw[e];simp only[Instr.mapEntry,Sem.run_bind,au hu,Result.andThen_ok,hg,hck,q7,q1',Option.map_some,Option.getD_some,hst,fV (P:=P) (es':=ents.modify j fun e=>{e with key:=ρ' x}) (clock':=clock) hX];rfl
    ·rw[show m0=e'.born from q3.2.2];exact VR.mkTup (.cons q3.2.1 (.cons (.int _ _) .nil))
    ·have hat:=dG (o:=.map ents clock) hlt (.map (ents.modify j fun e=>{e with key:=ρ' x}) clock);refine St.put r hb rfl hL hat.size hat.here hat.else_ hat.rest ⟨_,rfl,?_⟩ (fun _ _=>Kp.no fun _ _ _ e=>by cases e);rw[jW q1,q5];exact hents.set j ⟨hx,q3.2.1,q3.2.2⟩
   ·rename_i hf;have q7:=gZ hk hx hents hf w;refine⟨_,_,.tuple #[zd,goInt clock],_,μ,{w with heap:=w.heap.setIfInBounds L.B (.map (ents.push {key:=ρ' x,val:=zd,born:=clock}) (clock+1))},aC ?_,.inl rfl,hE,VR.mkTup (.cons hzv (.cons (.int _ _) .nil)),?_⟩
    ·rw[e];simp only[Instr.mapEntry,Sem.run_bind,au hu,Result.andThen_ok,hg,hck,q7,hzr,fV (P:=P) (es':=ents.push {key:=ρ' x,val:=zd,born:=clock}) (clock':=clock+1) hX];rfl
    ·have hat:=dG (o:=.map ents clock) hlt (.map (ents.push {key:=ρ' x,val:=zd,born:=clock}) (clock+1));refine St.put r hb rfl hL hat.size hat.here hat.else_ hat.rest ⟨_,rfl,?_⟩ (fun _ _=>Kp.no fun _ _ _ e=>by cases e);rw[Array.toList_push];exact hents.append (.cons ⟨hx,hzv,rfl⟩ .nil)
   ·exact hE.elim
theorem rC{m:Nat}:∀{es:Ents} {ents:List MapEntry},All2 (sO μ) es ents→(bV m es).isSome=true →
  ∃j e k0 x0,ents[j]?=some e∧es[j]?=some (k0,x0,m)∧sO μ (k0,x0,m) e∧ents.findIdx? (fun e=>(e.born:Int)==(m:Int))=some j∧∀y,iQ m y es=es.set j (k0,y,m)
 |_,_,.nil,hf=>by simp[bV]at hf
 |_,_,.cons (a:=a) (b:=b) h1 h2,hf=>by
   obtain⟨k0,x0,m0⟩:=a;simp only[bV]at hf
   by_cases hm:m0=m
   ·subst hm;refine⟨0,b,k0,x0,by simp,by simp,h1,?_,fun y=>by simp[iQ]⟩;rw[List.findIdx?_cons];simp[show b.born=m0 from h1.2.2.symm]
   ·simp only[hm,if_false]at hf;obtain⟨j,e,k1,x1,p1,p2,p3,p4,p5⟩:=rC h2 hf;refine⟨j+1,e,k1,x1,by simpa using p1,by simpa using p2,p3,?_,fun y=>by simp[iQ,hm,p5]⟩;rw[List.findIdx?_cons];have:((b.born:Int)==(m:Int))=false:=by
     have e1:m0=b.born:=h1.2.2;simp;omega
    simp[this,p4]
theorem sU{t:TypeId}{m s y:Operand}{m' s' v':Opd}(hρ:Rho P n μ ρ ρ')(r:R P μ h w)(h1:aH P n m=some m')(h2:aH P n s=some s')(h3:aH P n y=some v')
  {Q:V→H→Prop} {call:CP} (hE:HK.E call ρ h Q (.entryStore m' s' v')):Done P μ h w (do Instr.entryStore t (ρ' m) (ρ' s) (ρ' y);pure .skip) Q:=by
 have hm:=aY hρ h1;have hs:=aY hρ h2;have hy:=aY hρ h3;simp only[HK.E]at hE;cases ha:ρ m'<;>simp only[ha]at hE<;>(try exact hE.elim);rename_i b;rw[ha]at hm;cases hsv:ρ s'<;>simp only[hsv]at hE<;>(try exact hE.elim);rename_i kk nn;cases kk<;>simp only at hE<;>(try exact hE.elim);rw[hsv]at hs;obtain⟨L,hL,e⟩:=hm.map_inv;cases hb:h b with
 |none=>simp[hb]at hE
 |some ob =>
   cases ob<;>simp only[hb]at hE<;>(try exact hE.elim);rename_i es clock;obtain⟨hn0,hfs,hE⟩:=hE;obtain⟨L',X,eL,hX,ents,rfl,hents⟩:=r.at_ b _ hb;rw[hL]at eL;cases eL;have hlt:L.B<w.heap.size:=(Array.getElem?_eq_some_iff.1 hX).1;have hg:=fU (P:=P) hX;obtain⟨j,e',k0,x0,p1,p2,p3,p4,p5⟩:=rC hents hfs;have p4':ents.findIdx? (fun e=>(e.born:Int)==nn)=some j:=by
    rw[show ents=ents.toList.toArray from by simp,List.findIdx?_toArray];have:((nn.toNat:Nat):Int)=nn:=by omega
    rw[this]at p4;exact p4
   refine⟨.skip,.undef,undef,_,μ,_,BF (w':={w with heap:=w.heap.setIfInBounds L.B (.map (ents.modify j fun e=>{e with val:=ρ' y}) clock)}) ?_,.inr ⟨rfl,rfl⟩,hE,.undef _,?_⟩
   ·rw[e,hs.int_inv];simp only[Instr.entryStore,Sem.run_bind,Result.andThen_ok,hg,asInt,asIntOf,Sem.run_pure,p4'];exact fV hX
   ·have hat:=dG (o:=.map ents clock) hlt (.map (ents.modify j fun e=>{e with val:=ρ' y}) clock);refine St.put r hb rfl hL hat.size hat.here hat.else_ hat.rest ⟨_,rfl,?_⟩ (fun _ _=>Kp.no fun _ _ _ e=>by cases e);rw[jW p1,p5];exact hents.set j ⟨p3.1,hy,p3.2.2⟩
theorem Ap{t kt et:TypeId}{kc:KC}{x y:Operand}{m' k':Opd}{ts:Array TypeId}{args:Array Value}{type:TypeId}(hρ:Rho P n μ ρ ρ')(r:R P μ h w)(h1:aH P n x=some m')(h2:aH P n y=some k')
  (hu:P.underlying t=some (.map kt et)) (hk:keyOf P kt=some kc) (t0:ts[0]?=some t) (a0:args[0]?=some (ρ' x)) (a1:args[1]?=some (ρ' y)) {Q:V→H→Prop} {call:CP} (hE:HK.E call ρ h Q (.delete kc m' k')):
  Done P μ h w (do pure (.value (← Builtin.delete_ ts type args))) Q:=by
 have hm:=aY hρ h1;have hx:=aY hρ h2;simp only[HK.E]at hE;cases ha:ρ m'<;>simp only[ha]at hE<;>(try exact hE.elim);rename_i b;rw[ha]at hm;obtain⟨L,hL,e⟩:=hm.map_inv;cases hb:h b with
 |none=>simp[hb]at hE
 |some ob =>
   cases ob<;>simp only[hb]at hE<;>(try exact hE.elim);rename_i es clock;obtain⟨hkk,hE⟩:=hE;obtain⟨L',X,eL,hX,ents,rfl,hents⟩:=r.at_ b _ hb;rw[hL]at eL;cases eL;have hlt:L.B<w.heap.size:=(Array.getElem?_eq_some_iff.1 hX).1;have hck:=fun em=>gV hk hx hkk em w;have hg:=fU (P:=P) hX;split at hE
   ·rename_i ov hf;cases ov with
    |some p =>
      obtain⟨v0,m0⟩:=p;obtain⟨j,e',k0,q1,q2,q3,q4,q5,q6,q7⟩:=jq hk hx hents hf w;refine⟨_,_,.tuple #[],_,μ,{w with heap:=w.heap.setIfInBounds L.B (.map (ents.eraseIdxIfInBounds j) clock)},aC ?_,.inl rfl,hE,.undef _,?_⟩
      ·simp only[Builtin.delete_,t0,a0,a1,e,Sem.run_bind,au hu,Result.andThen_ok,hg,hck,q7,fV (P:=P) (es':=ents.eraseIdxIfInBounds j) (clock':=clock) hX];rfl
      ·have hat:=dG (o:=.map ents clock) hlt (.map (ents.eraseIdxIfInBounds j) clock);refine St.put r hb rfl hL hat.size hat.here hat.else_ hat.rest ⟨_,rfl,?_⟩ (fun _ _=>Kp.no fun _ _ _ e=>by cases e);rw[q6,Array.toList_eraseIdxIfInBounds];exact hents.eraseIdx j
    |none =>
      have q7:=gZ hk hx hents hf w;refine⟨_,_,.tuple #[],_,μ,{w with heap:=w.heap.setIfInBounds L.B (.map ents clock)},aC ?_,.inl rfl,hE,.undef _,?_⟩
      ·simp only[Builtin.delete_,t0,a0,a1,e,Sem.run_bind,au hu,Result.andThen_ok,hg,hck,q7,fV (P:=P) (es':=ents) (clock':=clock) hX];rfl
      ·have hat:=dG (o:=.map ents clock) hlt (.map ents clock);refine St.put r hb rfl hL hat.size hat.here hat.else_ hat.rest ⟨_,rfl,?_⟩ (fun _ _=>Kp.no fun _ _ _ e=>by cases e);rw[(qw hf).2];exact hents
   ·exact hE.elim
theorem St.newIter(r:R P μ h w)(x:Obj)(o:AObj)(ho:∀μ':Mu,μ.le μ'→OR P μ' ⟨w.heap.size,0,0⟩ o x):
  ∃b μ',μ' b=some ⟨w.heap.size,0,0⟩∧h b=none∧St P μ h w μ' (hadd h b o) (w.alloc x):=by
 obtain⟨b,h1,h2,_,h3⟩:=St.new (P:=P) r x o 0 fun b hb=>ho _ fun c K e=>by
  have:c≠b:=fun e'=>by subst e';rw[hb]at e;cases e
  simp[this,e]
 exact⟨b,_,by simp,h2,h3⟩
theorem Ee{t kt et:TypeId}{x:Operand}{a:Opd}(hρ:Rho P n μ ρ ρ')(r:R P μ h w)(h1:aH P n x=some a)(hu:P.underlying t=some (.map kt et)){Q:V→H→Prop}{call:CP}
  (hE:HK.E call ρ h Q (.range a)):Done P μ h w (do pure (.value (← Instr.range t (ρ' x)))) Q:=by
 have hx:=aY hρ h1;simp only[HK.E]at hE;cases ha:ρ a<;>simp only[ha]at hE<;>(try exact hE.elim)
 ·rename_i b;rw[ha]at hx;obtain⟨L,hL,e⟩:=hx.map_inv;cases hb:h b with
  |none=>simp[hb]at hE
  |some ob =>
    cases ob<;>simp only[hb]at hE<;>(try exact hE.elim);rename_i es clock;obtain⟨L',X,eL,hX,ents,rfl,hents⟩:=r.at_ b _ hb;rw[hL]at eL;cases eL;have hg:=fU (P:=P) hX;obtain⟨b',μ',q1,q2,q3⟩:=St.newIter r (.mapIter (some L.B) clock #[] clock) (.iter (some b) clock [] clock) fun μ' hle=>⟨rfl,_,rfl,L,hle _ _ hL,rfl⟩;refine⟨_,_,_,_,μ',_,aC ?_,.inl rfl,hE b' q2,.ptr q1,q3⟩;rw[e];simp[Instr.range,au hu,hg]
 ·rw[ha]at hx;have e:ρ' x=.map none:=by generalize ρ' x=q at hx;cases hx;rfl
  obtain⟨b',μ',q1,q2,q3⟩:=St.newIter r (.mapIter none 0 #[] 0) (.iter none 0 [] 0) fun μ' hle=>⟨rfl,_,rfl,rfl⟩;refine⟨_,_,_,_,μ',_,aC ?_,.inl rfl,hE b' q2,.ptr q1,q3⟩;rw[e];simp[Instr.range,au hu]
theorem xJ{t:TypeId}{x:Operand}{a:Opd}(hρ:Rho P n μ ρ ρ')(r:R P μ h w)(h1:aH P n x=some a)(hu:P.underlying t=some .string){Q:V→H→Prop}{call:CP}
  (hE:HK.E call ρ h Q (.rangeStr a)):Done P μ h w (do pure (.value (← Instr.range t (ρ' x)))) Q:=by
 have hx:=aY hρ h1;simp only[HK.E]at hE;cases ha:ρ a<;>simp only[ha]at hE<;>(try exact hE.elim);rename_i s;rw[ha]at hx;obtain⟨b',μ',q1,q2,q3⟩:=St.newIter r (.stringIter ⟨s.toArray⟩ 0) (.sit s 0) fun μ' hle=>⟨rfl,rfl⟩;refine⟨_,_,_,_,μ',_,aC ?_,.inl rfl,hE b' q2,.ptr q1,q3⟩;rw[hx.str_inv];simp[Instr.range,au hu]
theorem yD{x:Operand}{a:Opd}{ty:TypeId}(hρ:Rho P n μ ρ ρ')(r:R P μ h w)(h1:aH P n x=some a){Q:V→H→Prop}{call:CP}
  (hE:HK.E call ρ h Q (.nextStr a)):Done P μ h w (do pure (.value (← Instr.next (ρ' x) true ty))) Q:=by
 have hx:=aY hρ h1;simp only[HK.E]at hE;cases ha:ρ a<;>simp only[ha]at hE<;>(try exact hE.elim);rename_i i o;cases o with
 |succ o=>simp at hE
 |zero =>
   simp only at hE;rw[ha]at hx;obtain⟨L,hL,e⟩:=hx.ptr_inv;cases hi:h i with
   |none=>simp[hi]at hE
   |some oi =>
     cases oi<;>simp only[hi]at hE<;>(try exact hE.elim);rename_i s pos;obtain⟨L',X,eL,hX,h0,rfl⟩:=r.at_ i _ hi;rw[hL]at eL;cases eL;have hlt:L.B<w.heap.size:=(Array.getElem?_eq_some_iff.1 hX).1;have hg:(getObj L.B).run P w=.ok (.stringIter ⟨s.toArray⟩ pos) w:=by simp[getObj,Sem.run,hX]
     split at hE
     ·rename_i hp;refine⟨_,_,.tuple #[.bool true,goInt pos,.int .i32 (Utf8.decode ⟨s.toArray⟩ pos).1],_,μ,{w with heap:=w.heap.setIfInBounds L.B (.stringIter ⟨s.toArray⟩ (pos+(Utf8.decode ⟨s.toArray⟩ pos).2))},aC ?_,.inl rfl,hE,VR.mkTup (.cons (.bool _) (.cons (.int _ _) (.cons (.int _ _) .nil))),?_⟩
      ·rw[e,h0];have hset:(setObj L.B (.stringIter ⟨s.toArray⟩ (pos+(Utf8.decode ⟨s.toArray⟩ pos).2))).run P w=.ok () {w with heap:=w.heap.setIfInBounds L.B (.stringIter ⟨s.toArray⟩ (pos+(Utf8.decode ⟨s.toArray⟩ pos).2))}:=by simp[setObj,Sem.run,hX]
       have hp':pos<(⟨s.toArray⟩:ByteArray).size:=by rw[dJ];exact hp
       simp only[Instr.next,Sem.run_bind,Nat.zero_add,hg,Result.andThen_ok,hp',if_true];rw[show(Utf8.decode ⟨s.toArray⟩ pos)=((Utf8.decode ⟨s.toArray⟩ pos).1,(Utf8.decode ⟨s.toArray⟩ pos).2)from rfl];simp only[Sem.run_bind,hset,Result.andThen_ok,Sem.run_pure]
      ·have hat:=dG (o:=.stringIter ⟨s.toArray⟩ pos) hlt (.stringIter ⟨s.toArray⟩ (pos+(Utf8.decode ⟨s.toArray⟩ pos).2));exact St.put r hi rfl hL hat.size hat.here hat.else_ hat.rest ⟨h0,rfl⟩ (fun _ _=>Kp.no fun _ _ _ e=>by cases e)
     ·rename_i hp;refine⟨_,_,.tuple #[.bool false],_,μ,w,aC ?_,.inl rfl,hE,VR.mkTup (.cons (.bool _) .nil),St.refl r⟩;rw[e,h0];have hp':¬pos<(⟨s.toArray⟩:ByteArray).size:=by rw[dJ];exact hp
      simp[Instr.next,hg,hp']
theorem All2.filter{α β:Type}{R:α→β→Prop}{as:List α}{bs:List β}(h:All2 R as bs){p:α→Bool}{q:β→Bool}(hpq:∀a b,R a b→p a=q b):All2 R (as.filter p) (bs.filter q):=by
 induction h with
 |nil=>exact .nil
 |cons h1 h2 ih =>
   simp only[List.filter_cons,hpq _ _ h1];split
   ·exact .cons h1 ih
   ·exact ih
def Ud(μ:Mu):Option (V × V × Nat)→Option MapEntry→Prop
 |none,none=>True
 |some e,some m=>sO μ e m
 |_,_=>False
theorem All2.somes{es:Ents}{ents:List MapEntry}(h:All2 (sO μ) es ents):All2 (Ud μ) (es.map some) (ents.map some):=by
 induction h with
 |nil=>exact .nil
 |cons h1 _ ih=>exact .cons h1 ih
theorem CJ{es:Ents}{ents:Array MapEntry}(hents:All2 (sO μ) es ents.toList)(since:Nat)(seen:List Nat):
  All2 (Ud μ) (candidates es since seen) ((if((ents.filter fun e=>!seen.toArray.contains e.born).filter (·.born<since)).isEmpty then #[none]else #[])++(((ents.filter fun e=>!seen.toArray.contains e.born).filter (·.born<since))++((ents.filter fun e=>!seen.toArray.contains e.born).filter (·.born≥since))).map some:Array (Option MapEntry)).toList:=by
 have hleft:All2 (sO μ) (es.filter fun e=>!seen.contains e.2.2) (ents.filter fun e=>!seen.toArray.contains e.born).toList:=by
  rw[Array.toList_filter];exact hents.filter fun a b hr=>by rw[hr.2.2];simp
 have hold:All2 (sO μ) ((es.filter fun e=>!seen.contains e.2.2).filter fun e=>decide (e.2.2<since)) ((ents.filter fun e=>!seen.toArray.contains e.born).filter (·.born<since)).toList:=by
  rw[Array.toList_filter];exact hleft.filter fun a b hr=>by rw[hr.2.2]
 have hnew:All2 (sO μ) ((es.filter fun e=>!seen.contains e.2.2).filter fun e=>!decide (e.2.2<since)) ((ents.filter fun e=>!seen.toArray.contains e.born).filter (·.born≥since)).toList:=by
  rw[Array.toList_filter];refine hleft.filter fun a b hr=>?_;rw[hr.2.2]
  by_cases hb:b.born<since
  ·simp[hb]
  ·simp[hb];omega
 unfold candidates;simp only[Array.toList_append,Array.toList_map];refine All2.append ?_ ?_
 ·have:((es.filter fun e=>!seen.contains e.2.2).filter fun e=>decide (e.2.2<since)).isEmpty=((ents.filter fun e=>!seen.toArray.contains e.born).filter (·.born<since)).isEmpty:=by
   have:=hold.len;rw[Bool.eq_iff_iff,List.isEmpty_iff_length_eq_zero,Array.isEmpty_iff_size_eq_zero,this];simp
  simp only[this];split
  ·exact .cons trivial .nil
  ·exact .nil
 ·exact(hold.append hnew).somes
theorem Jz{es:Ents}{l:List MapEntry}(h:All2 (sO μ) es l)(k:Nat):l.all (fun e=>decide (e.born≥k))=es.all (fun e=>decide (k≤e.2.2)):=by
 induction h with
 |nil=>rfl
 |cons hh _ ih =>
   rw[List.all_cons,List.all_cons,ih,hh.2.2]
theorem Hy(ents:Array MapEntry)(since:Nat)(seen:Array Nat):0<((if((ents.filter fun e=>!seen.contains e.born).filter (·.born<since)).isEmpty then #[none]else #[])++(((ents.filter fun e=>!seen.contains e.born).filter (·.born<since))++((ents.filter fun e=>!seen.contains e.born).filter (·.born≥since))).map some:Array (Option MapEntry)).size:=by
 by_cases he:((ents.filter fun e=>!seen.contains e.born).filter (·.born<since)).isEmpty=true
 ·rw[if_pos he,Array.size_append]
  show 0<1+_
  omega
 ·have:0<((ents.filter fun e=>!seen.contains e.born).filter (·.born<since)).size:=by
   rcases Nat.eq_zero_or_pos ((ents.filter fun e=>!seen.contains e.born).filter (·.born<since)).size with h|h
   ·exact absurd (Array.isEmpty_iff_size_eq_zero.2 h) he
   ·exact h
  rw[Array.size_append,Array.size_map,Array.size_append];omega
theorem FM{x:Operand}{a:Opd}{ty:TypeId}(hρ:Rho P n μ ρ ρ')(r:R P μ h w)(h1:aH P n x=some a){Q:V→H→Prop}{call:CP}
  (hE:HK.E call ρ h Q (.next a)):Done P μ h w (do pure (.value (← Instr.next (ρ' x) false ty))) Q:=by
 have hx:=aY hρ h1;simp only[HK.E]at hE;cases ha:ρ a<;>simp only[ha]at hE<;>(try exact hE.elim);rename_i i o;cases o with
 |succ o=>simp at hE
 |zero =>
   simp only at hE;rw[ha]at hx;obtain⟨L,hL,e⟩:=hx.ptr_inv;cases hi:h i with
   |none=>simp[hi]at hE
   |some oi =>
     cases oi<;>simp only[hi]at hE<;>(try exact hE.elim);rename_i m since seen stepped;obtain⟨L',X,eL,hX,h0,m',rfl,hm'⟩:=r.at_ i _ hi;rw[hL]at eL;cases eL;have hlt:L.B<w.heap.size:=(Array.getElem?_eq_some_iff.1 hX).1;have hg:(getObj L.B).run P w=.ok (.mapIter m' since seen.toArray stepped) w:=by simp[getObj,Sem.run,hX]
     cases m with
     |none =>
       simp only at hE hm';subst hm';refine⟨_,_,.tuple #[.bool false],_,μ,w,aC ?_,.inl rfl,hE,VR.mkTup (.cons (.bool _) .nil),St.refl r⟩;rw[e,h0];simp[Instr.next,hg]
     |some m =>
       simp only at hE hm';obtain⟨K,hK,rfl⟩:=hm';cases hm:h m with
       |none=>simp[hm]at hE
       |some om =>
         cases om<;>simp only[hm]at hE<;>(try exact hE.elim);rename_i es clock;obtain⟨hguard,hall⟩:=hE;obtain⟨K',Y,eK,hY,ents,rfl,hents⟩:=r.at_ m _ hm;rw[hK]at eK;cases eK;have hg2:=fU (P:=P) hY;have hc:=CJ hents since seen;have hlen:=hents.len;have hgu:(!seen.toArray.isEmpty&&!ents.isEmpty&&ents.all (fun e=>decide (e.born≥stepped)))=false:=by
          rw[← hguard];have e1:seen.toArray.isEmpty=seen.isEmpty:=by simp
          have e2:ents.isEmpty=es.isEmpty:=by
           rw[Bool.eq_iff_iff,List.isEmpty_iff_length_eq_zero,Array.isEmpty_iff_size_eq_zero,hlen];simp
          have e3:ents.all (fun e=>decide (e.born≥stepped))=es.all (fun e=>decide (stepped≤e.2.2)):=by
           rw[← Array.all_toList];exact Jz hents stepped
          rw[e1,e2,e3]
         generalize hcd:((if((ents.filter fun e=>!seen.toArray.contains e.born).filter (·.born<since)).isEmpty then #[none]else #[])++(((ents.filter fun e=>!seen.toArray.contains e.born).filter (·.born<since))++((ents.filter fun e=>!seen.toArray.contains e.born).filter (·.born≥since))).map some:Array (Option MapEntry))=cd at hc;have hpos:0<cd.size:=by
          rw[← hcd];exact Hy ents since seen.toArray
         obtain⟨idx,w1,hch,hidx,he1⟩:∃idx w1,(choose (.mapNext cd.size)).run P w=.ok idx w1∧idx<cd.size∧Eqv w w1:=by
          rw[run_choose]
          by_cases hf:(Question.mapNext cd.size).forced=true
          ·rw[if_pos hf];exact⟨0,w,rfl,hpos,rfl,rfl,rfl,rfl⟩
          ·rw[if_neg hf];exact⟨_,_,rfl,Nat.mod_lt _ hpos,rfl,rfl,rfl,rfl⟩
         obtain⟨y,hy1,hy2⟩:=hc.getR (i:=idx) (b:=cd[idx]) (by simp[hidx]);have hE':=hall y (List.mem_of_getElem? hy1);have hget:cd[idx]?=some cd[idx]:=Array.getElem?_eq_getElem hidx;have hrun:(Instr.next (ρ' x) false ty).run P w=(match (some cd[idx]:Option (Option MapEntry))with
           |some (some e)=>(do setObj L.B (.mapIter (some K.B) since (seen.toArray.push e.born) clock);pure (.tuple #[.bool true,e.key,e.val]):Sem Value)
           |some none=>pure (.tuple #[.bool false])
           |none=>stuck "Next: no such candidate").run P w1:=by
          rw[e,h0];simp only[Instr.next,Sem.run_bind,Nat.add_zero,hg,hg2,Result.andThen_ok];rw[if_neg (by rw[Bool.not_eq_true];exact hgu)];simp only[Sem.run_bind,Result.andThen_ok,hcd,hch,hget];clear hE' hy2 hget;generalize cd[idx]=z;cases z<;>rfl
         generalize cd[idx]=K0 at hy2 hrun;cases K0 with
         |none =>
           cases y with
           |some y=>exact hy2.elim
           |none =>
             simp only at hE';exact⟨_,_,.tuple #[.bool false],_,μ,w1,aC hrun,.inl rfl,hE',VR.mkTup (.cons (.bool _) .nil),(St.refl r).eqv he1⟩
         |some me =>
           cases y with
           |none=>exact hy2.elim
           |some y =>
             simp only at hE';have hX1:w1.heap[L.B]?=some (Obj.mapIter (some K.B) since seen.toArray stepped):=by rw[he1.1];exact hX
             have hset:(setObj L.B (.mapIter (some K.B) since (seen.toArray.push me.born) clock)).run P w1=.ok () {w1 with heap:=w1.heap.setIfInBounds L.B (.mapIter (some K.B) since (seen.toArray.push me.born) clock)}:=by simp[setObj,Sem.run,hX1]
             have r1:R P μ h w1:=r.eqv he1.1;have hlt1:L.B<w1.heap.size:=by rw[he1.1];exact hlt
             have hat:=dG (w:=w1) (o:=.mapIter (some K.B) since seen.toArray stepped) hlt1 (.mapIter (some K.B) since (seen.toArray.push me.born) clock);refine⟨_,_,.tuple #[.bool true,me.key,me.val],_,μ,{w1 with heap:=w1.heap.setIfInBounds L.B (.mapIter (some K.B) since (seen.toArray.push me.born) clock)},aC ?_,.inl rfl,hE',VR.mkTup (.cons (.bool _) (.cons hy2.1 (.cons hy2.2.1 .nil))),St.trans ((St.refl r).eqv he1) (St.put r1 hi rfl hL hat.size hat.here hat.else_ hat.rest ⟨h0,some K.B,?_,K,hK,rfl⟩ (fun _ _=>Kp.no fun _ _ _ e=>by cases e))⟩
             ·rw[hrun];simp only[Sem.run_bind,hset,Result.andThen_ok,Sem.run_pure]
             ·rw[hy2.2.2];simp
end
section
open Go
variable{P:Program}{μ:Mu}{h:H}{w:World}{n:Nat}{ρ:Opd→V}{ρ':Operand→Value}{v:V}
theorem EY{fn:Func}(h:fn.name = "maps.clone"):Extern.find fn=some Extern.MapsClone.clone:=by
 have e1:List.lookup "maps.clone" Extern.allGenericRows=none:=by rfl
 have e2:List.lookup "maps.clone" Extern.allTypedRows=none:=by rfl
 have e3:List.lookup "maps.clone" Extern.allRows=some Extern.MapsClone.clone:=by rfl
 simp only[Extern.find,h,e1,e2,e3,Option.map_none];rfl
theorem CX{f:FuncId}{fn:Func}{x:Operand}{a:Opd}(hρ:Rho P n μ ρ ρ')(r:R P μ h w)(hf:P.funcs[f]?=some fn)(hb:fn.body.isNone=true)(hn:fn.name = "maps.clone")(hno:qB fn=true)
  (h1:aH P n x=some a) {Q:V→H→Prop} {call:CP} (hE:HK.E call ρ h Q (.clone a)):Done P μ h w (callFunc f #[ρ' x]) Q:=by
 have hx:=aY hρ h1;simp only[HK.E]at hE;cases ha:ρ a<;>simp only[ha]at hE<;>(try exact hE.elim);rename_i t v;cases v<;>simp only at hE<;>(try exact hE.elim);rename_i b;rw[ha]at hx;cases hm:h b with
 |none=>simp[hm]at hE
 |some om =>
   cases om<;>simp only[hm]at hE<;>(try exact hE.elim);rename_i es clock;generalize hd:ρ' x=d at hx;cases hx with
   |iface hx =>
     cases hx with
     |map hL =>
       rename_i L;obtain⟨L',X,eL,hX,ents,rfl,hents⟩:=r.at_ b _ hm;rw[hL]at eL;cases eL;obtain⟨c,hc1,hc2,_,hst⟩:=St.new r (.map ents clock) (.map es clock) 0 (fun c hc=>⟨ents,rfl,hents.imp fun _ _ ⟨p,q,s⟩=>by
        have hle:μ.le (fun i=>if i=c then some ⟨w.heap.size,0,0⟩else μ i):=fun b L e=>by
         have:b≠c:=fun e'=>by subst e';rw[hc]at e;cases e
         simp[this,e]
        exact⟨p.mono hle,q.mono hle,s⟩⟩)
       refine⟨.value (.iface t (.map (some w.heap.size))),.iface t (.map c),.iface t (.map (some w.heap.size)),_,_,w.alloc (.map ents clock),?_,.inl rfl,hE c hc2,.iface (.map (L:=⟨w.heap.size,0,0⟩) (by simp)),hst⟩;rw[run_callFunc_extern hf (by rw[hn];rfl) hb (jQ hno) (EY hn)];have e:Extern.MapsClone.clone #[.iface t (.map (some L.B))]=(getObj L.B >>= fun o=>match o with
        |.map entries clock=>(newObj (.map entries clock) >>= fun n=>pure (.iface t (.map (some n))))
        |_=>stuck "maps.clone: a map expected"):=rfl
       rw[e];simp only[Sem.run_bind,fU hX,Result.andThen_ok];rfl
theorem IE{el e:TypeId}(h1:P.underlying el=some (.int .u8))(h2:P.cellsOf el=1)(h3:P.underlying e=some (.int .u8)){count off k:Nat}(hle:off+k≤count):liesAt P P.depth el count off e k=true:=by
 have hd:P.depth=(2*(P.types.size+Made.depth)+1)+1:=rfl;rw[hd];simp only[liesAt,Bool.or_eq_true];left;rw[hd];simp[rowAt,h2,hle,sameLayout,h1,h3,Nat.mod_one,Nat.div_one]
theorem xQ:∀(cs:List V) (s:List UInt8) (a:Addr) (acc:ByteArray) (w:World),bytesOf cs=some s→(∀j v,cs[j]?=some v→∃d,w.cell? (a.add j)=some d∧VR μ v d) →
  (loadBytes a acc cs.length).run P w=.ok ⟨acc.data++s.toArray⟩ w
 |[],s,a,acc,w,hb,_=>by simp only[bytesOf]at hb;cases hb;simp[loadBytes]
 |x::cs,s,a,acc,w,hb,hc=>by
   obtain⟨m,rfl⟩:∃m,x=.int .u8 m:=by
    cases x with
    | int k m=>cases k with
      |u8=>exact⟨m,rfl⟩
      |_=>simp[bytesOf]at hb
    |_=>simp[bytesOf]at hb
   simp only[bytesOf]at hb;split at hb
   ·rename_i s' hs';cases hb;obtain⟨d,h0,hv⟩:=hc 0 _ rfl;rw[hv.int_inv]at h0;have h0':w.cell? a=some (.int .u8 m):=by simpa[Addr.add]using h0
    have ih:=xQ cs s' (a.add 1) (acc.push m.toNat.toUInt8) w hs' (fun j v hj=>by
     obtain⟨d,h1,h2⟩:=hc (j+1) v (by simpa using hj);have e:(a.add 1).add j=a.add (j+1):=by
      unfold Addr.add
      by_cases hj:j=0
      ·subst hj;simp
      ·simp[hj];omega
     exact⟨d,by rw[e];exact h1,h2⟩)
    simp only[List.length_cons,loadBytes,Sem.run_bind,run_load,h0',Result.andThen];rw[ih];congr 1;apply ByteArray.ext;simp[ByteArray.push]
   ·cases hb
theorem yh(ts:Array TypeId)(type:TypeId)(q:Option Addr)(d:Value):Builtin.unsafeString_ ts type #[.pointer q,d]=(do
  let n ← asInt d
  let some pt:=ts[0]?|stuck "unsafe.String: no argument types"
  if n<0 then runtimePanic (.error "unsafe.String: len out of range")
  if n>IntKind.i64.max then unsupported (.unsafePointer "String: a length above the largest int")
  match q with
  |none =>
    if n=0 then pure (.string .empty)
    else runtimePanic (.error "unsafe.String: ptr is nil and len is not zero")
  |some a =>
    if n=0 then pure (.string .empty)
    else if ← variablesAt a (← elemOf pt) n.toNat then do
     let s ← loadBytes a .empty n.toNat
     freeze a n.toNat
     pure (.string s)
    else unsupported (.unsafePointer "String: not so many bytes at ptr")):=rfl
theorem Ib{L:Loc}{o k:Nat}{c:Array Value}{el:TypeId}{fr:Nat × Nat}(hk:k≠0)(hx:w.heap[L.B]?=some (.cells c el fr)):∃fr',At w (w.freeze ⟨L.B,o,none⟩ k) L.B (.cells c el fr'):=by
 have hlt:L.B<w.heap.size:=(Array.getElem?_eq_some_iff.1 hx).1;refine⟨if fr.1==fr.2 then(o,o+k)else(min fr.1 o,max fr.2 (o+k)),?_⟩;unfold World.freeze;rw[if_neg hk];refine⟨by simp,?_,fun B hB=>?_,rfl,rfl,rfl⟩
 ·simp only[Array.getElem?_modify,if_true,hx,Option.map_some]
 ·simp only[Array.getElem?_modify];rw[if_neg (Ne.symm hB)]
theorem Gj{t e:TypeId}{x y:Operand}{a b:Opd}{ts:Array TypeId}{type:TypeId}(hρ:Rho P n μ ρ ρ')(r:R P μ h w)(h1:aH P n x=some a)(h2:aH P n y=some b)(hu:P.underlying t=some (.pointer e))
  (hu8:P.underlying e=some (.int .u8)) (t0:ts[0]?=some t) {Q:V→H→Prop} {call:CP} (hE:HK.E call ρ h Q (.ustr a b)):
  Done P μ h w (do pure (.value (← Builtin.unsafeString_ ts type #[ρ' x,ρ' y]))) Q:=by
 have hx:=aY hρ h1;have hy:=aY hρ h2;simp only[HK.E]at hE;cases hb:ρ b<;>simp only[hb]at hE<;>(try exact hE.elim);rename_i kd k;cases kd<;>simp only at hE<;>(try exact hE.elim);obtain⟨k0,k1,hE⟩:=hE;rw[hb]at hy;have ey:=hy.int_inv;have hmax:IntKind.i64.max=9223372036854775807:=rfl;have hw:IntKind.i64.wrap k=k:=wrap_i64 k0 (by omega);have c0:¬k<0:=by omega
 have c1:¬(9223372036854775807:Int)<k:=by omega
 have hemp:VR μ (.str []) (.string .empty):=.str [];cases ha:ρ a<;>simp only[ha]at hE<;>(try exact hE.elim)
 ·rename_i bb o;rw[ha]at hx;generalize hd:ρ' x=dx at hx;cases hx with
  |ptr hL =>
    rename_i L;split at hE
    ·rename_i hk0;subst hk0;refine⟨_,.str [],.string .empty,_,μ,w,aC ?_,.inl rfl,hE,hemp,St.refl r⟩;rw[yh,ey];simp[asInt,asIntOf,hmax,t0]
    ·rename_i hk0;cases hbb:h bb with
     |none=>simp[hbb]at hE
     |some ob =>
       cases ob<;>simp only[hbb]at hE<;>(try exact hE.elim);rename_i cs ro;cases ro<;>simp only at hE<;>(try exact hE.elim);obtain⟨hB,hle,hE⟩:=hE;split at hE<;>(try exact hE.elim);rename_i s hs;obtain⟨L',X,eL,hX,hO⟩:=r.at_ bb _ hbb;rw[hL]at eL;cases eL;have hbyt:=(r.byt bb _ L X hbb hL hX).1 hB;obtain⟨c,el,fr,rfl,q1,q2,q3,q4⟩:=hO;obtain⟨b1,b2⟩:=hbyt _ _ _ rfl;have hkn:k.toNat≠0:=by omega
       obtain⟨fr',hat⟩:=Ib (w:=w) (L:=L) (o:=L.s+o) hkn hX;have hlen:((cs.drop o).take k.toNat).length=k.toNat:=by rw[List.length_take,List.length_drop];omega
       have hload:=xQ (P:=P) (μ:=μ) ((cs.drop o).take k.toNat) s ⟨L.B,L.s+o,none⟩ .empty w hs (fun j v hj=>by
        have hj':j<k.toNat:=by have:=(List.getElem?_eq_some_iff.1 hj).1;omega
        rw[List.getElem?_take_of_lt hj',List.getElem?_drop]at hj;obtain⟨d,d1,d2,d3⟩:=q3 _ _ hj;refine⟨d,?_,d2⟩;rw[add_lit];have:L.s+o+j=L.s+(o+j):=by omega
        simp[World.cell?,hX,this,d1])
       rw[hlen]at hload;have hlies:=IE (P:=P) b1 b2 hu8 (count:=c.size / P.cellsOf el) (off:=L.s+o) (k:=k.toNat) (by rw[b2,Nat.div_one];omega);have hsh:w.shape? L.B=some (el,c.size):=by simp[World.shape?,hX]
       refine⟨_,.str s,.string ⟨s.toArray⟩,_,μ,w.freeze ⟨L.B,L.s+o,none⟩ k.toNat,aC ?_,.inl rfl,hE,.str s,?_⟩
       ·rw[yh,ey];simp only[asInt,asIntOf,Sem.run_bind,Sem.run_pure,Result.andThen_ok,hw,t0,hmax];simp[c0,c1,hk0,variablesAt,elemOf,au hu,hsh,hlies,hload]
       ·exact St.put r hbb rfl hL hat.size hat.here hat.else_ hat.rest ⟨c,el,fr',rfl,q1,q2,q3,fun e=>by cases e⟩ (fun y hy=>by rw[hX]at hy;cases hy;exact Kp.same rfl)
 ·obtain⟨rfl,hE⟩:=hE;rw[ha]at hx;have ex:ρ' x=.pointer none:=by
   generalize ρ' x=dx at hx;cases hx;rfl
  refine⟨_,.str [],.string .empty,_,μ,w,aC ?_,.inl rfl,hE,hemp,St.refl r⟩;rw[ex,yh,ey];simp[asInt,asIntOf,hmax,t0]
theorem AL(ρ':Operand→Value)(dst:Option Tmp)(b:Builtin)(args:Array Operand)(ts:Array TypeId)(type:TypeId)(pos:String)(after:Array Edge)(guard:Option (Nat × Bool)):
  ∃consts,execOp ρ' ⟨dst,.call ⟨.builtin b,args,ts⟩,type,pos,after,guard⟩=builtin b ts type consts (args.map ρ'):=by
 refine⟨args.map fun|.const _=>true|_=>false,?_⟩;simp only[execOp,resolve];rfl
def HK.plain:HK→Bool
 |.call _ _|.dfr _ _=>false
 |_=>true
theorem LQ{op:Op}{k:HK}(hc:cOp P n op=some (.h k))(hρ:Rho P n μ ρ ρ')(r:R P μ h w)(hp:k.plain=true){Q:V→H→Prop}{call:CP}(hE:k.E call ρ h Q)(o:Oper)(ho:o.op=op)(hF:∀f,ρ' (.func f)=.func (.func f) #[] #[]):
  Done P μ h w (execOp ρ' o) Q:=by
 obtain⟨dst,op',type,pos,after,guard⟩:=o;simp only at ho;subst ho;cases op' with
 |store t x y =>
   simp only[cOp]at hc;split at hc
   ·rename_i a b s h1 h2 h3;cases hc;exact Ep hρ r h1 h2 h3 hE
   ·cases hc
 |insert t m x y =>
   simp only[cOp]at hc;split at hc
   ·rename_i m' k' v' kt et h1 h2 h3 hu;obtain⟨kc,hk,e⟩:=Option.map_eq_some_iff.1 hc;cases e;exact rV hρ r h1 h2 h3 hu hk hE
   ·cases hc
 |mapUpdate t m x y =>
   simp only[cOp]at hc;split at hc
   ·rename_i m' k' v' kt et h1 h2 h3 hu;obtain⟨kc,hk,e⟩:=Option.map_eq_some_iff.1 hc;cases e;exact rV hρ r h1 h2 h3 hu hk hE
   ·cases hc
 |mapEntry t m x =>
   simp only[cOp]at hc;split at hc
   ·rename_i m' k' kt et h1 h2 hu;split at hc
    ·rename_i kc z hk hz;cases hc;exact wY hρ r h1 h2 hu hk hz hE
    ·cases hc
   ·cases hc
 |entryStore t m s x =>
   simp only[cOp]at hc;split at hc
   ·rename_i m' s' v' h1 h2 h3;cases hc;exact sU hρ r h1 h2 h3 hE
   ·cases hc
 |range t x =>
   simp only[cOp]at hc;split at hc
   ·rename_i a kt et h1 hu;cases hc;exact Ee hρ r h1 hu hE
   ·rename_i a h1 hu;cases hc;exact xJ hρ r h1 hu hE
   ·cases hc
 |next it s =>
   simp only[cOp]at hc;obtain⟨a,h1,e⟩:=Option.map_eq_some_iff.1 hc;cases s
   ·cases e;exact FM hρ r h1 hE
   ·cases e;exact yD hρ r h1 hE
 |call c =>
   obtain⟨cal,args,ts⟩:=c;simp only[cOp]at hc;have hargs:(args.map ρ').toList=args.toList.map ρ':=Array.toList_map ..;split at hc
   ·rename_i b;simp only[iT]at hc;have key:∀(s:Sem Next),(∀consts,builtin b ts type consts (args.map ρ')=s)→Done P μ h w s Q→Done P μ h w (execOp ρ' ⟨dst,.call ⟨.builtin b,args,ts⟩,type,pos,after,guard⟩) Q:=by
     intro s e hd;obtain⟨consts,hx⟩:=AL ρ' dst b args ts type pos after guard;rw[hx,e];exact hd
    split at hc
    ·exfalso
     repeat' (first|(cases hc;done)|(obtain⟨_,_,e⟩:=Option.map_eq_some_iff.1 hc;cases e;done)|split at hc)
    ·exfalso
     repeat' (first|(cases hc;done)|(obtain⟨_,_,e⟩:=Option.map_eq_some_iff.1 hc;cases e;done)|split at hc)
    ·exfalso
     repeat' (first|(cases hc;done)|(obtain⟨_,_,e⟩:=Option.map_eq_some_iff.1 hc;cases e;done)|split at hc)
    ·rename_i x y t u tl hA hT;have a0:(args.map ρ')[0]?=some (ρ' x):=by rw[← Array.getElem?_toList,hargs,hA];simp
     have a1:(args.map ρ')[1]?=some (ρ' y):=by rw[← Array.getElem?_toList,hargs,hA];simp
     have t0:ts[0]?=some t:=by rw[← Array.getElem?_toList,hT];simp
     have t1:ts[1]?=some u:=by rw[← Array.getElem?_toList,hT];simp
     split at hc
     ·rename_i a b e d h1 h2 hu hd;split at hc
      ·cases hc
      ·rename_i hd';simp only[Bool.false_eq_true,if_false]at hc;split at hc
       ·rename_i z i hz hi;split at hc
        ·rename_i hb;cases hc;exact key _ (fun _=>rfl) (zS hρ r h1 h2 hu hd (fun k e'=>hd' k e') hz hi hb.1 hb.2 t0 t1 a0 a1 hE)
        ·cases hc
       ·cases hc
     ·cases hc
    ·rename_i x y t tl hA hT;have hm:args.map ρ'=#[ρ' x,ρ' y]:=by apply Array.toList_inj.1;rw[hargs,hA];rfl
     have t0:ts[0]?=some t:=by rw[← Array.getElem?_toList,hT];simp
     split at hc
     ·rename_i a b e h1 h2 hu;split at hc
      ·rename_i hu8;split at hc
       ·cases hc;exact key _ (fun _=>rfl) (by rw[hm];exact Gj hρ r h1 h2 hu hu8 t0 hE)
       ·cases hc
      ·cases hc
     ·cases hc
    ·obtain⟨_,_,e⟩:=Option.map_eq_some_iff.1 hc;cases e
    ·rename_i x y t tl hA hT;have a0:(args.map ρ')[0]?=some (ρ' x):=by rw[← Array.getElem?_toList,hargs,hA];simp
     have a1:(args.map ρ')[1]?=some (ρ' y):=by rw[← Array.getElem?_toList,hargs,hA];simp
     have t0:ts[0]?=some t:=by rw[← Array.getElem?_toList,hT];simp
     split at hc
     ·rename_i a b e h1 h2 hu;split at hc
      ·rename_i s hs;split at hc
       ·rename_i hp';cases hc;exact key _ (fun _=>rfl) (EO hρ r h1 h2 hu hs hp' t0 a0 a1 hE)
       ·cases hc
      ·cases hc
     ·cases hc
    ·rename_i x y t tl hA hT;have a0:(args.map ρ')[0]?=some (ρ' x):=by rw[← Array.getElem?_toList,hargs,hA];simp
     have a1:(args.map ρ')[1]?=some (ρ' y):=by rw[← Array.getElem?_toList,hargs,hA];simp
     have t0:ts[0]?=some t:=by rw[← Array.getElem?_toList,hT];simp
     split at hc
     ·rename_i a b kt et h1 h2 hu;obtain⟨kc,hk,e⟩:=Option.map_eq_some_iff.1 hc;cases e;exact key _ (fun _=>rfl) (Ap hρ r h1 h2 hu hk t0 a0 a1 hE)
     ·cases hc
    ·cases hc
   ·rename_i f;split at hc
    ·rename_i fn hf;split at hc
     ·rename_i hcl;split at hc
      ·rename_i x hA;obtain⟨a,h1,e⟩:=Option.map_eq_some_iff.1 hc;cases e;have:args=#[x]:=by apply Array.toList_inj.1;rw[hA]
       subst this;obtain⟨nx,v,d,h',μ',w',hrun,rest⟩:=CX hρ r hf hcl.1 hcl.2.1 hcl.2.2 h1 hE;refine⟨nx,v,d,h',μ',w',?_,rest⟩;rw[← hrun];simp[execOp,resolve,hF,Deferred.ofValue,invoke]
      ·cases hc
     ·split at hc
      ·split at hc
       ·split at hc<;>cases hc
       ·cases hc
      ·split at hc
       ·split at hc
        ·obtain⟨_,_,e⟩:=Option.map_eq_some_iff.1 hc;cases e
        ·cases hc
       ·split at hc
        ·split at hc
         ·split at hc
          ·split at hc<;>cases hc
          ·cases hc
         ·cases hc
        ·obtain⟨_,_,e⟩:=Option.map_eq_some_iff.1 hc;cases e;cases hp
    ·cases hc
   ·split at hc
    ·cases hc;cases hp
    ·cases hc
   ·cases hc
 |defer c =>
   simp only[cOp]at hc;split at hc
   ·split at hc
    ·cases hc;cases hp
    ·cases hc
   ·cases hc
 |makeMap t r=>cases r<;>simp only[cOp]at hc<;>cases hc
 |makeFunc f a c=>cases f<;>simp only[cOp]at hc<;>(try cases hc;done);split at hc<;>cases hc
 |typeAssert x xt t ok=>cases ok<;>simp only[cOp]at hc<;>(try cases hc;done);split at hc<;>cases hc
 |slice t x l hh m=>cases m<;>simp only[cOp]at hc<;>repeat' (first|(cases hc;done)|split at hc)
 |_ =>
   exfalso;simp only[cOp]at hc
   repeat' (first|(cases hc;done)|(obtain⟨_,_,e⟩:=Option.map_eq_some_iff.1 hc;cases e;done)|split at hc)
end
section
open Go
variable{P:Program}{μ μ':Mu}{h h':H}{w w':World}{n base:Nat}
def After(P:Program)(μ:Mu)(h:H)(w:World)(Q:V→H→Prop)(d:Value)(w':World):Prop:=∃v h' μ',Q v h'∧VR μ' v d∧St P μ h w μ' h' w'
def Entered(P:Program)(f:FuncId)(args:Array Value)(w:World)(R:Value→World→Prop):Prop:=
 ∀kind,(kind=.normal∨kind=.deferred)→∀cs,∃v w' fr,R v w'∧Steps P (lone (Frame.enter P f args kind) cs w) (lone fr cs w')∧fr.fn=f∧fr.kind=kind∧fr.mode=.returning∧fr.defers=[] ∧
   ∃fn,P.funcs[fr.fn]?=some fn∧(results fn fr.tmps).run P w'=.ok v w'
def Ran(P:Program)(f:FuncId)(args:Array Value)(w:World)(R:Value→World→Prop):Prop:=
 (∃v w',(callFunc f args).run P w=.ok (.value v) w'∧R v w')∨((callFunc f args).run P w=.ok (.enter f args) w∧Entered P f args w R)
def RanRound(P:Program)(l:Nat)(args:Array Value)(w:World)(R:Value→World→Prop):Prop:=
 ∃f tmps assign body,(Instr.yield l args).run P w=.ok (.round l f tmps assign body) w ∧
   ∀c cs,∃v w',R v w'∧Steps P (lone (Frame.round l f tmps assign body .normal) (c::cs) w) (lone (c.finish v) cs w')
def Snd(P:Program):CP
 |.fn f,args,h,Q=>∀μ w args',VRs μ args args'→R P μ h w→Ran P f args'.toArray w (After P μ h w Q)
 |.round l,args,h,Q=>∀μ w args' L,VRs μ args args'→R P μ h w→μ l=some L→RanRound P L.B args'.toArray w (After P μ h w Q)
theorem After.mono{Q Q':V→H→Prop}(hq:∀v h,Q v h→Q' v h){d:Value}(a:After P μ h w Q d w'):After P μ h w Q' d w' :=
 let ⟨v,h',μ',q,r⟩:=a;⟨v,h',μ',hq _ _ q,r⟩
theorem Entered.mono{f:FuncId}{args:Array Value}{R R':Value→World→Prop}(hr:∀v w,R v w→R' v w)(a:Entered P f args w R):Entered P f args w R' :=
 fun kind hk cs=>let ⟨v,w',fr,r,x⟩:=a kind hk cs;⟨v,w',fr,hr _ _ r,x⟩
theorem Ran.mono{f:FuncId}{args:Array Value}{R R':Value→World→Prop}(hr:∀v w,R v w→R' v w)(a:Ran P f args w R):Ran P f args w R':=by
 rcases a with⟨v,w',h1,h2⟩|⟨h1,h2⟩
 ·exact .inl ⟨v,w',h1,hr _ _ h2⟩
 ·exact .inr ⟨h1,h2.mono hr⟩
theorem RanRound.mono{l:Nat}{args:Array Value}{R R':Value→World→Prop}(hr:∀v w,R v w→R' v w)(a:RanRound P l args w R):RanRound P l args w R':=by
 obtain⟨f,tmps,as,bd,h1,h2⟩:=a;exact⟨f,tmps,as,bd,h1,fun c cs=>let ⟨v,w',r,x⟩:=h2 c cs;⟨v,w',hr _ _ r,x⟩⟩
theorem Snd.mono{c:Callee}{args:List V}{Q Q':V→H→Prop}(hq:∀v h,Q v h→Q' v h)(a:Snd P c args h Q):Snd P c args h Q':=by
 cases c with
 |fn f=>exact fun μ w args' hv r=>(a μ w args' hv r).mono fun _ _=>After.mono hq
 |round l=>exact fun μ w args' L hv r hL=>(a μ w args' L hv r hL).mono fun _ _=>After.mono hq
def TR(μ:Mu)(n:Nat)(t:Tm)(tmps:Array Value):Prop:=tmps.size=n∧∀i,VR μ (t i) (tmps.getD i undef)
theorem TR.mono(hm:μ.le μ'){t:Tm}{tmps:Array Value}(a:TR μ n t tmps):TR μ' n t tmps:=⟨a.1,fun i=>(a.2 i).mono hm⟩
theorem TR.set{t:Tm}{tmps:Array Value}(a:TR μ n t tmps){d:Nat}(hd:d<n){v:V}{x:Value}(hv:VR μ v x):TR μ n (upd t d v) (tmps.setIfInBounds d x):=by
 refine⟨by simp[a.1],fun i=>?_⟩
 by_cases e:i=d
 ·subst e;have:i<tmps.size:=by rw[a.1];exact hd
  simp[upd,this];exact hv
 ·have:=a.2 i;simp only[upd,e,if_false];rw[Array.getD_eq_getD_getElem?]at this⊢;rw[Array.getElem?_setIfInBounds_ne (Ne.symm e)];exact this
theorem TR.put{a:Tm}{act:Act}(r:TR μ n a act.tmps){d:Option Tmp}(hd:Cm n d=true){v:V}{x:Value}(hv:VR μ v x):TR μ n (put a d v) (act.put d x).tmps:=by
 cases d with
 |none=>exact r
 |some d=>exact r.set (by simpa[Cm]using hd) hv
theorem yj:VR μ (.tup []) Go.undef:=VR.mkTup (ds:=[]) .nil
theorem OR.no_defer{L:Loc}{o:AObj}{x:Option (List Deferred)}:¬OR P μ L o (.deferred x):=by
 intro h;cases o with
 |cells cs ro=>obtain⟨_,_,_,e,_⟩:=h;cases e
 |map es c=>obtain⟨_,e,_⟩:=h;cases e
 |iter m a b c=>obtain⟨_,_,e,_⟩:=h;cases e
 |sit s p=>obtain⟨_,e⟩:=h;cases e
 |loop t ps as bd st pd=>obtain⟨_,e,_⟩:=h;cases e
theorem R.no_own(r:R P μ h w){B:Nat}{x:Option (List Deferred)}(hB:w.heap[B]?=some (.deferred x)):¬Own μ h B:=by
 rintro⟨b,o,L,hb,_,hL,rfl⟩;obtain⟨L',y,e,hy,ho⟩:=r.at_ b o hb;rw[hL]at e;cases e;rw[hB]at hy;cases hy;exact OR.no_defer ho
inductive DR(μ:Mu)(base:Nat)(w:World):List (V × List V)→List Deferred→Prop where
 |nil:DR μ base w [] []
 | call {f:Nat} {first cap args:List V} {as cs args':List Value} {ds:List (V × List V)} {Ds:List Deferred}:VRs μ first as→VRs μ cap cs→VRs μ args args'→DR μ base w ds Ds →
   DR μ base w ((.fn f first cap,args)::ds) ({target:=.fn (.func f) cs.toArray,args:=as.toArray++args'.toArray}::Ds)
 | mark {r:Nat} {ds:List (V × List V)} {Ds:List Deferred}:base≤r→w.heap[r]?=some (.deferred (some []))→(∀d∈Ds,d.target≠.collected r)→DR μ base w ds Ds →
   DR μ base w ds ({target:=.collected r,args:=#[]}::Ds)
theorem DR.mono(s:St P μ h w μ' h' w')(r:R P μ h w){ds:List (V × List V)}{Ds:List Deferred}(a:DR μ base w ds Ds):DR μ' base w' ds Ds:=by
 induction a with
 |nil=>exact .nil
 |call h1 h2 h3 _ ih=>exact .call (h1.mono s.le) (h2.mono s.le) (h3.mono s.le) ih
 |mark h1 h2 h3 _ ih =>
   refine .mark h1 ?_ h3 ih;rw[s.kept _ (Array.getElem?_eq_some_iff.1 h2).1 (r.no_own h2)];exact h2
structure SR(P:Program)(n base:Nat)(μ:Mu)(a:A)(h:H)(act:Act)(w:World):Prop where
 rel:R P μ h w
 t:TR μ n a.t act.tmps
 d:DR μ base w a.d act.defers
theorem SR.step{a:A}{act:Act}(r:SR P n base μ a h act w)(s:St P μ h w μ' h' w'):SR P n base μ' a h' act w':=⟨s.rel,r.t.mono s.le,r.d.mono s r.rel⟩
theorem SR.put{a:A}{act:Act}(r:SR P n base μ a h act w){d:Option Tmp}(hd:Cm n d=true){v:V}{x:Value}(hv:VR μ v x):SR P n base μ {a with t:=put a.t d v} h (act.put d x) w:=
 ⟨r.rel,r.t.put hd hv,by cases d<;>exact r.d⟩
theorem SR.rho{a:A}{act:Act}(r:SR P n base μ a h act w):Rho P n μ (Opd.ev a.t) act.eval:=by
 intro x y hc;cases x with
 |tmp t =>
   simp only[aH]at hc;split at hc
   ·cases hc;exact r.t.2 t
   ·cases hc
 |const v =>
   simp only[aH]at hc;obtain⟨v',h1,rfl⟩:=Option.map_eq_some_iff.1 hc;exact kY _ _ _ h1
 |global g =>
   simp only[aH]at hc;split at hc
   ·rename_i hg;cases hc;obtain⟨m,e⟩:=r.rel.glob g hg;exact VR.ptr (o:=0) e
   ·cases hc
 |func f =>
   simp only[aH]at hc;cases hc;exact VR.mkFn (as:=[]) (cs:=[]) .nil .nil
theorem nG{a:A}{act:Act}(r:SR P n base μ a h act w){ops:Array Oper}{o:Oper}{g:Option (Nat × Bool)}(hg:Ae n ops o.guard=some g)(hok:aF a.t g):
  Region.wanted o (yielded ops act.tmps)=az a.t g:=by
 unfold Ae at hg;unfold Region.wanted;cases ho:o.guard with
 |none=>simp only[ho]at hg;cases hg;rfl
 |some jb =>
   obtain⟨j,b⟩:=jb;simp only[ho]at hg;split at hg
   ·rename_i d hd;split at hg
    ·rename_i hdn;cases hg;simp only[yielded,hd,Option.bind_some,az];have hv:=r.t.2 d;have hsz:d<act.tmps.size:=by rw[r.t.1];exact hdn
     simp only[aF]at hok;rw[Array.getD_eq_getD_getElem?,Array.getElem?_eq_getElem hsz]at hv;simp only[Option.getD_some]at hv;rw[Array.getElem?_eq_getElem hsz];rcases hok with⟨c,e⟩|e
     ·rw[e]at hv⊢;generalize act.tmps[d]=z at hv;cases hv;cases c<;>cases b<;>rfl
     ·rw[e]at hv⊢;obtain⟨ds,e',_⟩:=hv.tup_inv;rw[e'];cases b<;>rfl
    ·cases hg
   ·cases hg
end
section
open Go
variable{P:Program}{μ μ':Mu}{h h':H}{w w':World}{n base:Nat}{b:Frame}{act:Act}{k:List Item}{cs:List Frame}{ops:Array Oper}{i:Nat}{rest:List Nat}{o:Oper}
theorem JO{op:Op}{f:Opd}{args:List Opd}(hc:cOp P n op=some (.h (.call f args))):
  ∃c f0,op=.call c∧c.callee=.value f0∧aH P n f0=some f∧jZ P n c.args.toList=some args:=by
 cases op with
 |call c =>
   obtain⟨cal,as,ts⟩:=c;simp only[cOp]at hc;split at hc
   ·simp only[iT]at hc;exfalso
    repeat' (first|(cases hc;done)|(obtain⟨_,_,e⟩:=Option.map_eq_some_iff.1 hc;cases e;done)|split at hc)
   ·rename_i f0;split at hc
    ·split at hc
     ·split at hc
      ·obtain⟨_,_,e⟩:=Option.map_eq_some_iff.1 hc;cases e
      ·cases hc
     ·split at hc
      ·split at hc
       ·split at hc<;>cases hc
       ·cases hc
      ·split at hc
       ·split at hc
        ·obtain⟨_,_,e⟩:=Option.map_eq_some_iff.1 hc;cases e
        ·cases hc
       ·split at hc
        ·split at hc
         ·split at hc
          ·split at hc<;>cases hc
          ·cases hc
         ·cases hc
        ·obtain⟨as',h1,e⟩:=Option.map_eq_some_iff.1 hc;cases e;exact⟨_,_,rfl,rfl,rfl,h1⟩
    ·cases hc
   ·split at hc
    ·rename_i h1 h2;cases hc;exact⟨_,_,rfl,rfl,h1,h2⟩
    ·cases hc
   ·cases hc
 |defer c =>
   simp only[cOp]at hc;split at hc
   ·split at hc<;>cases hc
   ·cases hc
 |makeMap t r=>cases r<;>simp only[cOp]at hc<;>cases hc
 |makeFunc f a c=>cases f<;>simp only[cOp]at hc<;>(try cases hc;done);split at hc<;>cases hc
 |typeAssert x xt t ok=>cases ok<;>simp only[cOp]at hc<;>(try cases hc;done);split at hc<;>cases hc
 |slice t x l hh m=>cases m<;>simp only[cOp]at hc<;>repeat' (first|(cases hc;done)|split at hc)
 |next it s =>
   simp only[cOp]at hc;obtain⟨_,_,e⟩:=Option.map_eq_some_iff.1 hc;cases s<;>cases e
 |_ =>
   exfalso;simp only[cOp]at hc
   repeat' (first|(cases hc;done)|(obtain⟨_,_,e⟩:=Option.map_eq_some_iff.1 hc;cases e;done)|split at hc)
theorem OG{op:Op}{f:Opd}{args:List Opd}(hc:cOp P n op=some (.h (.dfr f args))):
  ∃c f0,op=.defer c∧c.callee=.value f0∧aH P n f0=some f∧jZ P n c.args.toList=some args:=by
 cases op with
 |call c =>
   obtain⟨cal,as,ts⟩:=c;simp only[cOp]at hc;split at hc
   ·simp only[iT]at hc;exfalso
    repeat' (first|(cases hc;done)|(obtain⟨_,_,e⟩:=Option.map_eq_some_iff.1 hc;cases e;done)|split at hc)
   ·split at hc
    ·split at hc
     ·split at hc
      ·obtain⟨_,_,e⟩:=Option.map_eq_some_iff.1 hc;cases e
      ·cases hc
     ·split at hc
      ·split at hc
       ·split at hc<;>cases hc
       ·cases hc
      ·split at hc
       ·split at hc
        ·obtain⟨_,_,e⟩:=Option.map_eq_some_iff.1 hc;cases e
        ·cases hc
       ·split at hc
        ·split at hc
         ·split at hc
          ·split at hc<;>cases hc
          ·cases hc
         ·cases hc
        ·obtain⟨as',h1,e⟩:=Option.map_eq_some_iff.1 hc;cases e
    ·cases hc
   ·split at hc<;>cases hc
   ·cases hc
 |defer c =>
   simp only[cOp]at hc;split at hc
   ·rename_i f0 hf;split at hc
    ·rename_i h1 h2;cases hc;exact⟨_,_,rfl,hf,h1,h2⟩
    ·cases hc
   ·cases hc
 |makeMap t r=>cases r<;>simp only[cOp]at hc<;>cases hc
 |makeFunc f a c=>cases f<;>simp only[cOp]at hc<;>(try cases hc;done);split at hc<;>cases hc
 |typeAssert x xt t ok=>cases ok<;>simp only[cOp]at hc<;>(try cases hc;done);split at hc<;>cases hc
 |slice t x l hh m=>cases m<;>simp only[cOp]at hc<;>repeat' (first|(cases hc;done)|split at hc)
 |next it s =>
   simp only[cOp]at hc;obtain⟨_,_,e⟩:=Option.map_eq_some_iff.1 hc;cases s<;>cases e
 |_ =>
   exfalso;simp only[cOp]at hc
   repeat' (first|(cases hc;done)|(obtain⟨_,_,e⟩:=Option.map_eq_some_iff.1 hc;cases e;done)|split at hc)
theorem kP{op:Op}{kd:Kind}(hc:cOp P n op=some kd)(hk:∀f a,kd≠.h (.dfr f a)):∀c,op≠.defer c:=by
 intro c e;subst e;simp only[cOp]at hc;split at hc
 ·split at hc
  ·cases hc;exact hk _ _ rfl
  ·cases hc
 ·cases hc
theorem kW{nx:Next}{d:Value}(ho:ops[i]?=some o)(hw:Region.wanted o (yielded ops act.tmps)=true)(hnd:∀c,o.op≠.defer c)(hr:(execOp act.eval o).run P w=.ok nx w')(hnx:nx=.value d∨(nx=.skip∧d=undef)):
  step P (lone (b.atR act (.inRegion ops (i::rest)::k)) cs w)=.next (lone (b.atR (act.put o.dst d) (.inRegion ops rest::k)) cs w'):=by
 have hf:(b.atR act (.inRegion ops (i::rest)::k)).finish d=b.atR (act.put o.dst d) (.inRegion ops rest::k):=by rw[Frame.finish_atR,ho];rfl
 refine step_lone_go ?_;rw[stepGR_op ho hw,Oper.semAt_eq _ _ _ hnd,← hf];rcases hnx with rfl|⟨rfl,rfl⟩<;>simp[stepG.apply,hr]
theorem H7{c:Call}{f0:Operand}(ρ':Operand→Value)(ho:o.op=.call c)(hf:c.callee=.value f0):
  execOp ρ' o=(do let d ← Deferred.ofValue (ρ' f0) (c.args.map ρ');invoke d.target d.args):=by
 obtain⟨dst,op,type,pos,after,guard⟩:=o;simp only at ho;subst ho;simp only[execOp,resolve,hf]
theorem EN{c:Call}{f0:Operand}{f:V}{args:List V}{Q:V→H→Prop}(r:R P μ h w)(hopi:ops[i]?=some o)(hw:Region.wanted o (yielded ops act.tmps)=true)(ho:o.op=.call c)(hf:c.callee=.value f0)
  (hfv:VR μ f (act.eval f0)) (hav:VRs μ args (c.args.map act.eval).toList) (hE:vO (Snd P) f args h Q):
  ∃d w',After P μ h w Q d w'∧Steps P (lone (b.atR act (.inRegion ops (i::rest)::k)) cs w) (lone (b.atR (act.put o.dst d) (.inRegion ops rest::k)) cs w'):=by
 have hnd:∀c,o.op≠.defer c:=fun c e=>by rw[ho]at e;cases e
 have hfin:∀d,(b.atR act (.inRegion ops (i::rest)::k)).finish d=b.atR (act.put o.dst d) (.inRegion ops rest::k):=fun d=>by rw[Frame.finish_atR,hopi];rfl
 have hex:=H7 act.eval ho hf;cases f<;>simp only[vO]at hE<;>(try exact hE.elim)
 ·rename_i g first cap
  obtain⟨as,cs',e,h1,h2⟩:=hfv.fn_inv;have hargs:((as++(c.args.map act.eval).toList++cs').toArray)=(as.toArray++c.args.map act.eval)++cs'.toArray:=by simp
  have hran:=hE μ w (as++(c.args.map act.eval).toList++cs') ((h1.append hav).append h2) r;rw[hargs]at hran;have hex':execOp act.eval o=callFunc g ((as.toArray++c.args.map act.eval)++cs'.toArray):=by rw[hex,e];rfl
  clear hargs;generalize (as.toArray++c.args.map act.eval)++cs'.toArray=ar at hran hex';rcases hran with⟨d,w',hr,ha⟩|⟨hr,hent⟩
  ·exact⟨d,w',ha,.one (kW hopi hw hnd (by rw[hex'];exact hr) (.inl rfl))⟩
  ·obtain⟨d,w',fr,ha,hs,hfn,hk,hm,hd,fn,hff,hres⟩:=hent .normal (.inl rfl) (b.atR act (.inRegion ops (i::rest)::k)::cs);refine⟨d,w',ha,.head (m₁:=lone (Frame.enter P g ar .normal) (b.atR act (.inRegion ops (i::rest)::k)::cs) w) ?_ (Steps.trans hs (.one ?_))⟩
   ·refine step_lone_go ?_;rw[stepGR_op hopi hw,Oper.semAt_eq _ _ _ hnd,hex'];simp[stepG.apply,hr,Frame.atR]
   ·rw[← hfin];exact step_leave_returned ⟨hm,hd,hk,fn,hff,hres⟩
 ·rename_i l;generalize hfe:act.eval f0=fe at hfv;cases hfv with
  |yield hL =>
    rename_i L;obtain⟨g,tmps,asn,body,hy,hall⟩:=hE μ w _ _ hav r hL;obtain⟨d,w',ha,hs⟩:=hall (b.atR act (.inRegion ops (i::rest)::k)) cs;rw[hfin]at hs;refine⟨d,w',ha,.head ?_ hs⟩;refine step_lone_go ?_;have hex':execOp act.eval o=Instr.yield L.B (#[]++c.args.map act.eval):=by rw[hex,hfe];rfl
    rw[stepGR_op hopi hw,Oper.semAt_eq _ _ _ hnd,hex'];have hy':Sem.run P (Instr.yield L.B (#[]++c.args.map act.eval)) w=.ok (.round L.B g tmps asn body) w:=by
     rw[Array.toArray_toList]at hy;rw[Array.empty_append];exact hy
    generalize (#[]++c.args.map act.eval)=ar at hy';simp[stepG.apply,hy']
theorem Qu{io:IOp}{a:A}{K:V→A→H→Prop}(ho:ops[i]?=some o)(hw:Region.wanted o (yielded ops act.tmps)=true)(hd:io.dst=o.dst)(hdn:Cm n o.dst=true)(hc:cOp P n o.op=some io.k)
  (hnd:b.roundOf≠none→∀f a,io.k≠.h (.dfr f a)) (s:SR P n base μ a h act w) (hE:bF (Snd P) io a h K):
  ∃v a' h' act' μ' w',K v a' h'∧Steps P (lone (b.atR act (.inRegion ops (i::rest)::k)) cs w) (lone (b.atR act' (.inRegion ops rest::k)) cs w')∧St P μ h w μ' h' w'∧SR P n base μ' a' h' act' w':=by
 unfold bF at hE;cases hk:io.k with
 |p kk =>
   rw[hk]at hc hE;simp only at hE;cases he:kk.ev (Opd.ev a.t)with
   |none=>simp[he]at hE
   |some v =>
     simp only[he]at hE;obtain⟨d,hv,hr⟩:=NE (w:=w) hc s.rho he o rfl (fun f=>rfl);rw[hd]at hE;exact⟨v,_,h,_,μ,w,hE,.one (kW ho hw (kP hc (by intro f a e;cases e)) hr (.inl rfl)),St.refl s.rel,s.put hdn hv⟩
 |r kk =>
   rw[hk]at hc hE;simp only at hE;cases he:kk.ev (Opd.ev a.t) h with
   |none=>simp[he]at hE
   |some v =>
     simp only[he]at hE;obtain⟨d,hv,hr⟩:=Eh (w:=w) hc s.rho s.rel he o rfl (fun f=>rfl);rw[hd]at hE;exact⟨v,_,h,_,μ,w,hE,.one (kW ho hw (kP hc (by intro f a e;cases e)) hr (.inl rfl)),St.refl s.rel,s.put hdn hv⟩
 |a kk =>
   rw[hk]at hc hE;simp only at hE;cases he:kk.ev (Opd.ev a.t)with
   |none=>simp[he]at hE
   |some xf =>
     obtain⟨x,f⟩:=xf;simp only[he]at hE;obtain⟨d,w',μ',bb,hb,hbB,hv,hr,hst⟩:=Jy hc s.rho s.rel he o rfl;rw[hd]at hE;exact⟨f bb,_,_,_,μ',w',hE bb hb hbB,.one (kW ho hw (kP hc (by intro f a e;cases e)) hr (.inl rfl)),hst,(s.step hst).put hdn hv⟩
 |h kk =>
   rw[hk]at hc hE
   by_cases hp:kk.plain=true
   ·have hE':kk.E (Snd P) (Opd.ev a.t) h fun v h'=>K v {a with t:=put a.t io.dst v} h':=by
     cases kk<;>first|exact hE|cases hp
    obtain⟨nx,v,d,h',μ',w',hr,hnx,hK,hv,hst⟩:=LQ hc s.rho s.rel hp hE' o rfl (fun f=>rfl);rw[hd]at hK;exact⟨v,_,h',_,μ',w',hK,.one (kW ho hw (kP hc (by intro f a e;cases e;cases hp)) hr hnx),hst,(s.step hst).put hdn hv⟩
   ·cases kk<;>first|(exact absurd rfl hp)|skip
    ·rename_i f args;obtain⟨c,f0,hop,hcal,h1,h2⟩:=JO hc;simp only[HK.E]at hE;have hav:VRs μ (args.map (Opd.ev a.t)) (c.args.map act.eval).toList:=by
      have:=lU s.rho _ _ h2;simpa using this
     obtain⟨d,w',⟨v,h',μ',hK,hv,hst⟩,hs⟩:=EN (b:=b) (k:=k) (cs:=cs) (rest:=rest) s.rel ho hw hop hcal (aY s.rho h1) hav hE;rw[hd]at hK;exact⟨v,_,h',_,μ',w',hK,hs,hst,(s.step hst).put hdn hv⟩
    ·rename_i f args;obtain⟨c,f0,hop,hcal,h1,h2⟩:=OG hc;have hro:b.roundOf=none:=by
      cases e:b.roundOf with
      |none=>rfl
      |some l=>exact absurd hk (hnd (by rw[e];simp) f args)
     simp only at hE;cases hfe:f.ev a.t<;>simp only[hfe]at hE<;>(try exact hE.elim);rename_i g first cap
     have hfv:=aY s.rho h1;rw[hfe]at hfv;obtain⟨as,cs',e,q1,q2⟩:=hfv.fn_inv;have hav:VRs μ (args.map (Opd.ev a.t)) (c.args.map act.eval).toList:=by
      have:=lU s.rho _ _ h2;simpa using this
     rw[hd]at hE;refine⟨_,_,h,({act with defers:={target:=.fn (.func g) cs'.toArray,args:=as.toArray++(c.args.map act.eval).toList.toArray}::act.defers}:Act).put o.dst Go.undef,μ,w,hE,.one ?_,St.refl s.rel,?_⟩
     ·refine step_lone_go ?_;have hf:∀ds,({b.atR act (.inRegion ops (i::rest)::k)with defers:=ds}:Frame).finish Go.undef=b.atR (({act with defers:=ds}:Act).put o.dst Go.undef) (.inRegion ops rest::k):=fun ds=>by
       have:=Frame.finish_atR b {act with defers:=ds} ops i rest k Go.undef;rw[ho]at this;exact this
      have hex:(o.semAt b.roundOf act.eval).run P w=.ok (.defer {target:=.fn (.func g) cs'.toArray,args:=as.toArray++(c.args.map act.eval).toList.toArray}) w:=by
       rw[hro];obtain⟨dst,op,type,pos,after,guard⟩:=o;simp only at hop;subst hop;simp only[Oper.semAt,execOp,resolve,hcal,e,Deferred.ofValue];simp
      rw[stepGR_op ho hw];simp only[stepG.apply,Sem.runT_eq,if_true,hex,GStep.bare_after,← hf];rfl
     ·have s1:SR P n base μ {a with d:=(.fn g first cap,args.map (Opd.ev a.t))::a.d} h {act with defers:={target:=.fn (.func g) cs'.toArray,args:=as.toArray++(c.args.map act.eval).toList.toArray}::act.defers} w:=
       ⟨s.rel,s.t,.call q1 q2 hav s.d⟩
      exact s1.put hdn (.undef _)
end

end Mir
