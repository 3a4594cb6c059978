import Derived.Orders
import Derived.Test.YtkfbldogmgofoaaGreatDoorK6
set_option linter.unusedSimpArgs false
set_option linter.unusedVariables false
namespace Mir
section
open Go
variable{P:Program}{μ μ':Mu}{h h':H}{w w':World}{b:Nat}{o:AObj}
theorem R.isFin(r:R P μ h w):Fin h:=by
 obtain⟨N,hN⟩:=r.fin;refine⟨N,fun b hb=>?_⟩;cases e:h b with
 |none=>rfl
 |some o=>obtain⟨L,_,e',_⟩:=r.at_ b o e;rw[hN b hb]at e';cases e'
theorem fD(hb:h b=none):Sub h (hadd h b o):=fun c x hc=>cZ hb hc
theorem St.frame(hb:h b=none)(r:R P μ (hadd h b o) w)(st:St P μ h w μ' h' w'):h' b=none∧St P μ (hadd h b o) w μ' (hadd h' b o) w':=by
 obtain⟨L,x,hL,hx,hor⟩:=r.at_ b o (by simp[hadd,hset]);have hlt:L.B<w.heap.size:=(Array.getElem?_eq_some_iff.1 hx).1;have hno:¬Own μ h L.B:=by
  rintro⟨c,oc,Lc,hc,hro,hLc,e⟩;have hne:c≠b:=fun e=>by subst e;rw[hb]at hc;cases hc
  exact r.inj c b oc o Lc L (cZ hb hc) (by simp[hadd,hset]) hne hLc hL hro e
 have hb':h' b=none:=by
  cases e:h' b with
  |none=>rfl
  |some y =>
    rcases st.fresh b (by rw[e];simp)with e1|⟨e1,_⟩
    ·exact absurd hb e1
    ·rw[hL]at e1;cases e1
 have hown:∀B,Own μ h B→Own μ (hadd h b o) B:=fun B ⟨c,oc,Lc,hc,q⟩=>⟨c,oc,Lc,cZ hb hc,q⟩;have hLB:∀(c:Nat) (oc:AObj) (Lc:Loc),h' c=some oc→μ' c=some Lc→(o.ro=false∨oc.ro=false)→Lc.B≠L.B:=by
  intro c oc Lc hc hLc hro e;rcases st.fresh c (by rw[hc];simp)with e1|⟨e1,e2⟩
  ·cases e3:h c with
   |none=>exact e1 e3
   |some oc0 =>
     obtain⟨L0,_,hL0,_⟩:=r.at_ c oc0 (cZ hb e3);have e4:=st.le c L0 hL0;rw[hLc]at e4;cases e4;have hne:b≠c:=fun e=>by subst e;rw[hb]at e3;cases e3
     rcases hro with hro|hro
     ·exact r.inj b c o oc0 L Lc (by simp[hadd,hset]) (cZ hb e3) hne hL hL0 hro e.symm
     ·rcases st.own Lc.B ⟨c,oc,Lc,hc,hro,hLc,rfl⟩with e5|e5
      ·exact hno (e ▸ e5)
      ·rw[e]at e5;omega
  ·rcases e2 Lc hLc with e5|e5
   ·exact hno (e ▸ e5)
   ·rw[e]at e5;omega
 refine⟨hb',st.le,⟨st.rel.fin,fun c y hc=>?_,fun c c' y y' K K' hc hc' hne hK hK' hro=>?_,st.rel.glob,fun c y K z hc hK hz=>?_⟩,st.size,fun B hB hn=>st.kept B hB fun q=>hn (hown B q),fun B ⟨c,y,K,hc,hro,hK,e⟩=>?_,fun c hc=>?_,st.os,st.tape,st.output⟩
 ·by_cases e:c=b
  ·subst e;simp only[hadd,hset,if_true,Option.some.injEq]at hc;subst hc;exact⟨L,x,st.le _ _ hL,by rw[st.kept _ hlt hno];exact hx,hor.mono P st.le⟩
  ·rw[bZ e]at hc;exact st.rel.at_ c y hc
 ·by_cases e:c=b
  ·subst e;rw[bZ (Ne.symm hne)]at hc';simp only[hadd,hset,if_true,Option.some.injEq]at hc;subst hc;have:=st.le _ _ hL;rw[hK]at this;cases this;exact(hLB c' y' K' hc' hK' (.inl hro)).symm
  ·rw[bZ e]at hc
   by_cases e':c'=b
   ·subst e';have:=st.le _ _ hL;rw[hK']at this;cases this;exact hLB c y K hc hK (.inr hro)
   ·rw[bZ e']at hc';exact st.rel.inj c c' y y' K K' hc hc' hne hK hK' hro
 ·by_cases e:c=b
  ·subst e;have:=st.le _ _ hL;rw[hK]at this;cases this;rw[st.kept _ hlt hno]at hz;exact r.byt c o L z (by simp[hadd,hset]) hL hz
  ·rw[bZ e]at hc;exact st.rel.byt c y K z hc hK hz
 ·by_cases e1:c=b
  ·subst e1;simp only[hadd,hset,if_true,Option.some.injEq]at hc;subst hc;have:=st.le _ _ hL;rw[hK]at this;cases this;exact .inl ⟨c,o,L,by simp[hadd,hset],hro,hL,e⟩
  ·rw[bZ e1]at hc;rcases st.own B ⟨c,y,K,hc,hro,hK,e⟩with q|q
   ·exact .inl (hown B q)
   ·exact .inr q
 ·by_cases e1:c=b
  ·subst e1;exact .inl (by simp[hadd,hset])
  ·rw[bZ e1]at hc;rcases st.fresh c hc with q|⟨q1,q2⟩
   ·exact .inl (by rw[bZ e1];exact q)
   ·exact .inr ⟨q1,fun K hK=>(q2 K hK).imp (hown _) id⟩
theorem Jk{f:Nat}{args:List V}{Q:V→H→Prop}(hs:Snd P (.fn f) args h Q)(hb:h b=none):Snd P (.fn f) args (hadd h b o) fun v h''=>∃h',h' b=none∧h''=hadd h' b o∧Q v h':=by
 intro μ w args' hv r;refine(hs μ w args' hv (r.sub (fD hb))).mono fun d w' ⟨v,h',μ',q,hvd,st⟩=>?_;obtain⟨hb',st'⟩:=st.frame hb r;exact⟨v,_,μ',⟨h',hb',rfl,q⟩,hvd,st'⟩
theorem Qp{f:Nat}{args:List V}{Q:V→H→Prop}(hs:Snd P (.fn f) args h Q):Snd P (.fn f) args h fun v h'=>Fin h'∧Q v h':=fun μ w args' hv r =>
 (hs μ w args' hv r).mono fun d w' ⟨v,h',μ',q,hvd,st⟩=>⟨v,h',μ',⟨st.rel.isFin,q⟩,hvd,st⟩
theorem qf{k:Kind}(e:k.plainCall=true):∃g as,k=.h (.call (.c (.fn g [] [])) as):=by
 unfold Kind.plainCall at e;split at e
 ·exact⟨_,_,rfl⟩
 ·cases e
theorem dC:mF (Snd P):=fun c args h Q Q' hq a=>Snd.mono hq a
theorem mX{x:IOp}{W:Reads}{a:A}{K:Reads→A→H→Prop}{g:Nat}{as:List Opd}(hw:az a.t x.guard=true)(hk:x.k=.h (.call (.c (.fn g [] [])) as)):
  doE (Snd P) x W a h K↔aF a.t x.guard∧Snd P (.fn g) (as.map (Opd.ev a.t)) h fun v h'=>W.hold x.watch h'∧K W {a with t:=put a.t x.dst v} h':=by
 rw[J4 hw hk];unfold bF;rw[hk];simp only[HK.E,Opd.ev,vO,List.nil_append,List.append_nil]
def Ready(y:IOp)(a:A):Prop:=aF a.t y.guard∧(az a.t y.guard=true→match y.k with|.p k=>(k.ev (Opd.ev a.t)).isSome=true|.a k=>(k.ev (Opd.ev a.t)).isSome=true|_=>False)
theorem Ready.put{y:IOp}{a:A}{d:Option Nat}{v:V}(hb:y.blind d):Ready y {a with t:=put a.t d v}↔Ready y a:=by
 obtain⟨g1,g2⟩:=dY hb a.t v;have hops:=fO hb a.t v;unfold Ready;simp only[g1,g2];refine and_congr Iff.rfl ?_;cases hk:y.k with
 |p k=>rw[hk]at hops;simp only[Kind.opds]at hops;simp only[PK.congr hops]
 |a k=>rw[hk]at hops;simp only[Kind.opds]at hops;simp only[AK.congr hops]
 |r k=>exact Iff.rfl
 |h k=>exact Iff.rfl
theorem Ready.of_t{y:IOp}{a a':A}(e:a'.t=a.t)(r:Ready y a):Ready y a':=by
 unfold Ready at r⊢;rw[e];exact r
theorem Eg{call:CP}{y:IOp}{W:Reads}{a:A}{K:Reads→A→H→Prop}(hl:y.k.light=true)(hE:doE call y W a h K):Ready y a:=by
 unfold doE at hE;refine⟨hE.1,fun hw=>?_⟩;have h2:=hE.2;rw[if_pos hw]at h2;cases hk:y.k with
 |p k =>
   simp only[hk,bF]at h2;simp only;cases e:k.ev (Opd.ev a.t)with
   |none=>rw[e]at h2;exact h2.elim
   |some v=>rfl
 |a k =>
   simp only[hk,bF]at h2;simp only;cases e:k.ev (Opd.ev a.t)with
   |none=>rw[e]at h2;exact h2.elim
   |some v=>rfl
 |r k=>rw[hk]at hl;cases hl
 |h k=>rw[hk]at hl;cases hl
theorem Jn{x y:IOp}(hs:x.lets y=true){W:Reads}{a:A}{K:Reads→A→H→Prop}(hr:Ready y a)
  (hE:doE (Snd P) x W a h fun W1 a1 h1=>doE (Snd P) y W1 a1 h1 K):doE (Snd P) y W a h fun W1 a1 h1=>doE (Snd P) x W1 a1 h1 K:=by
 simp only[IOp.lets,Bool.and_eq_true]at hs;obtain⟨⟨hpc,hap⟩,hl⟩:=hs;obtain⟨hyx,hxy,hn⟩:=apart_spec hap;have hn':∀z,y.dst=some z→x.dst≠some z:=fun z e e'=>hn z e' e;obtain⟨g,as,hk⟩:=qf hpc
 by_cases hw:az a.t x.guard=true
 ·rw[mX hw hk]at hE;obtain⟨gx,hS⟩:=hE
  by_cases hwy:az a.t y.guard=true
  ·have h2:=hr.2 hwy;cases hky:y.k with
   |p k =>
     rw[hky]at h2;simp only at h2;obtain⟨vy,e⟩:=Option.isSome_iff_exists.1 h2;refine(lX hwy hky).2 ⟨hr.1,vy,e,?_⟩;rw[gW dC hxy hn',mX hw hk];refine⟨gx,Snd.mono (fun v h' q=>⟨q.1,?_⟩) hS⟩;have q2:=q.2;rw[gW dC hyx hn]at q2;obtain⟨_,v',e',q3⟩:=(lX hwy hky).1 q2;rw[e]at e';cases e';simp only at q3⊢;rw[put_comm a.t hn];exact q3
   |a k =>
     rw[hky]at h2;simp only at h2;obtain⟨⟨x0,f⟩,e⟩:=Option.isSome_iff_exists.1 h2;refine(rf hwy hky).2 ⟨hr.1,x0,f,e,fun b hb hB=>?_⟩;rw[gW dC hxy hn',mX hw hk];refine⟨gx,Snd.mono (fun v h'' q=>?_) (Jk hS hb)⟩;obtain⟨h',hb',rfl,q1,q2⟩:=q;refine⟨fun z hz hz2=>z.2.1.2 _ _ _ _ hb' (q1 z hz hz2),?_⟩;rw[gW dC hyx hn]at q2;obtain⟨_,x0',f',e',q3⟩:=(rf hwy hky).1 q2;rw[e]at e';cases e';have q4:=q3 b hb' hB;simp only at q4⊢;rw[put_comm a.t hn];exact q4
   |r k=>rw[hky]at hl;cases hl
   |h k=>rw[hky]at hl;cases hl
  ·refine(eU hwy).2 ⟨hr.1,?_⟩;rw[gW dC hxy hn',mX hw hk];refine⟨gx,Snd.mono (fun v h' q=>⟨q.1,?_⟩) hS⟩;have q2:=q.2;rw[gW dC hyx hn]at q2;have q3:=((eU hwy).1 q2).2;simp only at q3⊢;rw[put_comm a.t hn];exact q3
 ·obtain⟨gx,h2⟩:=(eU hw).1 hE;rw[gW dC hyx hn]at h2;refine iW dC (fun W1 a1 h1 q=>?_) (iY dC h2);obtain⟨⟨u,hu⟩,_,q⟩:=q;obtain⟨g1,g2⟩:=dY hxy a.t u;exact(eU (by rw[hu,g1];exact hw)).2 ⟨by rw[hu];exact g2.2 gx,q⟩
theorem OH{x:IOp}{W:Reads}{a:A}{K:Reads→A→H→Prop}(hx:x.k.heavy=false∨x.k.plainCall=true)(hf:Fin h)(hE:doE (Snd P) x W a h K):
  doE (Snd P) x W a h fun W1 a1 h1=>(∃u,a1.t=put a.t x.dst u)∧Fin h1∧K W1 a1 h1:=by
 rcases hx with hx|hx
 ·exact iW dC (fun W1 a1 h1 q=>⟨q.1,q.2.1 hx hf,q.2.2⟩) (iY dC hE)
 ·obtain⟨g,as,hk⟩:=qf hx
  by_cases hw:az a.t x.guard=true
  ·rw[mX hw hk]at hE⊢;exact⟨hE.1,Snd.mono (fun v h' q=>⟨q.2.1,⟨v,rfl⟩,q.1,q.2.2⟩) (Qp hE.2)⟩
  ·obtain⟨g,q⟩:=(eU hw).1 hE;exact(eU hw).2 ⟨g,⟨_,rfl⟩,hf,q⟩
theorem jF{x y:IOp}(h:x.swaps y=true∨x.lets y=true):y.blind x.dst:=by
 rcases h with h|h
 ·simp only[IOp.swaps,Bool.and_eq_true]at h;exact(apart_spec h.1.2).1
 ·simp only[IOp.lets,Bool.and_eq_true]at h;exact(apart_spec h.1.2).1
theorem MC{x y:IOp}(h:x.swaps y=true∨x.lets y=true):x.k.heavy=false∨x.k.plainCall=true:=by
 rcases h with h|h
 ·simp only[IOp.swaps,Bool.and_eq_true,Bool.not_eq_true']at h;exact .inl h.1.1
 ·simp only[IOp.lets,Bool.and_eq_true]at h;exact .inr h.1.1
theorem Fb{y:IOp}{post:List IOp}{K:A→H→Prop}:∀(pre:List IOp) {W:Reads} {a:A} {h:H},(∀x∈pre,x.swaps y=true∨x.lets y=true)→Fin h→Ready y a→aT (Snd P) (pre++y::post) W a h K →
  doE (Snd P) y W a h fun W' a' h'=>aT (Snd P) (pre++post) W' a' h' K
 |[],W,a,h,_,_,_,hE=>by rw[List.nil_append,dB]at hE;exact hE
 |x::pre,W,a,h,hs,hf,hr,hE=>by
   rw[List.cons_append,dB]at hE;have hx:=hs x (by simp);have h2:doE (Snd P) x W a h fun W1 a1 h1=>doE (Snd P) y W1 a1 h1 fun W2 a2 h2=>aT (Snd P) (pre++post) W2 a2 h2 K:=
    iW dC (fun W1 a1 h1 q=>by
     obtain⟨⟨u,hu⟩,hf1,q⟩:=q;exact Fb pre (fun z hz=>hs z (by simp[hz])) hf1 (Ready.of_t (a:={a with t:=put a.t x.dst u}) hu ((Ready.put (jF hx)).2 hr)) q) (OH (MC hx) hf hE)
   have h3:doE (Snd P) y W a h fun W1 a1 h1=>doE (Snd P) x W1 a1 h1 fun W2 a2 h2=>aT (Snd P) (pre++post) W2 a2 h2 K:=by
    rcases hx with hx|hx
    ·exact swap dC hx hf (fun W W' a h hs=>lm dC hs fun _ _=>id) h2
    ·exact Jn hx hr h2
   exact iW dC (fun W1 a1 h1 q=>by rw[List.cons_append,dB];exact q) h3
end
section
open Go
variable{P:Program}{μ μ':Mu}{h h':H}{w w':World}{n base:Nat}{b:Frame}{act:Act}{k:List Item}{cs:List Frame}{ops:Array Oper}{i:Nat}{rest:List Nat}{o:Oper}
theorem ja:mF (Snd P):=fun c args h Q Q' hq a=>Snd.mono hq a
theorem R.Fin(r:R P μ h w):Fin h:=by
 obtain⟨N,hN⟩:=r.fin;refine⟨N,fun b hb=>?_⟩;cases e:h b with
 |none=>rfl
 |some o=>obtain⟨L,_,e',_⟩:=r.at_ b o e;rw[hN b hb]at e';cases e'
def Fit(P:Program)(n:Nat)(ops:Array Oper)(i:Nat)(io:IOp):Prop:=
 ∃o,ops[i]?=some o∧io.dst=o.dst∧Cm n o.dst=true∧Ae n ops o.guard=some io.guard∧(cOp P n o.op=some io.k∨io.k=N9)
theorem Hu{io:IOp}(ho:ops[i]?=some o)(hc:Gm P n ops o=some io):Fit P n ops i io:=by
 unfold Gm at hc;split at hc
 ·rename_i g hg;split at hc
  ·rename_i hd;cases hc;refine⟨o,ho,rfl,hd,hg,?_⟩;cases hk:cOp P n o.op with
   |none=>exact .inr rfl
   |some k=>exact .inl rfl
  ·cases hc
 ·cases hc
theorem GY{l:List IOp}(hd:AV l=false):∀io∈l,∀f a,io.k≠.h (.dfr f a):=by
 induction l with
 |nil=>simp
 |cons o l ih =>
   simp only[AV,Bool.or_eq_false_iff]at hd;intro io hio f a e;rcases List.mem_cons.1 hio with rfl|hio
   ·have:=hd.1;rw[e]at this;cases this
   ·exact ih hd.2 io hio f a e
theorem vF{io:IOp}{a:A}(hf:Fit P n ops i io)(s:SR P n base μ a h act w)(hg:aF a.t io.guard)(hw:¬az a.t io.guard=true):
  ∃act',Steps P (lone (b.atR act (.inRegion ops (i::rest)::k)) cs w) (lone (b.atR act' (.inRegion ops rest::k)) cs w)∧SR P n base μ {a with t:=put a.t io.dst (.tup [])} h act' w:=by
 obtain⟨o,ho,hd,hdn,hgu,hc⟩:=hf;have hwd:=nG s hgu hg;refine⟨act.put o.dst Go.undef,.one ?_,by rw[hd];exact s.put hdn yj⟩;have:=stepR_op_skip (P:=P) (b:=b) (a:=act) (k:=k) (cs:=cs) (w:=w) (ops:=ops) (i:=i) (rest:=rest) (by
  simp only[ho,Option.map_some,Option.getD_some,hwd];simpa using hw)
 rw[ho]at this;exact this
theorem jc{io:IOp}{a:A}{K:V→A→H→Prop}(hf:Fit P n ops i io)(s:SR P n base μ a h act w)(hg:aF a.t io.guard)(hw:az a.t io.guard=true)
  (hnd:b.roundOf≠none→∀f a,io.k≠.h (.dfr f a)) (hE:bF (Snd P) io a h K):
  ∃v a' h' act' μ' w',K v a' h'∧Steps P (lone (b.atR act (.inRegion ops (i::rest)::k)) cs w) (lone (b.atR act' (.inRegion ops rest::k)) cs w')∧St P μ h w μ' h' w'∧SR P n base μ' a' h' act' w':=by
 obtain⟨o,ho,hd,hdn,hgu,hc⟩:=hf;have hwd:=nG s hgu hg;rcases hc with hc|hc
 ·exact Qu ho (hwd.trans hw) hd hdn hc hnd s hE
 ·exfalso;unfold bF at hE;rw[hc]at hE;exact hE
theorem pJ{io:IOp}{W:Reads}{a:A}{K:Reads→A→H→Prop}(hf:Fit P n ops i io)(s:SR P n base μ a h act w)
  (hnd:b.roundOf≠none→∀f a,io.k≠.h (.dfr f a)) (hE:doE (Snd P) io W a h K):
  ∃W' a' h' act' μ' w',K W' a' h'∧Steps P (lone (b.atR act (.inRegion ops (i::rest)::k)) cs w) (lone (b.atR act' (.inRegion ops rest::k)) cs w')∧St P μ h w μ' h' w'∧SR P n base μ' a' h' act' w':=by
 by_cases hw:az a.t io.guard=true
 ·unfold doE at hE;obtain⟨hg,h2⟩:=hE;rw[if_pos hw]at h2;split at h2
  ·obtain⟨v,a',h',act',μ',w',hK,r⟩:=jc hf s hg hw hnd h2;exact⟨_,a',h',act',μ',w',hK,r⟩
  ·obtain⟨v,a',h',act',μ',w',hK,r⟩:=jc hf s hg hw hnd h2;exact⟨_,a',h',act',μ',w',hK.2,r⟩
  ·obtain⟨v,a',h',act',μ',w',hK,r⟩:=jc hf s hg hw hnd h2;exact⟨_,a',h',act',μ',w',hK,r⟩
 ·obtain⟨hg,h2⟩:=(eU hw).1 hE;obtain⟨act',hs,hr⟩:=vF (b:=b) (k:=k) (cs:=cs) (rest:=rest) hf s hg hw;exact⟨_,_,_,act',μ,w,h2,hs,St.refl s.rel,hr⟩
theorem tX:∀(l:List IOp) (is:List Nat) {a:A} {h:H} {act:Act} {μ:Mu} {w:World} {K:A→H→Prop},All2 (Fit P n ops) is l→(b.roundOf≠none→∀io∈l,∀f a,io.k≠.h (.dfr f a))→SR P n base μ a h act w→opsE (Snd P) l a h K →
  ∃a' h' act' μ' w',K a' h'∧Steps P (lone (b.atR act (.inRegion ops is::k)) cs w) (lone (b.atR act' k) cs w')∧St P μ h w μ' h' w'∧SR P n base μ' a' h' act' w'
 |[],is,a,h,act,μ,w,K,hf,_,s,hE=>by
   cases hf;exact⟨a,h,act,μ,w,hE,.one stepR_region_end,St.refl s.rel,s⟩
 |io::l,is,a,h,act,μ,w,K,hf,hnd,s,hE=>by
   cases hf with
   |cons hf1 hf2 =>
     simp only[opsE]at hE;obtain⟨hg,h2⟩:=hE
     by_cases hw:az a.t io.guard=true
     ·rw[if_pos hw]at h2;obtain⟨v,a',h',act',μ',w',hK,hs,hst,hr⟩:=jc (b:=b) (k:=k) (cs:=cs) hf1 s hg hw (fun hb=>hnd hb io (by simp)) h2;obtain⟨a2,h2,act2,μ2,w2,hK2,hs2,hst2,hr2⟩:=tX l _ hf2 (fun hb x hx=>hnd hb x (by simp[hx])) hr hK;exact⟨a2,h2,act2,μ2,w2,hK2,Steps.trans hs hs2,hst.trans hst2,hr2⟩
     ·rw[if_neg hw]at h2;obtain⟨act',hs,hr⟩:=vF (b:=b) (k:=k) (cs:=cs) hf1 s hg hw;obtain⟨a2,h2,act2,μ2,w2,hK2,hs2,hst2,hr2⟩:=tX l _ hf2 (fun hb x hx=>hnd hb x (by simp[hx])) hr h2;exact⟨a2,h2,act2,μ2,w2,hK2,Steps.trans hs hs2,hst2,hr2⟩
def jT(ops:Array Oper)(M:List Nat):Prop:=
 ∀i o,ops[i]?=some o→∀j,ordered M j i=true→∃e∈o.after,Region.binds .any e=true∧(j=e.on∨ordered M j e.on=true)
def gQ(ops:Array Oper):Prop:=∀i o,ops[i]?=some o→∀e∈o.after,Region.binds .any e=true→e.on<i
def Down(ops:Array Oper)(listed:Array Bool):Prop:=
 listed.size=ops.size∧∀i o,ops[i]?=some o→listed.getD i false=true→∀e∈o.after,Region.binds .any e=true→listed.getD e.on false=true
structure Told(P:Program)(n:Nat)(ops:Array Oper)(M:List Nat)(listed:Array Bool)(told:List IOp):Prop where
 nodup:(told.map (·.id)).Nodup
 fit:∀io∈told,io.id<ops.size∧listed.getD io.id true=false∧Fit P n ops io.id io
 all:∀i,i<ops.size→listed.getD i true=false→∃io∈told,io.id=i
 pairs:told.Pairwise fun x y=>ordered M x.id y.id=true∨x.swaps y=true∨x.lets y=true
theorem nU{M:List Nat}{listed:Array Bool}(hM:jT ops M)(hE:gQ ops)(hD:Down ops listed):∀(i:Nat) (j:Nat),listed.getD i false=true→ordered M j i=true→listed.getD j false=true:=by
 intro i;induction i using Nat.strongRecOn with
 |_ i ih =>
   intro j hi hj;have hlt:i<ops.size:=by
    rcases Nat.lt_or_ge i ops.size with h|h
    ·exact h
    ·rw[← hD.1]at h;simp[Array.getElem?_eq_none h]at hi
   have ho:ops[i]?=some ops[i]:=Array.getElem?_eq_getElem hlt;obtain⟨e,he,hb,hje⟩:=hM i _ ho j hj;have hon:=hD.2 i _ ho hi e he hb;rcases hje with rfl|hje
   ·exact hon
   ·exact ih e.on (hE i _ ho e he hb) j hon hje
theorem qG{M:List Nat}{listed:Array Bool}(hM:jT ops M)(hE:gQ ops)(hD:Down ops listed){i j:Nat}(hr:i∈Region.ready .any ops listed)(hj:ordered M j i=true):listed.getD j false=true:=by
 obtain⟨_,o,ho,hall⟩:=mem_ready.1 hr;obtain⟨e,he,hb,hje⟩:=hM i _ ho j hj;have hon:=hall e he hb;rcases hje with rfl|hje
 ·exact hon
 ·exact nU hM hE hD _ _ hon hje
theorem rM{listed:Array Bool}{i:Nat}(h:i<listed.size):listed.getD i true=listed.getD i false:=by simp[h]
theorem qJ{listed:Array Bool}(hE:gQ ops)(hD:Down ops listed):∀i,i<ops.size→listed.getD i true=false→Region.ready .any ops listed≠[]:=by
 intro i;induction i using Nat.strongRecOn with
 |_ i ih =>
   intro hi hu;have ho:ops[i]?=some ops[i]:=Array.getElem?_eq_getElem hi
   by_cases hall:∀e∈(ops[i]).after,Region.binds .any e=true→listed.getD e.on false=true
   ·intro hnil;have:i∈Region.ready .any ops listed:=mem_ready.2 ⟨hu,_,ho,hall⟩;rw[hnil]at this;cases this
   ·simp only[Classical.not_forall]at hall;obtain⟨e,he,hb,hne⟩:=hall;have hlt:=hE i _ ho e he hb;refine ih e.on hlt (by omega) ?_;rw[rM (by rw[hD.1];omega)];simpa using hne
theorem Told.nil_of{M:List Nat}{listed:Array Bool}{told:List IOp}(hT:Told P n ops M listed told)(hE:gQ ops)(hD:Down ops listed)(hr:Region.ready .any ops listed=[]):told=[]:=by
 cases told with
 |nil=>rfl
 |cons io l =>
   obtain⟨h1,h2,_⟩:=hT.fit io (by simp);exact absurd hr (qJ hE hD _ h1 h2)
theorem zB{y:IOp}{post:List IOp}{K:A→H→Prop}(hl:y.k.light=true):∀(pre:List IOp) {W:Reads} {a:A} {h:H} {act:Act} {μ:Mu} {w:World},(∀x∈pre,x.swaps y=true∨x.lets y=true)→(∀x∈pre,Fit P n ops x.id x) →
  (b.roundOf≠none→∀x∈pre,∀f a,x.k≠.h (.dfr f a))→SR P n base μ a h act w→aT (Snd P) (pre++y::post) W a h K→Ready y a
 |[],W,a,h,act,μ,w,_,_,_,_,hE=>by rw[List.nil_append,dB]at hE;exact Eg hl hE
 |x::pre,W,a,h,act,μ,w,hs,hF,hnd,s,hE=>by
   rw[List.cons_append,dB]at hE;obtain⟨W',a',h',act',μ',w',⟨⟨u,hu⟩,_,hK⟩,_,_,hr⟩:=pJ (b:=b) (k:=[]) (cs:=[]) (rest:=[]) (hF x (by simp)) s (fun hb=>hnd hb x (by simp)) (iY ja hE);have h1:=zB hl pre (fun z hz=>hs z (by simp[hz])) (fun z hz=>hF z (by simp[hz])) (fun hb z hz=>hnd hb z (by simp[hz])) hr hK;exact(Ready.put (jF (hs x (by simp)))).1 (Ready.of_t (a:=a') (a':={a with t:=put a.t x.dst u}) hu.symm h1)
theorem qm{M:List Nat}(hM:jT ops M)(hE:gQ ops){K:A→H→Prop}:∀(fuel t:Nat) (listed:Array Bool) (told:List IOp) {W:Reads} {a:A} {h:H} {act:Act} {μ:Mu} {w:World},told.length≤fuel→Told P n ops M listed told→Down ops listed →
  (b.roundOf≠none→∀io∈told,∀f a,io.k≠.h (.dfr f a))→SR P n base μ a h act w→aT (Snd P) told W a h K →
  ∃a' h' act' μ' w',K a' h'∧Steps P (lone (b.atR act (.inRegion ops (Region.linearise.go .any ops fuel t listed [])::k)) cs w) (lone (b.atR act' k) cs w')∧St P μ h w μ' h' w'∧SR P n base μ' a' h' act' w':=by
 intro fuel;induction fuel with
 |zero =>
   intro t listed told W a h act μ w hl hT hD hnd s hd;have:told=[]:=List.length_eq_zero_iff.1 (by omega);subst this;exact⟨a,h,act,μ,w,hd,.one (by simp only[Region.linearise.go,List.reverse_nil];exact stepR_region_end),St.refl s.rel,s⟩
 |succ fuel ih =>
   intro t listed told W a h act μ w hl hT hD hnd s hd;have hgo:Region.linearise.go .any ops (fuel+1) t listed []=match (Region.ready .any ops listed)[t % (Region.ready .any ops listed).length]? with
    |some i=>Region.linearise.go .any ops fuel (t / (Region.ready .any ops listed).length) (listed.setIfInBounds i true) [i]
    |none=>[].reverse:=rfl
   cases hi:(Region.ready .any ops listed)[t % (Region.ready .any ops listed).length]? with
   |none =>
     have hnil:Region.ready .any ops listed=[]:=by
      cases hr:Region.ready .any ops listed with
      |nil=>rfl
      |cons x xs =>
        rw[hr]at hi;have hlt:t % (x::xs).length<(x::xs).length:=Nat.mod_lt _ (by simp);simp at hi;simp at hlt;omega
     have:=hT.nil_of hE hD hnil;subst this;refine⟨a,h,act,μ,w,hd,.one ?_,St.refl s.rel,s⟩;rw[hgo,hi];exact stepR_region_end
   |some i =>
     have hir:i∈Region.ready .any ops listed:=List.mem_of_getElem? hi;obtain⟨hun,o,ho,hall⟩:=mem_ready.1 hir;have hlt:i<ops.size:=(Array.getElem?_eq_some_iff.1 ho).1;obtain⟨io,hio,hid⟩:=hT.all i hlt hun;obtain⟨pre,post,rfl⟩:=List.append_of_mem hio;have hpw:=List.pairwise_append.1 hT.pairs;have hsw:∀x∈pre,x.swaps io=true∨x.lets io=true:=fun x hx=>by
      rcases hpw.2.2 x hx io (by simp)with h|h
      ·rw[hid]at h;have h1:=qG hM hE hD hir h;obtain⟨h2,h3,_⟩:=hT.fit x (by simp[hx]);rw[rM (by rw[hD.1];exact h2),h1]at h3;cases h3
      ·exact h
     have hfr:doE (Snd P) io W a h fun W' a' h'=>aT (Snd P) (pre++post) W' a' h' K:=by
      by_cases hli:io.k.light=true
      ·exact Fb pre hsw s.rel.Fin (zB (b:=b) hli pre hsw (fun x hx=>(hT.fit x (by simp[hx])).2.2) (fun hb x hx=>hnd hb x (by simp[hx])) s hd) hd
      ·exact front ja pre (fun x hx=>(hsw x hx).resolve_right fun e=>hli (by simp only[IOp.lets,Bool.and_eq_true]at e;exact e.2)) s.rel.Fin hd
     obtain⟨_,_,hfit⟩:=hT.fit io (by simp);rw[hid]at hfit;obtain⟨W',a',h',act',μ',w',hK,hs,hst,hr⟩:=pJ (b:=b) (k:=k) (cs:=cs) (rest:=Region.linearise.go .any ops fuel (t / (Region.ready .any ops listed).length) (listed.setIfInBounds i true) []) hfit s (fun hb=>hnd hb io (by simp)) hfr;have hnd':=hT.nodup;rw[List.map_append,List.map_cons]at hnd';have hT':Told P n ops M (listed.setIfInBounds i true) (pre++post):=by
      have hsub:(pre++post).Sublist (pre++io::post):=List.Sublist.append_left (List.sublist_cons_self _ _) _;have hne:∀x∈pre++post,x.id≠i:=by
       have h1:=(List.nodup_append.1 hnd');intro x hx e;rw[← hid]at e;rcases List.mem_append.1 hx with hx|hx
       ·exact h1.2.2 _ (List.mem_map.2 ⟨x,hx,rfl⟩) _ (List.mem_cons_self ..) e
       ·exact(List.nodup_cons.1 h1.2.1).1 (e ▸ List.mem_map.2 ⟨x,hx,rfl⟩)
      refine⟨(hsub.map _).nodup hT.nodup,fun x hx=>?_,fun j hj hu=>?_,hT.pairs.sublist hsub⟩
      ·obtain⟨h1,h2,h3⟩:=hT.fit x (hsub.subset hx);exact⟨h1,by rw[getD_set_ne true (Ne.symm (hne x hx))];exact h2,h3⟩
      ·have hji:i≠j:=fun e=>by
        subst e;have:i<listed.size:=by rw[hD.1];exact hj
        simp[this]at hu
       rw[getD_set_ne true hji]at hu;obtain⟨x,hx,hxj⟩:=hT.all j hj hu;rcases List.mem_append.1 hx with hx|hx
       ·exact⟨x,List.mem_append_left _ hx,hxj⟩
       ·rcases List.mem_cons.1 hx with rfl|hx
        ·exact absurd (hid.symm.trans hxj) hji
        ·exact⟨x,List.mem_append_right _ hx,hxj⟩
     have hD':Down ops (listed.setIfInBounds i true):=by
      refine⟨by simp[hD.1],fun j oj hoj hl e he hb=>getD_set_true ?_⟩
      by_cases hji:i=j
      ·subst hji;rw[ho]at hoj;cases hoj;exact hall e he hb
      ·rw[getD_set_ne false hji]at hl;exact hD.2 j oj hoj hl e he hb
     obtain⟨a2,h2,act2,μ2,w2,hK2,hs2,hst2,hr2⟩:=ih (t / (Region.ready .any ops listed).length) (listed.setIfInBounds i true) (pre++post) (by simp at hl⊢;omega) hT' hD' (fun hb x hx=>hnd hb x (by
      rcases List.mem_append.1 hx with hx|hx
      ·exact List.mem_append_left _ hx
      ·exact List.mem_append_right _ (List.mem_cons_of_mem _ hx))) hr hK
     refine⟨a2,h2,act2,μ2,w2,hK2,?_,hst.trans hst2,hr2⟩;rw[hgo,hi];simp only;rw[linearise_go_acc,List.reverse_singleton,List.singleton_append];exact Steps.trans hs hs2
end
section
open Go
variable{P:Program}{n:Nat}{ops:Array Oper}
theorem uo:∀{os:List Oper} {l:List IOp},mQ P n ops os=some l→All2 (fun o io=>Gm P n ops o=some io) os l
 |[],l,hc=>by simp only[mQ]at hc;cases hc;exact .nil
 |o::os,l,hc=>by
   simp only[mQ]at hc;split at hc
   ·rename_i h1 h2;cases hc;exact .cons h1 (uo h2)
   ·cases hc
theorem All2.getR'{α β:Type}{R:α→β→Prop}{as:List α}{bs:List β}(h:All2 R as bs):∀{i:Nat} {b:β},bs[i]?=some b→∃a,as[i]?=some a∧R a b:=by
 induction h with
 |nil=>intro i b h;simp at h
 |cons h _ ih =>
   intro i b hi;cases i with
   |zero=>simp at hi;subst hi;exact⟨_,by simp,h⟩
   |succ i=>simp at hi;obtain⟨a,ha,hr⟩:=ih hi;exact⟨a,by simpa using ha,hr⟩
theorem BA{l:List IOp}(hc:mQ P n ops ops.toList=some l):All2 (Fit P n ops) (List.range ops.size) l:=by
 have h:=uo hc;refine All2.of_get (by rw[← h.len];simp) fun i j io hj hio=>?_;obtain⟨o,ho,hco⟩:=h.getR' hio;have hlt:i<(List.range ops.size).length:=(List.getElem?_eq_some_iff.1 hj).1;rw[List.length_range]at hlt;rw[List.getElem?_range hlt]at hj;cases hj;exact Hu (by rw[← Array.getElem?_toList];exact ho) hco
theorem jX:∀(l:List IOp) (s i:Nat),(numbered l s)[i]?=(l[i]?).map fun o=>{o with id:=s+i}
 |[],s,i=>by simp[numbered]
 |o::l,s,i=>by
   cases i with
   |zero=>simp[numbered]
   |succ i=>simp[numbered,jX l (s+1) i];congr 1;funext o;congr 1;omega
theorem sK(M:List Nat)(l:List IOp)(o:IOp):(watched M l o).dst=o.dst∧(watched M l o).guard=o.guard∧(watched M l o).k=o.k∧(watched M l o).id=o.id:=by
 unfold watched;split<;>exact⟨rfl,rfl,rfl,rfl⟩
theorem qE:∀{l:List Nat},nodup l=true→l.Nodup
 |[],_=>List.nodup_nil
 |x::l,h=>by
   simp only[nodup,Bool.and_eq_true,Bool.not_eq_true']at h;exact List.nodup_cons.2 ⟨by simpa using h.1,qE h.2⟩
theorem qF{M:List Nat}:∀{l:List IOp},rY M l=true→l.Pairwise fun x y=>ordered M x.id y.id=true∨x.swaps y=true∨x.lets y=true
 |[],_=>.nil
 |x::l,h=>by
   simp only[rY,Bool.and_eq_true,List.all_eq_true,Bool.or_eq_true]at h;exact .cons (fun y hy=>(h.1 y hy).2) (qF h.2)
theorem qo:∀{os:List Oper} {s:Nat},rq os s=true→∀(i:Nat) o,os[i]?=some o→∀e∈o.after,Region.binds .any e=true→e.on<s+i
 |[],s,_,i,o,ho=>by simp at ho
 |x::os,s,h,i,o,ho=>by
   simp only[rq,Bool.and_eq_true,List.all_eq_true,Bool.or_eq_true,Bool.not_eq_true',decide_eq_true_eq]at h;intro e he hb;cases i with
   |zero =>
     simp at ho;subst ho;rcases h.1 e (by simpa using he)with h|h
     ·rw[hb]at h;cases h
     ·omega
   |succ i =>
     have:=qo h.2 i o (by simpa using ho) e he hb;omega
theorem Dn(M:List Nat)(j:Nat):∀(l:List Edge) (s:Nat),(l.foldl (fun s e=>if Region.binds .any e then s ||| 2 ^ e.on ||| M.getD e.on 0 else s) s).testBit j=true →
  s.testBit j=true∨∃e∈l,Region.binds .any e=true∧(j=e.on∨(M.getD e.on 0).testBit j=true)
 |[],s,h=>.inl h
 |e::l,s,h=>by
   rw[List.foldl_cons]at h;rcases Dn M j l _ h with h|⟨e',he',r⟩
   ·by_cases hb:Region.binds .any e=true
    ·rw[if_pos hb,Nat.testBit_or,Nat.testBit_or,Bool.or_eq_true,Bool.or_eq_true,Nat.testBit_two_pow,decide_eq_true_eq]at h;rcases h with(h|h)|h
     ·exact .inl h
     ·exact .inr ⟨e,by simp,hb,.inl h.symm⟩
     ·exact .inr ⟨e,by simp,hb,.inr h⟩
    ·rw[if_neg hb]at h;exact .inl h
   ·exact .inr ⟨e',List.mem_cons_of_mem _ he',r⟩
theorem zg:∀(os:List Oper) (M:List Nat),∃N,masks os M=M++N
 |[],M=>⟨[],by simp[masks]⟩
 |o::os,M=>by
   obtain⟨N,h⟩:=zg os (M++[tK M o]);exact⟨tK M o::N,by rw[masks,h,List.append_assoc];rfl⟩
theorem wZ:∀(os:List Oper) (M:List Nat) (i:Nat) o,os[i]?=some o→∃N,(masks os M).getD (M.length+i) 0=tK ((masks os M).take N) o
 |[],M,i,o,ho=>by simp at ho
 |x::os,M,i,o,ho=>by
   cases i with
   |zero =>
     simp at ho;subst ho;obtain⟨N,h⟩:=zg os (M++[tK M x]);refine⟨M.length,?_⟩;rw[masks,h];simp[List.getD_eq_getElem?_getD,List.append_assoc]
   |succ i =>
     obtain⟨N,h⟩:=wZ os (M++[tK M x]) i o (by simpa using ho);refine⟨N,?_⟩;rw[masks,← h,List.length_append,List.length_singleton];congr 1;omega
theorem Oa{M:List Nat}{N x j:Nat}(h:((M.take N).getD x 0).testBit j=true):(M.getD x 0).testBit j=true:=by
 rw[List.getD_eq_getElem?_getD]at h⊢;rw[List.getElem?_take]at h;split at h
 ·exact h
 ·simp at h
theorem GV:jT ops (masks ops.toList []):=by
 intro i o ho j hj;obtain⟨N,hN⟩:=wZ ops.toList [] i o (by rw[Array.getElem?_toList];exact ho);simp only[List.length_nil,Nat.zero_add]at hN;unfold ordered at hj;rw[hN]at hj;rcases Dn _ j _ _ hj with h|⟨e,he,hb,hje⟩
 ·simp at h
 ·refine⟨e,by simpa using he,hb,?_⟩;rcases hje with h|h
  ·exact .inl h
  ·exact .inr (Oa h)
theorem yf(l:List IOp)(hl:∀(i:Nat) io,l[i]?=some io→io.id=i):∀(order:List Nat),(∀i∈order,i<l.length)→(order.filterMap fun i=>l[i]?).map (·.id)=order
 |[],_=>rfl
 |x::order,h=>by
   have hx:x<l.length:=h x (by simp);rw[List.filterMap_cons,List.getElem?_eq_getElem hx];simp only[List.map_cons];rw[yf l hl order fun i hi=>h i (by simp[hi]),hl x _ (List.getElem?_eq_getElem hx)]
theorem EL{told:List IOp}(hc:JI P n ops=some told):
  gQ ops∧jT ops (masks ops.toList [])∧Told P n ops (masks ops.toList []) (Array.replicate ops.size false) told∧told.length≤ops.size:=by
 unfold JI at hc;split at hc
 ·cases hc
 ·rename_i l0 hl0;simp only at hc;split at hc
  ·rename_i hchk;simp only[Bool.and_eq_true,List.all_eq_true,decide_eq_true_eq]at hchk;obtain⟨⟨⟨⟨⟨hE,hn⟩,hall⟩,hle⟩,hlt⟩,hp⟩:=hchk;have hfit:=BA hl0;generalize hl:(numbered l0 0).map (watched (masks ops.toList []) (numbered l0 0))=l at hc hall hle hlt hp hn;have hspec:∀(i:Nat) io,l[i]?=some io→io.id=i∧Fit P n ops i io:=by
    intro i io hi;rw[← hl,List.getElem?_map,jX]at hi;obtain⟨io1,h1,rfl⟩:=Option.map_eq_some_iff.1 hi;obtain⟨io0,h0,rfl⟩:=Option.map_eq_some_iff.1 h1;obtain⟨q1,q2,q3,q4⟩:=sK (masks ops.toList []) (numbered l0 0) {io0 with id:=0+i};refine⟨by rw[q4];simp,?_⟩;obtain⟨j,hj,hf⟩:=hfit.getR' h0;have hji:j=i:=by
     have hlt:i<(List.range ops.size).length:=(List.getElem?_eq_some_iff.1 hj).1;rw[List.length_range]at hlt;rw[List.getElem?_range hlt]at hj;exact(Option.some.inj hj).symm
    subst hji;obtain⟨o,r1,r2,r3,r4,r5⟩:=hf;exact⟨o,r1,q1.trans r2,r3,r4.trans (by rw[q2]),by rw[q3];exact r5⟩
   have hlen:l.length=ops.size:=by
    have h1:=hfit.len;rw[List.length_range]at h1;have h2:∀(l:List IOp) s,(numbered l s).length=l.length:=by
     intro l;induction l with
     |nil=>intro s;rfl
     |cons o l ih=>intro s;simp[numbered,ih]
    rw[← hl,List.length_map,h2,← h1]
   generalize plan (masks ops.toList []) l (l.filter (·.k.heavy)) []=order at hc hall hle hlt hp hn;have hmap:=yf l (fun i io h=>(hspec i io h).1) order hlt;cases hc;have hmem:∀io∈order.filterMap (fun i=>l[i]?),∃i,i<l.length∧l[i]?=some io:=fun io hio=>by
    obtain⟨i,_,hi⟩:=List.mem_filterMap.1 hio;exact⟨i,(List.getElem?_eq_some_iff.1 hi).1,hi⟩
   refine⟨fun i o ho e he hb=>by have:=qo hE i o (by rw[Array.getElem?_toList];exact ho) e he hb;omega,GV,⟨?_,fun io hio=>?_,fun i hi _=>?_,qF hp⟩,?_⟩
   ·rw[hmap];exact qE hn
   ·obtain⟨i,hi,hio⟩:=hmem io hio;obtain⟨r1,r2⟩:=hspec i io hio;rw[r1];have:i<ops.size:=by omega
    exact⟨this,by simp[this],r2⟩
   ·have hi':i<l.length:=by omega
    have hin:=hall i (by simpa using hi');have hin':i∈order:=by simpa using hin
    refine⟨l[i],List.mem_filterMap.2 ⟨i,hin',List.getElem?_eq_getElem hi'⟩,(hspec i _ (List.getElem?_eq_getElem hi')).1⟩
   ·have h1:(order.filterMap fun i=>l[i]?).length=order.length:=by rw[← List.length_map (f:=fun o:IOp=>o.id),hmap]
    rw[h1];omega
  ·cases hc
end
section
open Go
variable{P:Program}{μ μ':Mu}{h h':H}{w w':World}{n base:Nat}{b:Frame}{act:Act}{k:List Item}{cs:List Frame}{ops:Array Oper}{i:Nat}{rest:List Nat}{o:Oper}
theorem zI{a:A}{t:Nat}{v:V}(s:SR P n base μ {a with t:=put a.t (some t) v} h act w)(e:a.t t=.undef):SR P n base μ a h act w:=
 ⟨s.rel,⟨s.t.1,fun i=>by
  by_cases c:i=t
  ·subst c;rw[e];exact .undef _
  ·have:=s.t.2 i;simpa[put,upd,c]using this⟩,s.d⟩
theorem vC{a:A}(s:SR P n base μ a h act w)(r:R P μ h' w):SR P n base μ a h' act w:=⟨r,s.t,s.d⟩
theorem Jl{io:IOp}{a:A}{kk:RK}{v:V}(hf:Fit P n ops i io)(hk:io.k=.r kk)(s:SR P n base μ a h act w)(hg:aF a.t io.guard)(hw:az a.t io.guard=true)(he:kk.ev (Opd.ev a.t) h=some v):
  ∃act',Steps P (lone (b.atR act (.inRegion ops (i::rest)::k)) cs w) (lone (b.atR act' (.inRegion ops rest::k)) cs w)∧SR P n base μ {a with t:=put a.t io.dst v} h act' w:=by
 obtain⟨o,ho,hd,hdn,hgu,hc⟩:=hf;have hwd:=nG s hgu hg;rcases hc with hc|hc
 ·rw[hk]at hc;obtain⟨d,hv,hr⟩:=Eh (w:=w) hc s.rho s.rel he o rfl (fun f=>rfl);refine⟨act.put o.dst d,.one (kW ho (hwd.trans hw) (kP hc (by intro f a e;cases e)) hr (.inl rfl)),?_⟩;rw[hd];exact s.put hdn hv
 ·rw[hk]at hc;cases hc
structure ToldX(F:IOp→Prop)(ops:Array Oper)(M:List Nat)(listed:Array Bool)(told:List IOp):Prop where
 nodup:(told.map (·.id)).Nodup
 fit:∀io∈told,io.id<ops.size∧listed.getD io.id true=false∧F io
 all:∀i,i<ops.size→listed.getD i true=false→∃io∈told,io.id=i
 pairs:told.Pairwise fun x y=>ordered M x.id y.id=true∨x.swaps y=true∨x.lets y=true
section
variable{F:IOp→Prop}{M:List Nat}{listed:Array Bool}{pre post:List IOp}{io:IOp}
theorem ToldX.next(hT:ToldX F ops M listed (pre++io::post))(hD:Down ops listed)(ho:ops[io.id]?=some o)(hall:∀e∈o.after,Region.binds .any e=true→listed.getD e.on false=true):
  ToldX F ops M (listed.setIfInBounds io.id true) (pre++post)∧Down ops (listed.setIfInBounds io.id true):=by
 have hnd':=hT.nodup;rw[List.map_append,List.map_cons]at hnd';have hsub:(pre++post).Sublist (pre++io::post):=List.Sublist.append_left (List.sublist_cons_self _ _) _;have hne:∀x∈pre++post,x.id≠io.id:=by
  have h1:=(List.nodup_append.1 hnd');intro x hx e;rcases List.mem_append.1 hx with hx|hx
  ·exact h1.2.2 _ (List.mem_map.2 ⟨x,hx,rfl⟩) _ (List.mem_cons_self ..) e
  ·exact(List.nodup_cons.1 h1.2.1).1 (e ▸ List.mem_map.2 ⟨x,hx,rfl⟩)
 refine⟨⟨(hsub.map _).nodup hT.nodup,fun x hx=>?_,fun j hj hu=>?_,hT.pairs.sublist hsub⟩,by simp[hD.1],fun j oj hoj hl e he hb=>getD_set_true ?_⟩
 ·obtain⟨h1,h2,h3⟩:=hT.fit x (hsub.subset hx);exact⟨h1,by rw[getD_set_ne true (Ne.symm (hne x hx))];exact h2,h3⟩
 ·have hji:io.id≠j:=fun e=>by
   subst e;have:io.id<listed.size:=by rw[hD.1];exact hj
   simp[this]at hu
  rw[getD_set_ne true hji]at hu;obtain⟨x,hx,hxj⟩:=hT.all j hj hu;rcases List.mem_append.1 hx with hx|hx
  ·exact⟨x,List.mem_append_left _ hx,hxj⟩
  ·rcases List.mem_cons.1 hx with rfl|hx
   ·exact absurd hxj hji
   ·exact⟨x,List.mem_append_right _ hx,hxj⟩
 ·by_cases hji:io.id=j
  ·subst hji;rw[ho]at hoj;cases hoj;exact hall e he hb
  ·rw[getD_set_ne false hji]at hl;exact hD.2 j oj hoj hl e he hb
theorem ToldX.ahead(hT:ToldX F ops M listed (pre++io::post))(hM:jT ops M)(hE:gQ ops)(hD:Down ops listed)(hir:io.id∈Region.ready .any ops listed):∀x∈pre,x.swaps io=true∨x.lets io=true:=fun x hx=>by
 rcases(List.pairwise_append.1 hT.pairs).2.2 x hx io (by simp)with h|h
 ·have h1:=qG hM hE hD hir h;obtain⟨h2,h3,_⟩:=hT.fit x (by simp[hx]);rw[rM (by rw[hD.1];exact h2),h1]at h3;cases h3
 ·exact h
end
def Uc(P:Program)(n:Nat)(ops:Array Oper)(io:IOp):Prop:=Fit P n ops io.id io∨(∃c y,io.k=.p (.byteStr c y))∧Cm n io.dst=true
theorem qj{c:Bool}{y:Opd}{ρ:Opd→V}{v:V}(e:(PK.byteStr c y).ev ρ=some v):∃m,ρ y=.int .u8 m∧v=if c then .str [UInt8.ofNat m.toNat]else .undef:=by
 simp only[PK.ev]at e;split at e
 ·cases e;exact⟨_,‹_›,rfl⟩
 ·cases e
theorem lK{y:IOp}{post:List IOp}{K:A→H→Prop}(hl:y.k.light=true):∀(pre:List IOp) {W:Reads} {a:A} {h:H} {act:Act} {μ:Mu} {w:World},(∀x∈pre,x.swaps y=true∨x.lets y=true)→(∀x∈pre,Uc P n ops x) →
  (b.roundOf≠none→∀x∈pre,∀f a,x.k≠.h (.dfr f a))→SR P n base μ a h act w→aT (Snd P) (pre++y::post) W a h K→Ready y a
 |[],W,a,h,act,μ,w,_,_,_,_,hE=>by rw[List.nil_append,dB]at hE;exact Eg hl hE
 |x::pre,W,a,h,act,μ,w,hs,hF,hnd,s,hE=>by
   rw[List.cons_append,dB]at hE;rcases hF x (by simp)with hf|⟨⟨c,z,hk⟩,hd⟩
   ·obtain⟨W',a',h',act',μ',w',⟨⟨u,hu⟩,_,hK⟩,_,_,hr⟩:=pJ (b:=b) (k:=[]) (cs:=[]) (rest:=[]) hf s (fun hb=>hnd hb x (by simp)) (iY ja hE);have h1:=lK hl pre (fun z hz=>hs z (by simp[hz])) (fun z hz=>hF z (by simp[hz])) (fun hb z hz=>hnd hb z (by simp[hz])) hr hK;exact(Ready.put (jF (hs x (by simp)))).1 (Ready.of_t (a:=a') (a':={a with t:=put a.t x.dst u}) hu.symm h1)
   ·by_cases hw:az a.t x.guard=true
    ·obtain⟨_,v,e,hK⟩:=(lX hw hk).1 hE;obtain⟨d,hv⟩:∃d,VR μ v d:=by
      obtain⟨m,_,rfl⟩:=qj e;cases c
      ·exact⟨Go.undef,.undef _⟩
      ·exact⟨_,.str _⟩
     have h1:=lK hl pre (fun z hz=>hs z (by simp[hz])) (fun z hz=>hF z (by simp[hz])) (fun hb z hz=>hnd hb z (by simp[hz])) (s.put hd hv) hK;exact(Ready.put (jF (hs x (by simp)))).1 h1
    ·obtain⟨_,hK⟩:=(eU hw).1 hE;have h1:=lK hl pre (fun z hz=>hs z (by simp[hz])) (fun z hz=>hF z (by simp[hz])) (fun hb z hz=>hnd hb z (by simp[hz])) (s.put hd yj) hK;exact(Ready.put (jF (hs x (by simp)))).1 h1
section
variable(P)(n)(ops)(M:List Nat)(i j t:Nat)(x:Opd)(g:Option (Nat × Bool))
def FitF(io:IOp):Prop:=AQ M i j t x g io=true ∧
 ((io.id=j∧io.k=.p (.byteStr false x)∧io.guard=g∧io.dst=some t∧Fit P n ops j {io with k:=.a (.mkSl [.int .u8 0] 1 1 [(0,1,x)])}) ∨
  (io.id=i∧io.k=.p (.byteStr true x)∧io.guard=g∧Fit P n ops i {io with k:=.r (.toStr (.tmp t))}) ∨
  (io.id≠i∧io.id≠j∧Fit P n ops io.id io))
def Inv1(base:Nat)(μ:Mu)(a:A)(h:H)(act:Act)(w:World):Prop:=
 (∃bb m,h bb=none∧a.t t=.undef∧Opd.ev a.t x=.int .u8 m∧az a.t g=true∧SR P n base μ {a with t:=put a.t (some t) (.sl bb 0 1 1)} (hadd h bb (.cells [.int .u8 m] false)) act w) ∨
 (az a.t g=false∧SR P n base μ a h act w)
end
section
variable{M:List Nat}{i j t:Nat}{x:Opd}{g:Option (Nat × Bool)}{a:A}{io:IOp}
theorem Inv1.sr(I:Inv1 P n t x g base μ a h act w):SR P n base μ a h act w:=by
 rcases I with⟨bb,m,hb,hu,_,_,s⟩|⟨_,s⟩
 ·exact vC (zI s hu) (s.rel.sub (fD hb))
 ·exact s
theorem Gw(f:Fit P n ops i io):Cm n io.dst=true:=by
 obtain⟨o,_,hd,hdn,_⟩:=f;rw[hd];exact hdn
theorem FitF.fitX(f:FitF P n ops M i j t x g io):Uc P n ops io:=by
 rcases f.2 with⟨_,hk,_,_,f⟩|⟨_,hk,_,f⟩|⟨_,_,f⟩
 ·exact .inr ⟨⟨_,_,hk⟩,by have e:=Gw f;exact e⟩
 ·exact .inr ⟨⟨_,_,hk⟩,by have e:=Gw f;exact e⟩
 ·exact .inl f
theorem FitF.looks(f:FitF P n ops M i j t x g io):io.blind (some t):=by
 intro y e;cases e;have:=f.1;simp only[AQ,Bool.and_eq_true,Bool.not_eq_true']at this;intro hm;have h1:=this.1;rw[List.contains_iff_mem.2 hm]at h1;cases h1
theorem FitF.apart(f:FitF P n ops M i j t x g io)(hj:io.id≠j):io.dst≠some t∧(ordered M io.id j=true∨∀d,io.dst=some d→uO x≠some d∧∀y c,g=some (y,c)→y≠d):=by
 have:=f.1;simp only[AQ,Bool.and_eq_true,Bool.or_eq_true,beq_iff_eq,bne_iff_ne]at this;rcases this.2 with e|⟨h1,h2⟩
 ·exact absurd e hj
 ·refine⟨h1,h2.imp id fun h2 d hd=>?_⟩;rw[hd]at h2;simp only[Bool.and_eq_true,bne_iff_ne]at h2;refine⟨h2.1,fun y c e=>?_⟩;have:=h2.2;rw[e]at this;simpa using this
theorem Sm{d:Option Nat}{v:V}{tm:Tm}(hd:∀z,d=some z→uO x≠some z):Opd.ev (put tm d v) x=Opd.ev tm x:=by
 cases d with
 |none=>rfl
 |some d =>
   cases x with
   |tmp y =>
     have:y≠d:=fun e=>hd d rfl (by simp[uO,e]);simp[Opd.ev,put,upd,this]
   |_=>rfl
theorem Md{d:Option Nat}{v:V}{tm:Tm}(hd:∀z,d=some z→∀y c,g=some (y,c)→y≠z):az (put tm d v) g=az tm g:=by
 cases d with
 |none=>rfl
 |some d =>
   cases g with
   |none=>rfl
   |some yc =>
     obtain⟨y,c⟩:=yc;have:y≠d:=hd d rfl y c rfl;simp[az,put,upd,this]
theorem QO{d:Option Nat}{v:V}{tm:Tm}(hd:d≠some t):put tm d v t=tm t:=by
 cases d with
 |none=>rfl
 |some d =>
   have:t≠d:=fun e=>hd (by rw[e]);simp[put,upd,this]
theorem rJ{listed:Array Bool}{i:Nat}(h:listed.getD i true=false):listed.getD i false=false:=by
 rcases Nat.lt_or_ge i listed.size with hi|hi
 ·rw[rM hi]at h;exact h
 ·simp[hi]
theorem pY{fuel tt:Nat}{listed:Array Bool}(hi:(Region.ready .any ops listed)[tt % (Region.ready .any ops listed).length]?=some i):
  Region.linearise.go .any ops (fuel+1) tt listed []=i::Region.linearise.go .any ops fuel (tt / (Region.ready .any ops listed).length) (listed.setIfInBounds i true) []:=by
 have hgo:Region.linearise.go .any ops (fuel+1) tt listed []=match (Region.ready .any ops listed)[tt % (Region.ready .any ops listed).length]? with
  |some i=>Region.linearise.go .any ops fuel (tt / (Region.ready .any ops listed).length) (listed.setIfInBounds i true) [i]
  |none=>[].reverse:=rfl
 rw[hgo,hi];simp only;rw[linearise_go_acc,List.reverse_singleton,List.singleton_append]
theorem zH{tt:Nat}{listed:Array Bool}(h:Region.ready .any ops listed≠[]):∃i,(Region.ready .any ops listed)[tt % (Region.ready .any ops listed).length]?=some i∧i∈Region.ready .any ops listed:=by
 have hlt:tt % (Region.ready .any ops listed).length<(Region.ready .any ops listed).length:=Nat.mod_lt _ (List.length_pos_iff.2 h);exact⟨_,List.getElem?_eq_getElem hlt,List.getElem_mem hlt⟩
theorem x9{listed:Array Bool}{told:List IOp}{W:Reads}{K:A→H→Prop}{y:Nat}(hM:jT ops M)(hE:gQ ops)(hT:ToldX (FitF P n ops M i j t x g) ops M listed told)(hD:Down ops listed)
  (hnd:b.roundOf≠none→∀io∈told,∀f a,io.k≠.h (.dfr f a)) (s:SR P n base μ a h act w) (hir:y∈Region.ready .any ops listed) (hd:aT (Snd P) told W a h K):
  ∃io pre post,io.id=y∧told=pre++io::post∧y<ops.size∧listed.getD y false=false∧FitF P n ops M i j t x g io∧(b.roundOf≠none→∀f a,io.k≠.h (.dfr f a)) ∧
    (doE (Snd P) io W a h fun W' a' h'=>aT (Snd P) (pre++post) W' a' h' K) ∧
    ToldX (FitF P n ops M i j t x g) ops M (listed.setIfInBounds y true) (pre++post)∧Down ops (listed.setIfInBounds y true)∧(b.roundOf≠none→∀io∈pre++post,∀f a,io.k≠.h (.dfr f a)):=by
 obtain⟨hun,o,ho,hall⟩:=mem_ready.1 hir;have hlt:y<ops.size:=(Array.getElem?_eq_some_iff.1 ho).1;obtain⟨io,hio,rfl⟩:=hT.all y hlt hun;obtain⟨pre,post,rfl⟩:=List.append_of_mem hio;have hsw:=hT.ahead hM hE hD hir;obtain⟨h1,h2⟩:=hT.next hD ho hall;refine⟨io,pre,post,rfl,rfl,hlt,rJ hun,(hT.fit io (by simp)).2.2,fun hb=>hnd hb io (by simp),?_,h1,h2,fun hb z hz=>hnd hb z (by
  rcases List.mem_append.1 hz with hz|hz
  ·exact List.mem_append_left _ hz
  ·exact List.mem_append_right _ (List.mem_cons_of_mem _ hz))⟩
 by_cases hli:io.k.light=true
 ·exact Fb pre hsw s.rel.Fin (lK (b:=b) hli pre hsw (fun x hx=>(hT.fit x (by simp[hx])).2.2.fitX) (fun hb x hx=>hnd hb x (by simp[hx])) s hd) hd
 ·exact front ja pre (fun x hx=>(hsw x hx).resolve_right fun e=>hli (by simp only[IOp.lets,Bool.and_eq_true]at e;exact e.2)) s.rel.Fin hd
abbrev Came(P:Program)(n base:Nat)(b:Frame)(k:List Item)(cs:List Frame)(ops:Array Oper)(is:List Nat)(μ:Mu)(h:H)(act:Act)(w:World)(K:A→H→Prop):Prop:=
 ∃a' h' act' μ' w',K a' h'∧Steps P (lone (b.atR act (.inRegion ops is::k)) cs w) (lone (b.atR act' k) cs w')∧St P μ h w μ' h' w'∧SR P n base μ' a' h' act' w'
theorem pV{listed:Array Bool}{y:Nat}(h:y<listed.size):(listed.setIfInBounds y true).getD y false=true:=by simp[h]
theorem QG(hM:jT ops M)(hE:gQ ops)(hi:i<ops.size){K:A→H→Prop}:∀(fuel tt:Nat) (listed:Array Bool) (told:List IOp) {W:Reads} {a:A} {h:H} {act:Act} {μ:Mu} {w:World},told.length≤fuel→ToldX (FitF P n ops M i j t x g) ops M listed told→Down ops listed →
  listed.getD j false=true→listed.getD i true=false →
  (b.roundOf≠none→∀io∈told,∀f a,io.k≠.h (.dfr f a))→Inv1 P n t x g base μ a h act w→aT (Snd P) told W a h K →
  Came P n base b k cs ops (Region.linearise.go .any ops fuel tt listed []) μ h act w K:=by
 intro fuel;induction fuel with
 |zero =>
   intro tt listed told W a h act μ w hl hT hD hlj hli hnd I hd;have:told=[]:=List.length_eq_zero_iff.1 (by omega);subst this;obtain⟨_,h1,_⟩:=hT.all i hi hli;cases h1
 |succ fuel ih =>
   intro tt listed told W a h act μ w hl hT hD hlj hli hnd I hd;obtain⟨y,hy,hir⟩:=zH (tt:=tt) (qJ hE hD i hi hli);obtain⟨io,pre,post,rfl,rfl,hlt,hun,hF,hnd1,hfr,hT',hD',hnd'⟩:=x9 (b:=b) hM hE hT hD hnd I.sr hir hd;have hlen:(pre++post).length≤fuel:=by simp at hl⊢;omega
   have hsz:io.id<listed.size:=by rw[hD.1];exact hlt
   have hidj:io.id≠j:=fun e=>by rw[e,hlj]at hun;cases hun
   obtain⟨hdt,hap⟩:=hF.apart hidj;have hap:∀d,io.dst=some d→uO x≠some d∧∀y c,g=some (y,c)→y≠d:=hap.resolve_left fun e=>by
    have:=nU hM hE hD _ _ hlj e;rw[this]at hun;cases hun
   have hlj':(listed.setIfInBounds io.id true).getD j false=true:=getD_set_true hlj;rw[pY hy];rcases hF.2 with⟨e,_⟩|⟨hid,hk,hg,hfit⟩|⟨hid,_,hfit⟩
   ·exact absurd e hidj
   ·
    have hfit:Fit P n ops io.id {io with k:=.r (.toStr (.tmp t))}:=by rw[hid];exact hfit
    have hrest:Told P n ops M (listed.setIfInBounds io.id true) (pre++post):=⟨hT'.nodup,fun z hz=>by
     obtain⟨h1,h2,h3⟩:=hT'.fit z hz;refine⟨h1,h2,?_⟩;rcases h3.2 with⟨e,_⟩|⟨e,_⟩|⟨_,_,f⟩
     ·rw[e]at h2;rw[rJ h2]at hlj';cases hlj'
     ·have:=pV hsz;rw[e,← hid]at h2;rw[rJ h2]at this;cases this
     ·exact f,hT'.all,hT'.pairs⟩
    by_cases hw:az a.t io.guard=true
    ·obtain⟨hok,v,hv,hK⟩:=(lX hw hk).1 hfr;obtain⟨m,hx,rfl⟩:=qj hv;simp only[if_true]at hv hK;rcases I with⟨bb,m',hb,hu,hx',hwg,s⟩|⟨hwg,_⟩
     ·rw[hx]at hx';cases hx';obtain⟨g1,g2⟩:=dY hF.looks a.t (.sl bb 0 1 1);have hev:(RK.toStr (.tmp t)).ev (Opd.ev (put a.t (some t) (.sl bb 0 1 1))) (hadd h bb (.cells [.int .u8 m] false))=some (.str [UInt8.ofNat m.toNat]):=by
       simp[RK.ev,Opd.ev,put,upd,hadd,hset,bytesOf]
      obtain⟨act',hs,hr⟩:=Jl (b:=b) (k:=k) (cs:=cs) (rest:=Region.linearise.go .any ops fuel (tt / (Region.ready .any ops listed).length) (listed.setIfInBounds io.id true) []) (io:={io with k:=.r (.toStr (.tmp t))}) hfit rfl s (g2.2 hok) (by rw[← hw];exact g1) hev;have hr1:SR P n base μ {({a with t:=put a.t io.dst (.str [UInt8.ofNat m.toNat])}:A)with t:=put (put a.t io.dst (.str [UInt8.ofNat m.toNat])) (some t) (.sl bb 0 1 1)} (hadd h bb (.cells [.int .u8 m] false)) act' w:=by
       rw[← put_comm a.t (d:=some t) (e:=io.dst) (fun z e e'=>hdt (by rw[e',e]))];exact hr
      have hr2:SR P n base μ {a with t:=put a.t io.dst (.str [UInt8.ofNat m.toNat])} h act' w:=vC (zI hr1 (by simp only;rw[QO hdt];exact hu)) (s.rel.sub (fD hb));obtain⟨a2,h2,act2,μ2,w2,hK2,hs2,hst2,hr2⟩:=qm (b:=b) (k:=k) (cs:=cs) hM hE fuel _ _ _ hlen hrest hD' hnd' hr2 hK;exact⟨a2,h2,act2,μ2,w2,hK2,Steps.trans hs hs2,hst2,hr2⟩
     ·rw[hg,hwg]at hw;cases hw
    ·obtain⟨hok,hK⟩:=(eU hw).1 hfr;obtain⟨act',hs,hr⟩:=vF (b:=b) (k:=k) (cs:=cs) (rest:=Region.linearise.go .any ops fuel (tt / (Region.ready .any ops listed).length) (listed.setIfInBounds io.id true) []) (io:={io with k:=.r (.toStr (.tmp t))}) hfit I.sr hok hw;obtain⟨a2,h2,act2,μ2,w2,hK2,hs2,hst2,hr2⟩:=qm (b:=b) (k:=k) (cs:=cs) hM hE fuel _ _ _ hlen hrest hD' hnd' hr hK;exact⟨a2,h2,act2,μ2,w2,hK2,Steps.trans hs hs2,hst2,hr2⟩
   ·
    have hli':(listed.setIfInBounds io.id true).getD i true=false:=by rw[getD_set_ne true hid];exact hli
    rcases I with⟨bb,m,hb,hu,hx,hwg,s⟩|⟨hwg,s⟩
    ·have hE2:doE (Snd P) io W {a with t:=put a.t (some t) (.sl bb 0 1 1)} h fun W' a2 h'=>∃a',a2={a' with t:=put a'.t (some t) (.sl bb 0 1 1)}∧(∃u,a'.t=put a.t io.dst u)∧aT (Snd P) (pre++post) W' a' h' K:=
      (gW ja hF.looks (fun z e e'=>hdt (by rw[e',← e]))).2 (iW ja (fun W1 a1 h1 q=>⟨a1,rfl,q.1,q.2.2⟩) (iY ja hfr))
     obtain⟨W',a2,h',act',μ',w',⟨a',rfl,⟨u,hu'⟩,hK⟩,hs,hst,hr⟩:=pJ (b:=b) (k:=k) (cs:=cs) (rest:=Region.linearise.go .any ops fuel (tt / (Region.ready .any ops listed).length) (listed.setIfInBounds io.id true) []) hfit (vC s (s.rel.sub (fD hb))) hnd1 hE2;obtain⟨hb',st'⟩:=hst.frame hb s.rel;obtain⟨a3,h3,act3,μ3,w3,hK3,hs3,hst3,hr3⟩:=ih _ _ _ hlen hT' hD' hlj' hli' hnd' (.inl ⟨bb,m,hb',by rw[hu',QO hdt];exact hu,by rw[hu',Sm fun z e=>(hap z e).1];exact hx,by rw[hu',Md fun z e=>(hap z e).2];exact hwg,vC hr st'.rel⟩) hK;exact⟨a3,h3,act3,μ3,w3,hK3,Steps.trans hs hs3,hst.trans hst3,hr3⟩
    ·obtain⟨W',a',h',act',μ',w',⟨⟨u,hu'⟩,_,hK⟩,hs,hst,hr⟩:=pJ (b:=b) (k:=k) (cs:=cs) (rest:=Region.linearise.go .any ops fuel (tt / (Region.ready .any ops listed).length) (listed.setIfInBounds io.id true) []) hfit s hnd1 (iY ja hfr);obtain⟨a3,h3,act3,μ3,w3,hK3,hs3,hst3,hr3⟩:=ih _ _ _ hlen hT' hD' hlj' hli' hnd' (.inr ⟨by rw[hu',Md fun z e=>(hap z e).2];exact hwg,hr⟩) hK;exact⟨a3,h3,act3,μ3,w3,hK3,Steps.trans hs hs3,hst.trans hst3,hr3⟩
theorem Ul(hM:jT ops M)(hE:gQ ops)(hi:i<ops.size)(hj:j<ops.size)(hij:i≠j)(hji:ordered M j i=true){K:A→H→Prop}:∀(fuel tt:Nat) (listed:Array Bool) (told:List IOp) {W:Reads} {a:A} {h:H} {act:Act} {μ:Mu} {w:World},told.length≤fuel→ToldX (FitF P n ops M i j t x g) ops M listed told→Down ops listed →
  listed.getD j true=false →
  (b.roundOf≠none→∀io∈told,∀f a,io.k≠.h (.dfr f a))→SR P n base μ a h act w→aT (Snd P) told W a h K →
  Came P n base b k cs ops (Region.linearise.go .any ops fuel tt listed []) μ h act w K:=by
 intro fuel;induction fuel with
 |zero =>
   intro tt listed told W a h act μ w hl hT hD hlj hnd s hd;have:told=[]:=List.length_eq_zero_iff.1 (by omega);subst this;obtain⟨_,h1,_⟩:=hT.all j hj hlj;cases h1
 |succ fuel ih =>
   intro tt listed told W a h act μ w hl hT hD hlj hnd s hd;obtain⟨y,hy,hir⟩:=zH (tt:=tt) (qJ hE hD j hj hlj);obtain⟨io,pre,post,rfl,rfl,hlt,hun,hF,hnd1,hfr,hT',hD',hnd'⟩:=x9 (b:=b) hM hE hT hD hnd s hir hd;have hlen:(pre++post).length≤fuel:=by simp at hl⊢;omega
   have hsz:io.id<listed.size:=by rw[hD.1];exact hlt
   have hili:listed.getD i true=false:=by
    rw[rM (by rw[hD.1];exact hi)];cases e:listed.getD i false with
    |false=>rfl
    |true=>have:=nU hM hE hD _ _ e hji;rw[rJ hlj]at this;cases this
   rw[pY hy];rcases hF.2 with⟨hid,hk,hg,hdst,hfit⟩|⟨hid,_⟩|⟨hid,hidj,hfit⟩
   ·
    have hfit:Fit P n ops io.id {io with k:=.a (.mkSl [.int .u8 0] 1 1 [(0,1,x)])}:=by rw[hid];exact hfit
    have hlj':(listed.setIfInBounds io.id true).getD j false=true:=by rw[← hid];exact pV hsz
    have hli':(listed.setIfInBounds io.id true).getD i true=false:=by rw[getD_set_ne true (by rw[hid];exact Ne.symm hij)];exact hili
    have hbl:=hF.looks
    by_cases hw:az a.t io.guard=true
    ·obtain⟨hok,v,hv,hK⟩:=(lX hw hk).1 hfr;obtain⟨m,hx,rfl⟩:=qj hv;simp only[if_false,Bool.false_eq_true]at hv hK;have hsE:bF (Snd P) {io with k:=.a (.mkSl [.int .u8 0] 1 1 [(0,1,x)])} a h fun v a' h'=>∃bb,h bb=none∧a'={a with t:=put a.t (some t) (.sl bb 0 1 1)}∧h'=hadd h bb (.cells [.int .u8 m] false):=by
      simp only[bF,AK.ev,di,hx,V.cells,zeros,List.replicate,List.flatten,List.append_nil,List.length_cons,List.length_nil];simp only[V.flat,List.all_cons,List.all_nil,Bool.and_self,and_self,Nat.zero_add,Nat.le_refl,if_true,List.take_zero,List.nil_append,List.drop_succ_cons,List.drop_zero,List.append_nil,Option.map_some];exact fun bb hb _=>⟨bb,hb,by rw[hdst],rfl⟩
     obtain⟨v,a',h',act',μ',w',⟨bb,hb,rfl,rfl⟩,hs,hst,hr⟩:=jc (b:=b) (k:=k) (cs:=cs) (rest:=Region.linearise.go .any ops fuel (tt / (Region.ready .any ops listed).length) (listed.setIfInBounds io.id true) []) (io:={io with k:=.a (.mkSl [.int .u8 0] 1 1 [(0,1,x)])}) hfit s hok hw (fun _ f a e=>by cases e) hsE;have hI:Inv1 P n t x g base μ' {a with t:=put a.t io.dst .undef} h act' w':=by
      refine .inl ⟨bb,m,hb,by simp[hdst,put,upd],?_,?_,?_⟩
      ·have:=fO hbl a.t .undef x (by rw[hk];simp[Kind.opds,PK.opds]);simp only[hdst];rw[this];exact hx
      ·rw[← hg,hdst];exact((dY hbl a.t .undef).1).trans hw
      ·have:put (put a.t io.dst .undef) (some t) (.sl bb 0 1 1)=put a.t (some t) (.sl bb 0 1 1):=by
        rw[hdst];funext z;simp only[put,upd];split<;>rfl
       simp only[this];exact hr
     obtain⟨a3,h3,act3,μ3,w3,hK3,hs3,hst3,hr3⟩:=QG (b:=b) (k:=k) (cs:=cs) hM hE hi fuel _ _ _ hlen hT' hD' hlj' hli' hnd' hI hK;exact⟨a3,h3,act3,μ3,w3,hK3,Steps.trans hs hs3,(hst.sub (fD hb)).trans hst3,hr3⟩
    ·obtain⟨hok,hK⟩:=(eU hw).1 hfr;obtain⟨act',hs,hr⟩:=vF (b:=b) (k:=k) (cs:=cs) (rest:=Region.linearise.go .any ops fuel (tt / (Region.ready .any ops listed).length) (listed.setIfInBounds io.id true) []) (io:={io with k:=.a (.mkSl [.int .u8 0] 1 1 [(0,1,x)])}) hfit s hok hw;have hI:Inv1 P n t x g base μ {a with t:=put a.t io.dst (.tup [])} h act' w:=by
      refine .inr ⟨?_,hr⟩;rw[← hg,hdst];have:=(dY hbl a.t (.tup [])).1;simp only[this];simpa using hw
     obtain⟨a3,h3,act3,μ3,w3,hK3,hs3,hst3,hr3⟩:=QG (b:=b) (k:=k) (cs:=cs) hM hE hi fuel _ _ _ hlen hT' hD' hlj' hli' hnd' hI hK;exact⟨a3,h3,act3,μ3,w3,hK3,Steps.trans hs hs3,hst3,hr3⟩
   ·exfalso;have:=qG hM hE hD hir (by rw[hid];exact hji);rw[rJ hlj]at this;cases this
   ·obtain⟨W',a',h',act',μ',w',hK,hs,hst,hr⟩:=pJ (b:=b) (k:=k) (cs:=cs) (rest:=Region.linearise.go .any ops fuel (tt / (Region.ready .any ops listed).length) (listed.setIfInBounds io.id true) []) hfit s hnd1 hfr;obtain⟨a3,h3,act3,μ3,w3,hK3,hs3,hst3,hr3⟩:=ih _ _ _ hlen hT' hD' (by rw[getD_set_ne true hidj];exact hlj) hnd' hr hK;exact⟨a3,h3,act3,μ3,w3,hK3,Steps.trans hs hs3,hst.trans hst3,hr3⟩
end
theorem uy{t j:Nat}{x:Opd}:∀{l:List IOp} {s:Nat},qx l t s=some (j,x)→∃m o,j=s+m∧l[m]?=some o∧o.k=.a (.mkSl [.int .u8 0] 1 1 [(0,1,x)])∧o.dst=some t
 |[],s,h=>by simp[qx]at h
 |o::l,s,h=>by
   simp only[qx]at h;have hrec:qx l t (s+1)=some (j,x)→∃m o',j=s+m∧(o::l)[m]?=some o'∧o'.k=.a (.mkSl [.int .u8 0] 1 1 [(0,1,x)])∧o'.dst=some t:=fun h=>by
    obtain⟨m,o',e,h1,h2⟩:=uy h;exact⟨m+1,o',by omega,by simpa using h1,h2⟩
   split at h
   ·rename_i y hk;split at h
    ·rename_i hd;cases h;exact⟨0,o,by simp,by simp,hk,hd⟩
    ·exact hrec h
   ·exact hrec h
theorem uz{all:List IOp}{i j t:Nat}{x:Opd}:∀{l:List IOp} {s:Nat},qy all l s=some (i,j,t,x) →
  (∃m o,i=s+m∧l[m]?=some o∧o.k=.r (.toStr (.tmp t)))∧∃o,all[j]?=some o∧o.k=.a (.mkSl [.int .u8 0] 1 1 [(0,1,x)])∧o.dst=some t
 |[],s,h=>by simp[qy]at h
 |o::l,s,h=>by
   simp only[qy]at h;have hrec:qy all l (s+1)=some (i,j,t,x)→(∃m o',i=s+m∧(o::l)[m]?=some o'∧o'.k=.r (.toStr (.tmp t)))∧∃o,all[j]?=some o∧o.k=.a (.mkSl [.int .u8 0] 1 1 [(0,1,x)])∧o.dst=some t:=fun h=>by
    obtain⟨⟨m,o',e,h1⟩,h2⟩:=uz h;exact⟨⟨m+1,o',by omega,by simpa using h1⟩,h2⟩
   split at h
   ·rename_i y hk;split at h
    ·rename_i hm;cases h;obtain⟨m,o',e,h1,h2⟩:=uy hm;exact⟨⟨0,o,by simp,by simp,hk⟩,o',by rw[e,Nat.zero_add];exact h1,h2⟩
    ·exact hrec h
   ·exact hrec h
theorem EM{told:List IOp}(hc:JJ P n ops=some told):
  ∃i j t x g,i<ops.size∧j<ops.size∧i≠j∧ordered (masks ops.toList []) j i=true∧gQ ops∧jT ops (masks ops.toList [])∧ToldX (FitF P n ops (masks ops.toList []) i j t x g) ops (masks ops.toList []) (Array.replicate ops.size false) told∧told.length≤ops.size:=by
 unfold JJ at hc;split at hc
 ·cases hc
 ·rename_i l0 hl0;split at hc
  ·cases hc
  ·rename_i i j t x hf;split at hc
   case h_2=>cases hc
   rename_i oi oj hoi hoj;simp only at hc;split at hc
   case isFalse=>cases hc
   rename_i hchk;simp only[Bool.and_eq_true,decide_eq_true_eq,bne_iff_ne,beq_iff_eq]at hchk;obtain⟨⟨⟨⟨⟨⟨⟨⟨⟨hE,hn⟩,hall⟩,hle⟩,hlt⟩,hp⟩,hij⟩,hgg⟩,hji⟩,hfu⟩:=hchk;simp only[List.all_eq_true,decide_eq_true_eq]at hall hlt hfu;obtain⟨⟨m,oi',hm,hoi',hki⟩,oj',hoj',hkj,hdj⟩:=uz hf;rw[Nat.zero_add]at hm;subst hm;rw[hoi]at hoi';cases hoi';rw[hoj]at hoj';cases hoj';have hfit:=BA hl0;have hli:i<l0.length:=(List.getElem?_eq_some_iff.1 hoi).1;have hlj:j<l0.length:=(List.getElem?_eq_some_iff.1 hoj).1;generalize hl1:(l0.set j {oj with k:=.p (.byteStr false x)}).set i {oi with k:=.p (.byteStr true x)}=l1 at hc hall hle hlt hp hn hfu;have hlen1:l1.length=l0.length:=by rw[← hl1];simp
   generalize hl:(numbered l1 0).map (watched (masks ops.toList []) (numbered l1 0))=l at hc hall hle hlt hp hn hfu;have hlen0:l0.length=ops.size:=by have h1:=hfit.len;rw[List.length_range]at h1;exact h1.symm
   have hat:∀(m:Nat) o0,l0[m]?=some o0→Fit P n ops m o0:=fun m o0 h0=>by
    obtain⟨q,hq,f⟩:=hfit.getR' h0;have hlt:m<(List.range ops.size).length:=(List.getElem?_eq_some_iff.1 hq).1;rw[List.length_range]at hlt;rw[List.getElem?_range hlt]at hq;cases hq;exact f
   have hspec:∀(m:Nat) io,l[m]?=some io→io.id=m∧((m=j∧io.k=.p (.byteStr false x)∧io.guard=oj.guard∧io.dst=some t∧Fit P n ops j {io with k:=.a (.mkSl [.int .u8 0] 1 1 [(0,1,x)])}) ∨
     (m=i∧io.k=.p (.byteStr true x)∧io.guard=oj.guard∧Fit P n ops i {io with k:=.r (.toStr (.tmp t))})∨(m≠i∧m≠j∧Fit P n ops m io)):=by
    intro m io hi;rw[← hl,List.getElem?_map,jX]at hi;obtain⟨io1,h1,rfl⟩:=Option.map_eq_some_iff.1 hi;obtain⟨io0,h0,rfl⟩:=Option.map_eq_some_iff.1 h1;obtain⟨q1,q2,q3,q4⟩:=sK (masks ops.toList []) (numbered l1 0) {io0 with id:=0+m};refine⟨by rw[q4];simp,?_⟩;simp only at q1 q2 q3;rw[← hl1]at h0
    by_cases hmi:m=i
    ·subst hmi;rw[List.getElem?_set_self (by simpa using hli)]at h0;cases h0;refine .inr (.inl ⟨rfl,q3,by rw[q2,hgg],?_⟩);obtain⟨o,r1,r2,r3,r4,r5⟩:=hat _ _ hoi;exact⟨o,r1,q1.trans r2,r3,r4.trans (by rw[q2]),by rw[← hki];exact r5⟩
    ·rw[List.getElem?_set_ne (Ne.symm hmi)]at h0
     by_cases hmj:m=j
     ·subst hmj;rw[List.getElem?_set_self hlj]at h0;cases h0;refine .inl ⟨rfl,q3,by rw[q2],by rw[q1];exact hdj,?_⟩;obtain⟨o,r1,r2,r3,r4,r5⟩:=hat _ _ hoj;exact⟨o,r1,q1.trans r2,r3,r4.trans (by rw[q2]),by rw[← hkj];exact r5⟩
     ·rw[List.getElem?_set_ne (Ne.symm hmj)]at h0;refine .inr (.inr ⟨hmi,hmj,?_⟩);obtain⟨o,r1,r2,r3,r4,r5⟩:=hat _ _ h0;exact⟨o,r1,q1.trans r2,r3,r4.trans (by rw[q2]),by rw[q3];exact r5⟩
   have hlen:l.length=ops.size:=by
    have h2:∀(l:List IOp) s,(numbered l s).length=l.length:=by
     intro l;induction l with
     |nil=>intro s;rfl
     |cons o l ih=>intro s;simp[numbered,ih]
    rw[← hl,List.length_map,h2,hlen1,hlen0]
   generalize plan (masks ops.toList []) l (l.filter (·.k.heavy)) []=order at hc hall hle hlt hp hn hfu;have hmap:=yf l (fun i io h=>(hspec i io h).1) order hlt;cases hc;have hmem:∀io∈order.filterMap (fun i=>l[i]?),∃i,i<l.length∧l[i]?=some io:=fun io hio=>by
    obtain⟨i,_,hi⟩:=List.mem_filterMap.1 hio;exact⟨i,(List.getElem?_eq_some_iff.1 hi).1,hi⟩
   refine⟨i,j,t,x,oj.guard,by omega,by omega,hij,hji,fun i o ho e he hb=>by have:=qo hE i o (by rw[Array.getElem?_toList];exact ho) e he hb;omega,GV,⟨?_,fun io hio=>?_,fun i hi _=>?_,qF hp⟩,?_⟩
   ·rw[hmap];exact qE hn
   ·obtain⟨m,hm,hio'⟩:=hmem io hio;obtain⟨r1,r2⟩:=hspec m io hio';have:m<ops.size:=by omega
    refine⟨by rw[r1];exact this,by rw[r1];simp[this],hfu io hio,?_⟩;rw[r1];exact r2
   ·have hi':i<l.length:=by omega
    have hin:=hall i (by simpa using hi');have hin':i∈order:=by simpa using hin
    exact⟨l[i],List.mem_filterMap.2 ⟨i,hin',List.getElem?_eq_getElem hi'⟩,(hspec i _ (List.getElem?_eq_getElem hi')).1⟩
   ·have h1:(order.filterMap fun i=>l[i]?).length=order.length:=by rw[← List.length_map (f:=fun o:IOp=>o.id),hmap]
    rw[h1];omega
theorem Hr{told:List IOp}{a:A}{K:A→H→Prop}(hc:Rf P n ops=some told)(tt:Nat)(hnd:b.roundOf≠none→∀io∈told,∀f a,io.k≠.h (.dfr f a))(s:SR P n base μ a h act w)(hE:aT (Snd P) told [] a h K):
  Came P n base b k cs ops (Region.linearise.go .any ops ops.size tt (Array.replicate ops.size false) []) μ h act w K:=by
 have hD:Down ops (Array.replicate ops.size false):=⟨by simp,fun i o ho hl e he hb=>by
  exfalso;rcases Nat.lt_or_ge i ops.size with h|h
  ·simp[h]at hl
  ·simp[Nat.not_lt.2 h]at hl⟩
 unfold Rf at hc;split at hc
 ·rename_i l hl;cases hc;obtain⟨hEd,hM,hT,hlen⟩:=EL hl;exact qm (b:=b) (k:=k) (cs:=cs) hM hEd ops.size tt _ _ hlen hT hD hnd s hE
 ·obtain⟨i,j,t,x,g,hi,hj,hij,hji,hEd,hM,hT,hlen⟩:=EM hc;exact Ul hM hEd hi hj hij hji ops.size tt _ _ hlen hT hD (by simp[hj]) hnd s hE
end
section
open Go
variable{P:Program}{n base:Nat}{b:Frame}{cs:List Frame}
def Arr(P:Program)(m:Machine)(b:Frame)(k:List Item)(cs:List Frame):Ex→Act→World→Prop
 |.nm,a,w=>Steps P m (lone (b.atR a k) cs w)
 |.exit id,a,w=>∃k',exitTo id k'=exitTo id k∧Steps P m (lone (b.atR a (.code (.exit id)::k')) cs w)
 |.ret,a,w=>∃k',Steps P m (lone (b.atR a (.code .ret::k')) cs w)
theorem Arr.of_steps{m m1:Machine}{k:List Item}{e:Ex}{a:Act}{w:World}(h:Steps P m m1)(h':Arr P m1 b k cs e a w):Arr P m b k cs e a w:=by
 cases e with
 |nm=>exact Steps.trans h h'
 |exit id=>obtain⟨k',e,hs⟩:=h';exact⟨k',e,Steps.trans h hs⟩
 |ret=>obtain⟨k',hs⟩:=h';exact⟨k',Steps.trans h hs⟩
def Out(P:Program)(n base:Nat)(b:Frame)(k:List Item)(cs:List Frame)(m:Machine)(μ:Mu)(h:H)(w:World)(Q:Ex→A→H→Prop):Prop:=
 ∃e a' h' act' μ' w',Q e a' h'∧Arr P m b k cs e act' w'∧St P μ h w μ' h' w'∧SR P n base μ' a' h' act' w'
theorem Out.of_steps{m m1:Machine}{k:List Item}{μ μ1:Mu}{h h1:H}{w w1:World}{Q:Ex→A→H→Prop}(hs:Steps P m m1)(st:St P μ h w μ1 h1 w1)(o:Out P n base b k cs m1 μ1 h1 w1 Q):Out P n base b k cs m μ h w Q:=by
 obtain⟨e,a',h',act',μ',w',hQ,ha,hst,hr⟩:=o;exact⟨e,a',h',act',μ',w',hQ,.of_steps hs ha,st.trans hst,hr⟩
theorem SR.cond{μ:Mu}{a:A}{h:H}{act:Act}{w:World}(s:SR P n base μ a h act w){x:Operand}{y:Opd}(hc:aH P n x=some y){t:Bool}(he:y.ev a.t=.bool t):act.eval x=.bool t:=by
 have:=aY s.rho hc;rw[he]at this;exact this.bool_inv
def Gl(P:Program):Prop:=∀(n base:Nat) (b:Frame) (cs:List Frame) (f:Operand) (ps:Array Tmp) (as bd:Code) (ic:IC),comp P n (.rangeFunc f ps as bd)=some ic→b.roundOf=none→base≤base →
 ∀(k:List Item) (a:A) (h:H) (act:Act) (μ:Mu) (w:World) (Q:Ex→A→H→Prop),base≤w.heap.size→SR P n base μ a h act w→E (Snd P) ic a h Q→Out P n base b k cs (lone (b.atR act (.code (.rangeFunc f ps as bd)::k)) cs w) μ h w Q
theorem mZ{id:Nat}{x:Item}{k:List Item}(hx:∀i,x≠.inBlock i):exitTo id (x::k)=exitTo id k:=by
 cases x<;>first|rfl|exact absurd rfl (hx _)
theorem ql(hmix:P.follows .mixedOrders=true)(hrange:Gl P):∀(c:Code) {ic:IC},comp P n c=some ic→(b.roundOf≠none→ic.defers=false) →
  ∀(k:List Item) {a:A} {h:H} {act:Act} {μ:Mu} {w:World} {Q:Ex→A→H→Prop},base≤w.heap.size→SR P n base μ a h act w→E (Snd P) ic a h Q→Out P n base b k cs (lone (b.atR act (.code c::k)) cs w) μ h w Q:=by
 intro c;induction c with
 |skip =>
   intro ic hc hnd k a h act μ w Q hbase s hE;simp only[comp]at hc;cases hc;exact⟨.nm,a,h,act,μ,w,hE,Steps.one stepR_skip,St.refl s.rel,s⟩
 |label l =>
   intro ic hc hnd k a h act μ w Q hbase s hE;simp only[comp]at hc;cases hc;exact⟨.nm,a,h,act,μ,w,hE,Steps.one stepR_label,St.refl s.rel,s⟩
 |exit id =>
   intro ic hc hnd k a h act μ w Q hbase s hE;simp only[comp]at hc;cases hc;exact⟨.exit id,a,h,act,μ,w,hE,⟨k,rfl,Steps.refl P _⟩,St.refl s.rel,s⟩
 |ret =>
   intro ic hc hnd k a h act μ w Q hbase s hE;simp only[comp]at hc;cases hc;exact⟨.ret,a,h,act,μ,w,hE,⟨k,Steps.refl P _⟩,St.refl s.rel,s⟩
 |region id ops draw =>
   intro ic hc hnd k a h act μ w Q hbase s hE;cases draw with
   |false =>
     simp only[comp,Option.some.injEq]at hc;split at hc
     case h_2=>subst hc;exact hE.elim
     rename_i l hl;subst hc;simp only[E]at hE;obtain⟨a',h',act',μ',w',hQ,hs,hst,hr⟩:=tX (b:=b) (k:=k) (cs:=cs) l _ (BA hl) (fun hb=>GY (hnd hb)) s hE;exact⟨.nm,a',h',act',μ',w',hQ,Steps.head stepR_region hs,hst,hr⟩
   |true =>
     simp only[comp,Option.some.injEq]at hc;split at hc
     case h_2=>subst hc;exact hE.elim
     rename_i l hl;subst hc;simp only[E]at hE;have st0:St P μ h w μ h {w with drawn:=w.drawn+1}:=(St.refl s.rel).eqv ⟨rfl,rfl,rfl,rfl⟩;have s1:SR P n base μ a h act {w with drawn:=w.drawn+1}:=s.step st0;obtain⟨a',h',act',μ',w',hQ,hs,hst,hr⟩:=Hr (b:=b) (k:=k) (cs:=cs) hl (w.tape w.drawn (.order b.fn id)) (fun hb=>GY (hnd hb)) s1 hE;refine⟨.nm,a',h',act',μ',w',hQ,Steps.head stepR_region_draw ?_,st0.trans hst,hr⟩;simp only[Region.schedule,hmix,Bool.true_or,if_true];exact hs
 |seq x y ihx ihy =>
   intro ic hc hnd k a h act μ w Q hbase s hE;simp only[comp]at hc;split at hc
   ·rename_i cx cy hx hy;cases hc;simp only[IC.defers,Bool.or_eq_false_iff]at hnd;simp only[E]at hE;obtain⟨e,a1,h1,act1,μ1,w1,hQ,ha,hst,hr⟩:=ihx hx (fun hb=>(hnd hb).1) (.code y::k) hbase s hE;have hs0:Steps P (lone (b.atR act (.code (.seq x y)::k)) cs w) (lone (b.atR act (.code x::.code y::k)) cs w):=.one stepR_seq;cases e with
    |nm =>
      exact Out.of_steps (Steps.trans hs0 ha) hst (ihy hy (fun hb=>(hnd hb).2) k (Nat.le_trans hbase hst.size) hr hQ)
    |exit id =>
      obtain⟨k',e1,hs⟩:=ha;exact⟨.exit id,a1,h1,act1,μ1,w1,hQ,⟨k',e1.trans (mZ (by intro i e;cases e)),Steps.trans hs0 hs⟩,hst,hr⟩
    |ret =>
      obtain⟨k',hs⟩:=ha;exact⟨.ret,a1,h1,act1,μ1,w1,hQ,⟨k',Steps.trans hs0 hs⟩,hst,hr⟩
   ·cases hc
 |cond c x y ihx ihy =>
   intro ic hc hnd k a h act μ w Q hbase s hE;simp only[comp]at hc;split at hc
   ·rename_i c' cx cy h1 hx hy;cases hc;simp only[IC.defers,Bool.or_eq_false_iff]at hnd;simp only[E]at hE;split at hE
    ·rename_i t ht;have hs0:Steps P (lone (b.atR act (.code (.cond c x y)::k)) cs w) (lone (b.atR act (.code (if t then x else y)::k)) cs w):=.one (stepR_cond (s.cond h1 ht));cases t with
     |true=>exact Out.of_steps hs0 (St.refl s.rel) (ihx hx (fun hb=>(hnd hb).1) k hbase s (hE.1 rfl))
     |false=>exact Out.of_steps hs0 (St.refl s.rel) (ihy hy (fun hb=>(hnd hb).2) k hbase s (hE.2 rfl))
    ·exact hE.elim
   ·cases hc;exact hE.elim
   ·cases hc
 |block id c ih =>
   intro ic hc hnd k a h act μ w Q hbase s hE;simp only[comp]at hc;obtain⟨cc,hcc,rfl⟩:=Option.map_eq_some_iff.1 hc;simp only[E]at hE;obtain⟨e,a1,h1,act1,μ1,w1,hQ,ha,hst,hr⟩:=ih hcc hnd (.inBlock id::k) hbase s hE;have hs0:Steps P (lone (b.atR act (.code (.block id c)::k)) cs w) (lone (b.atR act (.code c::.inBlock id::k)) cs w):=.one stepR_block;cases e with
   |nm=>exact⟨.nm,a1,h1,act1,μ1,w1,hQ,Steps.trans hs0 (Steps.trans ha (.one stepR_inBlock)),hst,hr⟩
   |ret=>obtain⟨k',hs⟩:=ha;exact⟨.ret,a1,h1,act1,μ1,w1,hQ,⟨k',Steps.trans hs0 hs⟩,hst,hr⟩
   |exit i =>
     obtain⟨k',e1,hs⟩:=ha;simp only[jh]at hQ
     by_cases hi:i=id
     ·rw[if_pos hi]at hQ;have e2:exitTo i k'=some k:=by rw[e1];simp[exitTo,hi]
      exact⟨.nm,a1,h1,act1,μ1,w1,hQ,Steps.trans hs0 (Steps.trans hs (.one (stepR_exit e2))),hst,hr⟩
     ·rw[if_neg hi]at hQ;have e2:exitTo i k'=exitTo i k:=by
       rw[e1];have:¬id=i:=fun e=>hi e.symm;simp[exitTo,this]
      exact⟨.exit i,a1,h1,act1,μ1,w1,hQ,⟨k',e2,Steps.trans hs0 hs⟩,hst,hr⟩
 |loop c ih =>
   intro ic hc hnd k a h act μ w Q hbase s hE;simp only[comp]at hc;obtain⟨cc,hcc,rfl⟩:=Option.map_eq_some_iff.1 hc;simp only[E]at hE;have key:=hE (fun a h=>∀(act:Act) (μ:Mu) (w:World),base≤w.heap.size→SR P n base μ a h act w→Out P n base b k cs (lone (b.atR act (.code c::.inLoop c::k)) cs w) μ h w Q) (by
    intro a h hb act μ w hbase s;obtain⟨e,a1,h1,act1,μ1,w1,hQ,ha,hst,hr⟩:=ih hcc hnd (.inLoop c::k) hbase s hb;cases e with
    |nm=>exact Out.of_steps (Steps.trans ha (.one stepR_inLoop)) hst (hQ act1 μ1 w1 (Nat.le_trans hbase hst.size) hr)
    |ret=>exact⟨.ret,a1,h1,act1,μ1,w1,hQ,ha,hst,hr⟩
    |exit i =>
      obtain⟨k',e1,hs⟩:=ha;exact⟨.exit i,a1,h1,act1,μ1,w1,hQ,⟨k',e1.trans (mZ (by intro i e;cases e)),hs⟩,hst,hr⟩)
   exact Out.of_steps (.one stepR_loop) (St.refl s.rel) (key act μ w hbase s)
 |scope c ih =>
   intro ic hc hnd k a h act μ w Q hbase s hE;simp only[comp]at hc;obtain⟨e,a1,h1,act1,μ1,w1,hQ,ha,hst,hr⟩:=ih hc hnd (.inScope c::k) hbase s hE;have hs0:Steps P (lone (b.atR act (.code (.scope c)::k)) cs w) (lone (b.atR act (.code c::.inScope c::k)) cs w):=.one (step_lone_go (by simp[stepG,stepG.exec,Frame.atR]));cases e with
   |nm=>exact⟨.nm,a1,h1,act1,μ1,w1,hQ,Steps.trans hs0 (Steps.trans ha (.one (step_lone_go (by simp[stepG,stepG.exec,Frame.atR])))),hst,hr⟩
   |ret=>obtain⟨k',hs⟩:=ha;exact⟨.ret,a1,h1,act1,μ1,w1,hQ,⟨k',Steps.trans hs0 hs⟩,hst,hr⟩
   |exit i =>
     obtain⟨k',e1,hs⟩:=ha;exact⟨.exit i,a1,h1,act1,μ1,w1,hQ,⟨k',e1.trans (mZ (by intro i e;cases e)),Steps.trans hs0 hs⟩,hst,hr⟩
 |rangeFunc f ps as bd _ _ =>
   intro ic hc hnd k a h act μ w Q hbase s hE
   by_cases hst:ic=qK
   ·subst hst;exact hE.elim
   have hro:b.roundOf=none:=by
    cases hb:b.roundOf with
    |none=>rfl
    |some l =>
      have:=hnd (by rw[hb];simp);simp only[comp]at hc;split at hc
      ·split at hc
       ·cases hc;cases this
       ·cases hc;exact absurd rfl hst
      ·cases hc;exact absurd rfl hst
   exact hrange n base b cs f ps as bd ic hc hro (Nat.le_refl _) k a h act μ w Q hbase s hE
 |_ =>
   intro ic hc hnd k a h act μ w Q hbase s hE;simp only[comp,Option.some.injEq]at hc;subst hc;exact hE.elim
end
section
open Go
variable{P:Program}{n base:Nat}{μ:Mu}{h:H}{w:World}
def xO(tmps:Array Value):ResultVar→Sem Value
 |.tmp t=>pure (tmps.getD t Go.undef)
 |.cell a t=>do loadVar t (← asAddr (tmps.getD a Go.undef))
theorem lN{t:Tm}{tmps:Array Value}(r:R P μ h w)(ht:TR μ n t tmps):∀(rs:List ResultVar) (l:List Res) (vs:List V),Af P n rs=some l→bY (l.map (kU t h))=some vs →
  ∃ds,VRs μ vs ds∧(rs.mapM (xO tmps)).run P w=.ok ds w
 |[],l,vs,hc,hs=>by
   simp only[Af]at hc;cases hc;simp only[List.map_nil,bY]at hs;cases hs;exact⟨[],.nil,by simp⟩
 |.tmp i::rs,l,vs,hc,hs=>by
   simp only[Af]at hc;split at hc
   ·rename_i l' hl;split at hc
    ·cases hc;simp only[List.map_cons,kU]at hs;have key:∃v vs',t i=v∧bY (l'.map (kU t h))=some vs'∧vs=v::vs':=by
      cases hti:t i<;>simp only[hti,bY]at hs<;>(try cases hs;done)
      all_goals
       split at hs
       ·rename_i vs' hvs;cases hs;exact⟨_,vs',rfl,hvs,rfl⟩
       ·cases hs
     obtain⟨v,vs',h1,h2,rfl⟩:=key;obtain⟨ds,hv,hr⟩:=lN r ht rs l' vs' hl h2;have:=ht.2 i;rw[h1]at this;refine⟨tmps.getD i Go.undef::ds,.cons this hv,?_⟩;simp only[List.mapM_cons,xO,Sem.run_bind,Sem.run_pure,Result.andThen_ok,hr]
    ·cases hc
   ·cases hc
 |.cell i ty::rs,l,vs,hc,hs=>by
   simp only[Af]at hc;split at hc
   ·rename_i l' s g hl hz;split at hc
    ·cases hc;simp only[List.map_cons,kU]at hs;cases hti:t i<;>simp only[hti,bY]at hs<;>(try cases hs;done);rename_i bb o;cases hb:h bb with
     |none=>simp[hb,bY]at hs
     |some ob =>
       cases ob<;>simp only[hb,bY]at hs<;>(try cases hs;done);rename_i cs ro;cases hp:partOf o s g cs with
       |none=>simp[hp,bY]at hs
       |some v =>
         simp only[hp,bY]at hs;split at hs
         ·rename_i vs' hvs;cases hs;obtain⟨ds,hv,hr⟩:=lN r ht rs l' vs' hl hvs;have hti':=ht.2 i;rw[hti]at hti';obtain⟨L,hL,e⟩:=hti'.ptr_inv;obtain⟨d,hd,hrd⟩:=qc r hz hb hL hp;refine⟨d::ds,.cons hd hv,?_⟩;simp only[List.mapM_cons,xO,Sem.run_bind,e,asAddr,Result.andThen_ok,hrd,hr,Sem.run_pure]
         ·cases hs
    ·cases hc
   ·cases hc
theorem yF{t:Tm}{tmps:Array Value}{fn:Func}{l:List Res}{vs:List V}(r:R P μ h w)(ht:TR μ n t tmps)(hc:Af P n fn.results.toList=some l)(hs:bY (l.map (kU t h))=some vs):
  ∃d,VR μ (packed vs) d∧(results fn tmps).run P w=.ok d w:=by
 obtain⟨ds,hv,hr⟩:=lN r ht _ _ _ hc hs;have hrun:(fn.results.mapM (xO tmps)).run P w=.ok ds.toArray w:=by
  rw[Array.mapM_eq_mapM_toList];simp[hr]
 have e:results fn tmps=(do let vs ← fn.results.mapM (xO tmps);pure (if h:vs.size=1 then vs[0]else .tuple vs)):=by
  unfold results;congr 1
 rw[e];simp only[Sem.run_bind,hrun,Result.andThen_ok,Sem.run_pure];have hl:=hv.len;cases hv with
 |nil=>exact⟨_,VR.mkTup (ds:=[]) .nil,rfl⟩
 |cons h1 h2 =>
   cases h2 with
   |nil=>exact⟨_,h1,rfl⟩
   |cons h3 h4=>exact⟨_,VR.mkTup (.cons h1 (.cons h3 h4)),by simp⟩
theorem St.mark{μ0:Mu}{h0:H}{w0:World}(s:St P μ0 h0 w0 μ h w){r:Nat}{x:Option (List Deferred)}(hr:w.heap[r]?=some (.deferred x))(hb:w0.heap.size≤r)(y:Option (List Deferred)):
  St P μ0 h0 w0 μ h {w with heap:=w.heap.setIfInBounds r (.deferred y)}:=by
 have hne:∀b o L,h b=some o→μ b=some L→L.B≠r:=fun b o L hb hL e=>by
  obtain⟨L',z,e1,e2,e3⟩:=s.rel.at_ b o hb;rw[hL]at e1;cases e1;rw[e,hr]at e2;cases e2;exact OR.no_defer e3
 refine⟨s.le,⟨s.rel.fin,fun b o hb=>?_,s.rel.inj,s.rel.glob,fun b o L z hb hL hz=>?_⟩,by simp;exact s.size,fun B hB ho=>?_,s.own,s.fresh,s.os,s.tape,s.output⟩
 ·obtain⟨L,z,e1,e2,e3⟩:=s.rel.at_ b o hb;refine⟨L,z,e1,?_,e3⟩;rw[Array.getElem?_setIfInBounds_ne (Ne.symm (hne b o L hb e1))];exact e2
 ·rw[Array.getElem?_setIfInBounds_ne (Ne.symm (hne b o L hb hL))]at hz;exact s.rel.byt b o L z hb hL hz
 ·rw[Array.getElem?_setIfInBounds_ne (by omega)];exact s.kept B hB ho
theorem sH{fr:Frame}{cs:List Frame}{w':World}{d:Deferred}{ds:List Deferred}{v:Value}(hm:fr.mode=.returning)(hd:fr.defers=d::ds){fv:Go.Fn}{cap:Array Value}(ht:d.target=.fn fv cap)
  (hi:(invoke d.target d.args).run P w=.ok (.value v) w'):step P (lone fr cs w)=.next (lone {fr with defers:=ds} cs w'):=by
 obtain⟨t,a⟩:=d;simp only at ht hi;subst ht;refine step_lone_go ?_;simp[stepG,unwind,callDeferred,hm,hd,hi]
theorem ui{fr:Frame}{cs:List Frame}{ds:List Deferred}{r:Nat}(hm:fr.mode=.returning)(hd:fr.defers={target:=.collected r,args:=#[]}::ds)(hr:w.heap[r]?=some (.deferred (some []))):
  step P (lone fr cs w)=.next (lone {fr with defers:=ds} cs {w with heap:=w.heap.setIfInBounds r (.deferred none)}):=by
 refine step_lone_go ?_;have:(Instr.takeDeferred r).run P w=.ok [] {w with heap:=w.heap.setIfInBounds r (.deferred none)}:=by
  simp[Instr.takeDeferred,getObj,setObj,Sem.run,Sem.run_bind,hr]
 simp[stepG,unwind,hm,hd,this]
theorem DR.unmark{r:Nat}{y:Obj}{ds:List (V × List V)}{Ds:List Deferred}(hD:DR μ base w ds Ds)(hn:∀d∈Ds,d.target≠.collected r):DR μ base {w with heap:=w.heap.setIfInBounds r y} ds Ds:=by
 induction hD with
 |nil=>exact .nil
 |call a b c _ ih=>exact .call a b c (ih fun d hd=>hn d (List.mem_cons_of_mem _ hd))
 |mark a b c _ ih =>
   rename_i q _ _ _;have hq:r≠q:=fun e=>hn _ (List.mem_cons_self ..) (by rw[e]);refine .mark a ?_ c (ih fun d hd=>hn d (List.mem_cons_of_mem _ hd))
   show(w.heap.setIfInBounds r y)[q]?=_
   rw[Array.getElem?_setIfInBounds_ne hq];exact b
theorem BO{μ0:Mu}{h0:H}{w0:World}(hbase:base=w0.heap.size){K:H→Prop}:∀(Ds:List Deferred) {ds:List (V × List V)} {μ:Mu} {h:H} {w:World} (fr:Frame) (cs:List Frame),DR μ base w ds Ds→St P μ0 h0 w0 μ h w→fr.mode=.returning→fr.defers=Ds→yz (Snd P) ds h K →
  ∃μ' h' w',K h'∧Steps P (lone fr cs w) (lone {fr with defers:=[]} cs w')∧μ.le μ'∧St P μ0 h0 w0 μ' h' w':=by
 intro Ds;induction Ds with
 |nil =>
   intro ds μ h w fr cs hD s hm hd hE;cases hD;refine⟨μ,h,w,hE,?_,.refl _,s⟩;have:({fr with defers:=[]}:Frame)=fr:=by rw[← hd]
   rw[this];exact Steps.refl P _
 |cons D Ds ih =>
   intro ds μ h w fr cs hD s hm hd hE;cases hD with
   |call h1 h2 h3 h4 =>
     rename_i f first cap args as cs' args' ds
     simp only[yz]at hE;have hran:=hE μ w (as++args'++cs') ((h1.append h3).append h2) s.rel;have hargs:(as++args'++cs').toArray=(as.toArray++args'.toArray)++cs'.toArray:=by simp
     rw[hargs]at hran;rcases hran with⟨v,w',hr,v',h',μ',hK,hv,hst⟩|⟨hr,hent⟩
     ·obtain⟨μ2,h2',w2,hK2,hs2,hle2,hst2⟩:=ih {fr with defers:=Ds} cs (h4.mono hst s.rel) (s.trans hst) hm rfl hK;exact⟨μ2,h2',w2,hK2,Steps.head (sH hm hd rfl hr) hs2,hst.le.trans hle2,hst2⟩
     ·obtain⟨v,w',fr1,⟨v',h',μ',hK,hv,hst⟩,hs,hfn,hk,hmo,hde,hres⟩:=hent .deferred (.inr rfl) ({fr with defers:=Ds}::cs);have hback:=step_going_returned (c:={fr with defers:=Ds}) (cs:=cs) hk ⟨hmo,hde,hres⟩;have hset:settle ({fr with defers:=Ds}:Frame).mode=.returning:=by show settle fr.mode=_;rw[hm];rfl
      rw[hset]at hback;have hfr:({({fr with defers:=Ds}:Frame)with mode:=.returning}:Frame)={fr with defers:=Ds}:=by
       rw[← hm]
      rw[hfr]at hback;obtain⟨μ2,h2',w2,hK2,hs2,hle2,hst2⟩:=ih {fr with defers:=Ds} cs (h4.mono hst s.rel) (s.trans hst) hm rfl hK;refine⟨μ2,h2',w2,hK2,Steps.head (step_defer (by rw[hm];simp) hd rfl hr) (Steps.trans hs (Steps.head hback hs2)),hst.le.trans hle2,hst2⟩
   |mark h1 h2 h3 h4 =>
     rename_i r;have s':=s.mark h2 (by omega) none;have hD':DR μ base {w with heap:=w.heap.setIfInBounds r (.deferred none)} ds Ds:=by
      exact h4.unmark h3
     obtain⟨μ2,h2',w2,hK2,hs2,hle2,hst2⟩:=ih {fr with defers:=Ds} cs hD' s' hm rfl hE;exact⟨μ2,h2',w2,hK2,Steps.head (ui hm hd h2) hs2,hle2,hst2⟩
end
section
open Go
variable{P:Program}{n base:Nat}{μ:Mu}{h:H}{w:World}{b:Frame}{cs:List Frame}
theorem St.extra(r:R P μ h w)(x:Obj):St P μ h w μ h (w.alloc x):=by
 refine⟨.refl _,⟨r.fin,fun b o hb=>?_,r.inj,r.glob,fun b o L z hb hL hz=>by rw[alloc_old w x (r.lt hb hL)]at hz;exact r.byt b o L z hb hL hz⟩,by simp,fun B hB _=>alloc_old w x hB,fun B hB=>.inl hB,fun b hb=>.inl hb,rfl,rfl,rfl⟩;obtain⟨L,z,e1,e2,e3⟩:=r.at_ b o hb;exact⟨L,z,e1,by rw[alloc_old w x (Array.getElem?_eq_some_iff.1 e2).1];exact e2,e3⟩
theorem St.drop(r:R P μ h w){l:Nat}{o:AObj}{L:Loc}(hl:h l=some o)(hro:o.ro=false)(hL:μ l=some L){w':World}{x:Obj}(hat:At w w' L.B x):St P μ h w μ (hset h l none) w':=by
 have hs:Sub (hset h l none) h:=fun b o hb=>by
  by_cases e:b=l
  ·subst e;simp[hset]at hb
  ·simpa[hset,e]using hb
 refine⟨.refl _,⟨r.fin,fun b o' hb=>?_,fun b b' o o' L L' h1 h2=>r.inj b b' o o' L L' (hs _ _ h1) (hs _ _ h2),r.glob,fun b o' L' z hb hL' hz=>?_⟩,by rw[hat.size];exact Nat.le_refl _,fun B hB hO=>hat.else_ B fun e=>hO ⟨l,o,L,hl,hro,hL,e.symm⟩,
  fun B ⟨b,o,L,hb,q⟩=>.inl ⟨b,o,L,hs _ _ hb,q⟩,fun b hb=>.inl fun e=>?_,hat.rest.1,hat.rest.2.1,hat.rest.2.2⟩
 ·have hne:b≠l:=fun e=>by subst e;simp[hset]at hb
  obtain⟨L',z,e1,e2,e3⟩:=r.at_ b o' (hs _ _ hb);exact⟨L',z,e1,by rw[hat.else_ _ fun e=>r.inj l b o o' L L' hl (hs _ _ hb) (Ne.symm hne) hL e1 hro e.symm];exact e2,e3⟩
 ·have hne:b≠l:=fun e=>by subst e;simp[hset]at hb
  rw[hat.else_ _ fun e=>r.inj l b o o' L L' hl (hs _ _ hb) (Ne.symm hne) hL hL' hro e.symm]at hz;exact r.byt b o' L' z (hs _ _ hb) hL' hz
 ·by_cases e':b=l
  ·subst e';simp[hset]at hb
  ·simp[hset,e',e]at hb
theorem run_getLoop{l:Nat}{r:Loop}(hx:w.heap[l]?=some (.loop r)):(Instr.getLoop l).run P w=.ok r w:=by
 simp[Instr.getLoop,getObj,Sem.run,hx,Sem.run_bind]
theorem oq{l:Nat}{r:Loop}{y:Obj}(hx:w.heap[l]?=some (.loop r)):(setObj l y).run P w=.ok () {w with heap:=w.heap.setIfInBounds l y}:=by simp[setObj,Sem.run,hx]
theorem DR.lt{ds:List (V × List V)}{Ds:List Deferred}(hD:DR μ base w ds Ds):∀d∈Ds,d.target≠.collected w.heap.size:=by
 induction hD with
 |nil=>intro d hd;cases hd
 |call a b c _ ih =>
   intro d hd;rcases List.mem_cons.1 hd with rfl|hd
   ·intro e;cases e
   ·exact ih d hd
 |mark a hb c _ ih =>
   intro d hd;rcases List.mem_cons.1 hd with rfl|hd
   ·intro e;cases e;rw[Array.getElem?_eq_none (Nat.le_refl _)]at hb;cases hb
   ·exact ih d hd
theorem oD{a:Act}{k:List Item}{g:Operand}{ps:Array Tmp}{assign body:Code}{l:Nat}{mk:List Deferred}{w₁ w₁' w₂:World}{d:Deferred}{v:Value}
  (he:(Instr.enterLoop b.fn a.tmps ps assign body b.roundOf).run P w=.ok (l,mk) w₁)
  (hres:(resolve a.eval (rangeCall g l) 0).run P w₁=.ok d w₁') (hinv:(invoke d.target d.args).run P w₁'=.ok (.value v) w₂):
  step P (lone (b.atR a (.code (.rangeFunc g ps assign body)::k)) cs w) =
   .next (lone (b.atR {a with defers:=mk++a.defers} (.endRangeFunc l::k)) cs w₂):=
 step_lone_go (by
  have hev:=Frame.eval_atR b {a with defers:=mk++a.defers} (.inRangeFunc l::k);simp only[Frame.atR]at hev;have hres':Sem.run P (resolve ({tmps:=a.tmps,defers:=mk++a.defers}:Act).eval {callee:=.value g,args:=#[.const (.func (.yield l) #[] #[])],argTypes:=#[]} 0) w₁=.ok d w₁':=hres;simp[stepG,stepG.exec,Frame.atR,Sem.runT_eq,he,GStep.bare_after,stepG.apply,hev,Sem.run_bind,hres',hinv,Result.andThen,Frame.finish])
theorem xM:Gl P:=by
 intro n base b cs f ps as bd ic hc hro _ k a h act μ w Q hbase s hE;simp only[comp]at hc;split at hc
 ·rename_i f' ca cb h1 h2 h3;split at hc
  ·rename_i hchk;cases hc;obtain⟨hda,hdb,hps⟩:=hchk;have hst1:St P μ h w μ h (w.alloc (.deferred (some []))):=St.extra s.rel _;have hsz:act.tmps.size=n:=s.t.1
   let r:Loop:={state:=.ready,pending:=none,fn:=b.fn,tmps:=act.tmps,params:=ps,assign:=as,body:=bd,defers:=w.heap.size}
   obtain⟨l,hl1,hl2,_,hst2⟩:=St.new hst1.rel (.loop r) (.loop a.t ps.toList ca cb .ready none) 0 (fun l hl=>by
    have hle:μ.le (fun i=>if i=l then some ⟨(w.alloc (.deferred (some []))).heap.size,0,0⟩else μ i):=fun b L e=>by
     have:b≠l:=fun e'=>by subst e';rw[hl]at e;cases e
     simp[this,e]
    refine⟨r,rfl,rfl,rfl,by simp[r],fun i=>(s.t.2 i).mono hle,fun p hp=>?_,by show comp P act.tmps.size as=_;rw[hsz];exact h2,by show comp P act.tmps.size bd=_;rw[hsz];exact h3,hda,hdb⟩
    show p<act.tmps.size
    rw[hsz];have:=List.all_eq_true.1 hps p hp;simpa using this)
   have hst12:=hst1.trans hst2;generalize hμ1:(fun i=>if i=l then some (⟨(w.alloc (.deferred (some []))).heap.size,0,0⟩:Loc)else μ i)=μ1 at hst2 hst12;have hLl:μ1 l=some ⟨(w.alloc (.deferred (some []))).heap.size,0,0⟩:=by rw[← hμ1];simp
   have hB:(w.alloc (.deferred (some []))).heap.size=w.heap.size+1:=by simp
   have henter:(Instr.enterLoop b.fn act.tmps ps as bd b.roundOf).run P w=.ok (w.heap.size+1,[{target:=.collected w.heap.size,args:=#[]}]) ((w.alloc (.deferred (some []))).alloc (.loop r)):=by
    rw[hro,← hB];rfl
   have s1:SR P n base μ1 a (hadd h l (.loop a.t ps.toList ca cb .ready none)) {act with defers:=[{target:=.collected w.heap.size,args:=#[]}]++act.defers} ((w.alloc (.deferred (some []))).alloc (.loop r)):=by
    have s0:=s.step hst12;refine⟨s0.rel,s0.t,.mark hbase ?_ (s.d.lt) s0.d⟩;rw[alloc_old _ _ (by rw[hB];omega)];exact sQ w _
   simp only[E]at hE;have hEl:=hE l hl2;cases hfe:f'.ev a.t<;>simp only[hfe]at hEl<;>(try exact hEl.elim);rename_i g first cap
   have hfv:=aY s.rho h1;rw[hfe]at hfv;obtain⟨fs,cps,e,q1,q2⟩:=hfv.fn_inv;have hran:=hEl μ1 _ (fs++[.func (.yield (w.heap.size+1)) #[] #[]]++cps) (((VRs.mono hst12.le q1).append (.cons (by have:=VR.yield hLl;rw[hB]at this;exact this) .nil)).append (VRs.mono hst12.le q2)) s1.rel;have hres:(resolve act.eval (rangeCall f (w.heap.size+1)) 0).run P ((w.alloc (.deferred (some []))).alloc (.loop r))=.ok {target:=.fn (.func g) cps.toArray,args:=fs.toArray++#[.func (.yield (w.heap.size+1)) #[] #[]]} ((w.alloc (.deferred (some []))).alloc (.loop r)):=by
    have hm:(#[Operand.const (.func (.yield (w.heap.size+1)) #[] #[])].map act.eval)=#[.func (.yield (w.heap.size+1)) #[] #[]]:=by simp[Act.eval]
    simp only[resolve,rangeCall,e,Deferred.ofValue,Sem.run_pure,hm]
   have hargs:(fs++[Value.func (.yield (w.heap.size+1)) #[] #[]]++cps).toArray=(fs.toArray++#[.func (.yield (w.heap.size+1)) #[] #[]])++cps.toArray:=by simp
   rw[hargs]at hran;have hcall:∃d w',After P μ1 (hadd h l (.loop a.t ps.toList ca cb .ready none)) ((w.alloc (.deferred (some []))).alloc (.loop r)) (fun _ h'=>∃t ps as bd st pd,h' l=some (.loop t ps as bd st pd)∧st≠.busy∧Q (pd.getD .nm) a (hset h' l none)) d w' ∧
     Steps P (lone (b.atR act (.code (.rangeFunc f ps as bd)::k)) cs w) (lone (b.atR {act with defers:=[{target:=.collected w.heap.size,args:=#[]}]++act.defers} (.endRangeFunc (w.heap.size+1)::k)) cs w'):=by
    rcases hran with⟨d,w',hr,ha⟩|⟨hr,hent⟩
    ·exact⟨d,w',ha,.one (oD henter hres hr)⟩
    ·obtain⟨d,w',fr,ha,hs,hfn,hk,hm,hd,fn,hff,hres'⟩:=hent .normal (.inl rfl) (b.atR {act with defers:=[{target:=.collected w.heap.size,args:=#[]}]++act.defers} (.inRangeFunc (w.heap.size+1)::k)::cs);refine⟨d,w',ha,Steps.head (stepR_rangeFunc henter hres hr) (Steps.trans hs (.one ?_))⟩;rw[← finish_atR_inRangeFunc (w.heap.size+1) d];exact step_leave_returned ⟨hm,hd,hk,fn,hff,hres'⟩
   obtain⟨d,w',⟨v,h',μ',⟨t,ps',as',bd',st,pd,hl',hst',hQ⟩,_,hst3⟩,hs⟩:=hcall;have hLl':=hst3.le l _ hLl;obtain⟨L',x,e1,e2,e3⟩:=hst3.rel.at_ l _ hl';rw[hLl']at e1;cases e1;obtain⟨r',rfl,g1,g2,g3⟩:=e3;have hlt:w.heap.size+1<w'.heap.size:=(Array.getElem?_eq_some_iff.1 (by rw[hB]at e2;exact e2)).1;have e2':w'.heap[w.heap.size+1]?=some (.loop r'):=by rw[hB]at e2;exact e2
   have hbusy:(r'.state==.busy)=false:=by
    cases st
    ·simp only[LSt.is]at g1;rw[g1];rfl
    ·exact absurd rfl hst'
    ·simp only[LSt.is]at g1;rw[g1];rfl
   have hend:(Instr.endLoop (w.heap.size+1)).run P w'=.ok r'.pending {w' with heap:=w'.heap.setIfInBounds (w.heap.size+1) (.loop {r' with state:=.exhausted})}:=by
    simp only[Instr.endLoop,Sem.run_bind,run_getLoop e2',Result.andThen_ok,hbusy,Bool.false_eq_true,if_false,Sem.run_pure,oq e2']
   have hat:=dG (w:=w') (o:=.loop r') hlt (.loop {r' with state:=.exhausted});rw[← hB]at hat;have hst4:=St.drop hst3.rel hl' rfl hLl' hat;have hstall:=(hst12.trans hst3).trans hst4;have sfin:=(s1.step hst3).step hst4;have hs2:Steps P (lone (b.atR act (.code (.rangeFunc f ps as bd)::k)) cs w) (lone (b.atR {act with defers:=[{target:=.collected w.heap.size,args:=#[]}]++act.defers} ((r'.pending.map Item.code).toList++k)) cs {w' with heap:=w'.heap.setIfInBounds (w.heap.size+1) (.loop {r' with state:=.exhausted})}):=
    Steps.trans hs (.one (stepR_endRangeFunc hend))
   rw[← hB]at hs2;revert hs2 hstall sfin;generalize ({w' with heap:=w'.heap.setIfInBounds (w.alloc (.deferred (some []))).heap.size (.loop {r' with state:=.exhausted})}:World)=wf;intro hstall sfin hs2;refine⟨pd.getD .nm,a,hset h' l none,_,μ',_,hQ,?_,hstall,sfin⟩;cases pd with
   |none=>simp only[Ex.is]at g2;rw[g2]at hs2;exact hs2
   |some e =>
     cases e with
     |nm=>exact g2.elim
     |ret=>simp only[Ex.is]at g2;rw[g2]at hs2;exact⟨k,hs2⟩
     |exit id=>simp only[Ex.is]at g2;rw[g2]at hs2;exact⟨k,rfl,hs2⟩
  ·cases hc;exact hE.elim
 ·cases hc;exact hE.elim
end
section
open Go
variable{P:Program}{n base:Nat}{μ:Mu}{h:H}{w:World}{b:Frame}{cs:List Frame}
structure PgOk(P:Program)(pg:Pg):Prop where
 mixed:P.follows .mixedOrders=true
 fns:∀f g,pg.fns f=some g→∃fn,P.funcs[f]?=some fn∧compF P fn=some g∧fn.name ≠ "runtime.NumGoroutine"
 known:∀f args v,pg.known f args=some v→∀μ h w args',VRs μ args args'→R P μ h w→Ran P f args'.toArray w (After P μ h w fun v' h'=>v'=v∧h'=h)
theorem vT{fn:Func}{g:Fn}(hc:compF P fn=some g):∃c,fn.body=some c∧comp P fn.ntmps c=some g.body∧Af P fn.ntmps fn.results.toList=some g.res∧g.n=fn.ntmps:=by
 unfold compF at hc;split at hc
 ·cases hc
 ·rename_i c hb;split at hc
  ·rename_i b r h1 h2;cases hc;exact⟨c,hb,h1,h2,rfl⟩
  ·cases hc
theorem N8{args:List V}{args':List Value}(hv:VRs μ args args')(hl:args.length≤n):TR μ n (start args) (args'.toArray++Array.replicate (n-args'.toArray.size) Go.undef):=by
 have hlen:=hv.len;refine⟨by simp;omega,fun i=>?_⟩;rw[Array.getD_eq_getD_getElem?];rcases Nat.lt_or_ge i args.length with hi|hi
 ·obtain⟨d,hd,hr⟩:=hv.get (List.getElem?_eq_getElem hi);have hi':i<args'.toArray.size:=by simp;omega
  rw[Array.getElem?_append_left hi'];simp only[start,List.getElem?_eq_getElem hi,Option.getD_some];have:args'.toArray[i]?=some d:=by simpa using hd
  rw[this];exact hr
 ·simp only[start,List.getElem?_eq_none hi,Option.getD_none];have hi':args'.toArray.size≤i:=by simp;omega
  rw[Array.getElem?_append_right hi'];have:((Array.replicate (n-args'.toArray.size) Go.undef)[i-args'.toArray.size]?).getD Go.undef=Go.undef:=by
   rw[Array.getElem?_replicate];split<;>rfl
  rw[this];exact yj
theorem KH{pg:Pg}(ok:PgOk P pg){f:Nat}{args:List V}{Q:V→H→Prop}(hF:F pg (Snd P) (.fn f) args h Q):Snd P (.fn f) args h Q:=by
 intro μ w args' hv r;simp only[F]at hF;rcases hF with⟨v,hk,hq⟩|⟨g,hg,hl,hE⟩
 ·exact(ok.known f args v hk μ h w args' hv r).mono fun d w'=>After.mono fun v' h' e=>by rw[e.1,e.2];exact hq
 ·obtain⟨fn,hf,hcf,hname⟩:=ok.fns f g hg;obtain⟨c,hb,hc,hres,hn⟩:=vT hcf;refine .inr ⟨?_,fun kind hkind cs=>?_⟩
  ·simp[callFunc,hf,hname,hb]
  ·let b:Frame:={(default:Frame)with fn:=f,kind:=kind}
   have hro:b.roundOf=none:=rfl;have henter:Frame.enter P f args'.toArray kind=b.atR {tmps:=args'.toArray++Array.replicate (fn.ntmps-args'.toArray.size) Go.undef,defers:=[]} [.code c]:=by
    rw[Frame.atR_of_none hro];simp[Frame.enter,Frame.at,hf,hb,b]
   rw[hn]at hl;have s0:SR P fn.ntmps w.heap.size μ ⟨start args,[]⟩ h {tmps:=args'.toArray++Array.replicate (fn.ntmps-args'.toArray.size) Go.undef,defers:=[]} w:=⟨r,N8 hv hl,.nil⟩;obtain⟨e,a',h',act',μ',w',⟨he,hdf⟩,ha,hst,hr⟩:=ql (b:=b) (cs:=cs) ok.mixed xM c hc (fun hb=>absurd hro hb) [] (Nat.le_refl _) s0 hE;rw[← henter]at ha;have hfin:∃todo,Steps P (lone (Frame.enter P f args'.toArray kind) cs w) (lone {b.atR act' todo with mode:=.returning} cs w'):=by
    rcases he with rfl|rfl
    ·exact⟨[],Steps.trans ha (.one (stepR_end hro))⟩
    ·obtain⟨k',hs⟩:=ha;exact⟨.code .ret::k',Steps.trans hs (.one (stepR_ret hro))⟩
   obtain⟨todo,hs⟩:=hfin;obtain⟨μ2,h2,w2,⟨vs,h3,hvs,hsub,hQ⟩,hs2,hle,hst2⟩:=BO rfl act'.defers {b.atR act' todo with mode:=.returning} cs hr.d hst rfl rfl hdf;obtain⟨d,hd,hrun⟩:=yF hst2.rel (hr.t.mono hle) hres hvs;exact⟨d,w2,_,⟨packed vs,h3,μ2,hQ,hd,hst2.sub hsub⟩,Steps.trans hs hs2,rfl,rfl,rfl,rfl,fn,hf,hrun⟩
theorem zu:∀(ps:List Nat) (args:List V) (args':List Value) {t:Tm} {tmps:Array Value},TR μ n t tmps→(∀p∈ps,p<n)→VRs μ args args'→ps.length=args.length →
  TR μ n (params t ps args) ((ps.zip args').foldl (fun tmps (t,a)=>tmps.setIfInBounds t a) tmps)
 |[],args,args',t,tmps,ht,_,_,_=>by simpa[params]using ht
 |p::ps,args,args',t,tmps,ht,hp,hv,hl=>by
   cases hv with
   |nil=>simp at hl
   |cons h1 h2 =>
     simp only[params,List.zip_cons_cons,List.foldl_cons];exact zu ps _ _ (ht.set (hp p (by simp)) h1) (fun q hq=>hp q (by simp[hq])) h2 (by simpa using hl)
theorem Ej{pg:Pg}(ok:PgOk P pg){l:Nat}{args:List V}{Q:V→H→Prop}(hF:F pg (Snd P) (.round l) args h Q):Snd P (.round l) args h Q:=by
 intro μ w args' L hv r hL;simp only[F]at hF;obtain⟨t,ps,as,bd,pd,hl,hlen,hE⟩:=hF;obtain⟨L',x,e1,hx,lr,rfl,g1,g2,g3,g4,g5,g6,g7,g8,g9⟩:=r.at_ l _ hl;rw[hL]at e1;cases e1;have hyield:(Instr.yield L.B args'.toArray).run P w=.ok (.round L.B lr.fn ((lr.params.zip args'.toArray).foldl (fun tmps (t,a)=>tmps.setIfInBounds t a) lr.tmps) lr.assign lr.body) w:=by
  have:args'.toArray.size=lr.params.size:=by rw[g3];simp;rw[← hv.len,hlen]
  simp[Instr.yield,Sem.run_bind,run_getLoop hx,this]
 refine⟨_,_,_,_,hyield,fun c cs=>?_⟩
 let b:Frame:={(default:Frame)with fn:=lr.fn,kind:=.normal,roundOf:=some L.B}
 have hro:b.roundOf=some L.B:=rfl;have hkd:b.kind=.normal:=rfl;generalize htm:(lr.params.zip args'.toArray).foldl (fun tmps (t,a)=>tmps.setIfInBounds t a) lr.tmps=tm;have hround:Frame.round L.B lr.fn tm lr.assign lr.body .normal=b.atR {tmps:=tm,defers:=[]} [.code lr.assign,.beginRound,.code lr.body]:=by
  simp[Frame.round,Frame.atR,b]
 have htr:TR μ lr.tmps.size (params t ps args) tm:=by
  rw[← htm,g3];have:=zu ps args args' (t:=t) (tmps:=lr.tmps) ⟨rfl,g4⟩ g5 hv hlen;rw[← Array.foldl_toList];simpa using this
 have s0:SR P lr.tmps.size w.heap.size μ ⟨params t ps args,[]⟩ h {tmps:=tm,defers:=[]} w:=⟨r,htr,.nil⟩;obtain⟨e,a1,h1,act1,μ1,w1,⟨he,_,t1,ps1,as1,bd1,pd1,hl1,hE1⟩,ha,hst,hr⟩:=ql (b:=b) (cs:=c::cs) ok.mixed xM lr.assign g6 (fun _=>g8) [.beginRound,.code lr.body] (Nat.le_refl _) s0 hE;subst he;rw[← hround]at ha;have hL1:=hst.le l _ hL;obtain⟨L1,x1,e1,hx1,lr1,rfl,k1,k2,k3,k4,k5,k6,k7,k8,k9⟩:=hst.rel.at_ l _ hl1;rw[hL1]at e1;cases e1;have hbegin:(Instr.beginRound L.B).run P w1=.ok () {w1 with heap:=w1.heap.setIfInBounds L.B (.loop {lr1 with state:=.busy})}:=by
  simp only[LSt.is]at k1;simp only[Instr.beginRound,Sem.run_bind,run_getLoop hx1,Result.andThen_ok,oq hx1,k1,Sem.run_pure]
 have hlt1:L.B<w1.heap.size:=(Array.getElem?_eq_some_iff.1 hx1).1;have hat1:=dG (w:=w1) (o:=.loop lr1) hlt1 (.loop {lr1 with state:=.busy});have hst1:St P μ1 h1 w1 μ1 (hadd h1 l (.loop t1 ps1 as1 bd1 .busy pd1)) {w1 with heap:=w1.heap.setIfInBounds L.B (.loop {lr1 with state:=.busy})}:=
  St.put hst.rel hl1 rfl hL1 hat1.size hat1.here hat1.else_ hat1.rest ⟨_,rfl,rfl,k2,k3,k4,k5,k6,k7,k8,k9⟩ (fun _ _=>Kp.no fun _ _ _ e=>by cases e)
 have s1:=hr.step hst1;have hs1:=Steps.trans ha (.one (stepR_beginRound (k:=[.code lr.body]) hro hbegin));obtain⟨e2,a2,h2,act2,μ2,w2,⟨_,t2,ps2,as2,bd2,st2,pd2,h3,hl2,hsub,hQ⟩,ha2,hst2,hr2⟩:=ql (b:=b) (cs:=c::cs) ok.mixed xM lr.body g7 (fun _=>g9) [] (Nat.le_trans hst.size hst1.size) s1 hE1;have hL2:=hst2.le l _ hL1;obtain⟨L2,x2,e1,hx2,lr2,rfl,q1,q2,q3,q4,q5,q6,q7,q8,q9⟩:=hst2.rel.at_ l _ hl2;rw[hL2]at e1;cases e1;have hlt2:L.B<w2.heap.size:=(Array.getElem?_eq_some_iff.1 hx2).1;have fin:∀(jump:Option Code),Ex.is (yP e2) jump→(yQ e2).is (if jump.isNone then .ready else .done)→jump.isNone=(e2==.nm) →
   step P (lone (b.atR act2 []) (c::cs) w2)=step P (lone (b.atR act2 []) (c::cs) w2) →
   (∀v w',(Instr.endRound L.B jump).run P w2=.ok v w'→Steps P (lone (Frame.round L.B lr.fn tm lr.assign lr.body .normal) (c::cs) w) (lone (c.finish v) cs w')) →
   ∃v w',After P μ h w Q v w'∧Steps P (lone (Frame.round L.B lr.fn tm lr.assign lr.body .normal) (c::cs) w) (lone (c.finish v) cs w'):=by
  intro jump j1 j2 j3 _ hgo;have hend:(Instr.endRound L.B jump).run P w2=.ok (.bool jump.isNone) {w2 with heap:=w2.heap.setIfInBounds L.B (.loop {lr2 with state:=if jump.isNone then .ready else .done,pending:=jump})}:=by
   simp only[Instr.endRound,Sem.run_bind,run_getLoop hx2,Result.andThen_ok,oq hx2,Sem.run_pure]
  have hat2:=dG (w:=w2) (o:=.loop lr2) hlt2 (.loop {lr2 with state:=if jump.isNone then .ready else .done,pending:=jump});have hst3:St P μ2 h2 w2 μ2 (hadd h2 l (.loop t2 ps2 as2 bd2 (yQ e2) (yP e2))) {w2 with heap:=w2.heap.setIfInBounds L.B (.loop {lr2 with state:=if jump.isNone then .ready else .done,pending:=jump})}:=
   St.put hst2.rel hl2 rfl hL2 hat2.size hat2.here hat2.else_ hat2.rest ⟨_,rfl,j2,j1,q3,q4,q5,q6,q7,q8,q9⟩ (fun _ _=>Kp.no fun _ _ _ e=>by cases e)
  exact⟨_,_,⟨.bool (e2==.nm),h3,μ2,hQ,by rw[j3];exact .bool _,(((hst.trans hst1).trans hst2).trans hst3).sub hsub⟩,hgo _ _ hend⟩
 cases e2 with
 |nm=>exact fin none rfl rfl rfl rfl fun v w' hend=>Steps.trans hs1 (Steps.trans ha2 (.one (stepR_round_end hro hkd hend)))
 |ret =>
   obtain⟨k',hs2⟩:=ha2;exact fin (some .ret) rfl rfl rfl rfl fun v w' hend=>Steps.trans hs1 (Steps.trans hs2 (.one (stepR_round_ret hro hkd hend)))
 |exit id =>
   obtain⟨k',hk',hs2⟩:=ha2;exact fin (some (.exit id)) rfl rfl rfl rfl fun v w' hend=>Steps.trans hs1 (Steps.trans hs2 (.one (stepR_round_exit hro hkd (by rw[hk'];rfl) hend)))
theorem sound{pg:Pg}(ok:PgOk P pg){c:Callee}{args:List V}{Q:V→H→Prop}(hA:AC pg c args h Q):Snd P c args h Q:=
 hA (Snd P) fun c args h Q hF=>by
  cases c with
  |fn f=>exact KH ok hF
  |round l=>exact Ej ok hF
theorem JP{pg:Pg}(ok:PgOk P pg){f:Nat}{g:Fn}(hg:pg.fns f=some g){args:List V}{args':List Value}{Q:V→H→Prop}(hA:AC pg (.fn f) args h Q)(hv:VRs μ args args')(r:R P μ h w):
  Calls P f args'.toArray w fun e w'=>∃d,e=.returned d∧After P μ h w Q d w':=by
 obtain⟨fn,hf,hcf,hname⟩:=ok.fns f g hg;obtain⟨c,hb,_⟩:=vT hcf;rcases sound ok hA μ w args' hv r with⟨v,w',hr,_⟩|⟨_,hent⟩
 ·exfalso;simp[callFunc,hf,hname,hb]at hr
 ·intro cs;obtain⟨v,w',fr,hR,hs,hfn,hk,hm,hd,fn',hf',hres⟩:=hent .normal (.inl rfl) cs;exact⟨.returned v,w',fr,⟨v,rfl,hR⟩,hs,hfn,hm,hd,hk,fn',hf',hres⟩
end
end Mir
namespace Mir.Ab
section
open Mir
def t(n:Nat):Opd:=.tmp n
def i(n:Int):Opd:=.c (.int .i64 n)
def u(n:Int):Opd:=.c (.int .u8 n)
def s(l:List UInt8):Opd:=.c (.str l)
def ok(d:Nat)(k:Kind):IOp:=⟨some d,none,k,0,[]⟩
def op(d:Nat)(k:PK):IOp:=⟨some d,none,.p k,0,[]⟩
def oa(d:Nat)(k:AK):IOp:=⟨some d,none,.a k,0,[]⟩
def og(d g:Nat)(b:Bool)(k:Kind):IOp:=⟨some d,some (g,b),k,0,[]⟩
def gm(d g:Nat)(b:Bool)(x:Nat):IOp:=⟨some d,some (g,b),.p (.mv (.tmp x)),0,[]⟩
def mv(d x:Nat):IOp:=⟨some d,none,.p (.mv (.tmp x)),0,[]⟩
def fa(d n x:Nat):IOp:=⟨some d,none,.p (.fieldAt n (.tmp x)),0,[]⟩
def nc(d x:Nat):IOp:=⟨some d,none,.p (.nilchk (.tmp x)),0,[]⟩
def xt(d x n:Nat):IOp:=⟨some d,none,.p (.ext (.tmp x) n),0,[]⟩
def ld(d n x:Nat):IOp:=⟨some d,none,.r (.load n false (.tmp x)),0,[]⟩
def la(d n x:Nat):IOp:=⟨some d,none,.r (.load n true (.tmp x)),0,[]⟩
def st(n x y:Nat):IOp:=⟨none,none,.h (.store n (.tmp x) (.tmp y)),0,[]⟩
def an(d x y:Nat):IOp:=⟨some d,none,.p (.pick (.tmp x) (.tmp y) (.c (.bool false))),0,[]⟩
def oo(d x y:Nat):IOp:=⟨some d,none,.p (.pick (.tmp x) (.c (.bool true)) (.tmp y)),0,[]⟩
def ca(d f:Nat)(l:List Opd):IOp:=⟨some d,none,.h (.call (.c (.fn f [] [])) l),0,[]⟩
def dm(d k x:Nat):IOp:=⟨some d,none,.p (.mv (.tmp x)),k,[]⟩
def df(d k n x:Nat):IOp:=⟨some d,none,.p (.fieldAt n (.tmp x)),k,[]⟩
def dl(d k n x:Nat):IOp:=⟨some d,none,.r (.load n false (.tmp x)),k,[]⟩
def dp(d k:Nat)(q:PK):IOp:=⟨some d,none,.p q,k,[]⟩
def dk(d k:Nat)(q:Kind):IOp:=⟨some d,none,q,k,[]⟩
theorem all:(∀n,t n=.tmp n)∧(∀n,i n=.c (.int .i64 n))∧(∀n,u n=.c (.int .u8 n))∧(∀l,s l=.c (.str l)) ∧
  (∀d k,ok d k=⟨some d,none,k,0,[]⟩)∧(∀d k,op d k=⟨some d,none,.p k,0,[]⟩)∧(∀d k,oa d k=⟨some d,none,.a k,0,[]⟩) ∧
  (∀d g b k,og d g b k=⟨some d,some (g,b),k,0,[]⟩)∧(∀d g b x,gm d g b x=⟨some d,some (g,b),.p (.mv (.tmp x)),0,[]⟩) ∧
  (∀d x,mv d x=⟨some d,none,.p (.mv (.tmp x)),0,[]⟩)∧(∀d n x,fa d n x=⟨some d,none,.p (.fieldAt n (.tmp x)),0,[]⟩) ∧
  (∀d x,nc d x=⟨some d,none,.p (.nilchk (.tmp x)),0,[]⟩)∧(∀d x n,xt d x n=⟨some d,none,.p (.ext (.tmp x) n),0,[]⟩) ∧
  (∀d n x,ld d n x=⟨some d,none,.r (.load n false (.tmp x)),0,[]⟩)∧(∀d n x,la d n x=⟨some d,none,.r (.load n true (.tmp x)),0,[]⟩) ∧
  (∀n x y,st n x y=⟨none,none,.h (.store n (.tmp x) (.tmp y)),0,[]⟩) ∧
  (∀d x y,an d x y=⟨some d,none,.p (.pick (.tmp x) (.tmp y) (.c (.bool false))),0,[]⟩) ∧
  (∀d x y,oo d x y=⟨some d,none,.p (.pick (.tmp x) (.c (.bool true)) (.tmp y)),0,[]⟩) ∧
  (∀d f l,ca d f l=⟨some d,none,.h (.call (.c (.fn f [] [])) l),0,[]⟩) ∧
  (∀d k x,dm d k x=⟨some d,none,.p (.mv (.tmp x)),k,[]⟩)∧(∀d k n x,df d k n x=⟨some d,none,.p (.fieldAt n (.tmp x)),k,[]⟩) ∧
  (∀d k n x,dl d k n x=⟨some d,none,.r (.load n false (.tmp x)),k,[]⟩) ∧
  (∀d k q,dp d k q=⟨some d,none,.p q,k,[]⟩)∧(∀d k q,dk d k q=⟨some d,none,q,k,[]⟩):=by
 repeat' apply An2
 all_goals (intros;rfl)
end

end Mir.Ab
