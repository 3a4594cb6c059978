import Derived.Test.YtkfbldogmgofoaaGreatDoorK10
set_option linter.unusedSimpArgs false
set_option linter.unusedVariables false
namespace Go.Proofs.YtkfbldogmgofoaaGreatDoor
section
open Mir
variable{h:H}{Q:V→H→Prop}{h0 h1 h':H}{p tb:Nat}{T:List Tokn}{s s':PS}{N n c m:Nat}
structure Slot(h0 h:H)(p b8 b3:Nat)(op tx:Txt)(a:Nat)(l:List Tree)(v:V):Prop where
 c8:h b8=some (.cells Z4 false)
 z8:h0 b8=none
 n8:b8≠p
 c3:h b3=some (.cells [.str op,.str tx,.int .i64 a,v] false)
 z3:h0 b3=none
 n3:b3≠p
 n83:b8≠b3
 row:SlAt (gg h0 b8 b3) h p l v
variable{b8 b3 a:Nat}{op tx:Txt}{l:List Tree}{v:V}
theorem Slot.keep(K:Slot h0 h p b8 b3 op tx a l v)(A':PAt (hset h p none) h' p tb T s'):Slot h0 h' p b8 b3 op tx a l v:=
 ⟨A'.keep K.n8 K.c8,K.z8,K.n8,A'.keep K.n3 K.c3,K.z3,K.n3,K.n83,K.row.keep A'⟩
theorem Slot.put(K:Slot h0 h p b8 b3 op tx a l v){b:Nat}{o:AObj}(hb:h b=none):Slot h0 (hadd h b o) p b8 b3 op tx a l v:=
 ⟨by rw[ae (af hb K.c8)];exact K.c8,K.z8,K.n8,by rw[ae (af hb K.c3)];exact K.c3,K.z3,K.n3,K.n83,K.row.put hb⟩
theorem Slot.hz(K:Slot h0 h p b8 b3 op tx a l v)(A:PAt h0 h p tb T s)(y:Nat)(hy:h y=none):gg h0 b8 b3 y=none:=
 pW (af hy K.c3).symm (af hy K.c8).symm (A.new hy)
theorem Slot.st(K:Slot h0 h p b8 b3 op tx a l v){h6:H}(c8:h6 b8=some (.cells Z4 false)){l':List Tree}{v':V}(S:SlAt (gg h0 b8 b3) h6 p l' v'):Slot h0 (hadd h6 b3 (.cells [.str op,.str tx,.int .i64 a,v'] false)) p b8 b3 op tx a l' v' :=
 ⟨by rw[ae K.n83];exact c8,K.z8,K.n8,ah,K.z3,K.n3,K.n83,SlAt.move (fun y o z nx hy=>⟨z,by rw[ae (dM z).1];exact hy⟩) S⟩
theorem Slot.first(K:Slot h0 h p b8 b3 op tx a [] .nilsl)(A:PAt h0 h p tb T s){bn ba:Nat}{m:Tree}{kv:V}(hn:h bn=none)(ha:hadd h bn (.cells (nodeC m kv) false) ba=none)(k:KidsV (gg h0 b8 b3) h p m.kids kv):
  b3≠bn∧b3≠ba∧Slot h0 (hadd (hadd (hadd h bn (.cells (nodeC m kv) false)) ba (.cells (nodeC m kv) false)) b3 (.cells [.str op,.str tx,.int .i64 a,.sl ba 0 4 1] false)) p b8 b3 op tx a [m] (.sl ba 0 4 1) ∧
  PAt h0 (hadd (hadd (hadd h bn (.cells (nodeC m kv) false)) ba (.cells (nodeC m kv) false)) b3 (.cells [.str op,.str tx,.int .i64 a,.sl ba 0 4 1] false)) p tb T s:=by
 have na:ba≠bn:=fun e=>by rw[e]at ha;simp[hadd,hset]at ha
 have ha':h ba=none:=by rw[ae na]at ha;exact ha
 refine⟨af hn K.c3,af ha' K.c3,K.st ?_ (SlAt.first' (K.hz A) (fun y hy=>Ne.symm (A.ne hy)) hn ha (CellsV.one (NodeV.of k))),((A.put hn).put ha).over K.z3 K.n3⟩;rw[ae (af ha' K.c8),ae (af hn K.c8)];exact K.c8
theorem Slot.more{b:Nat}(K:Slot h0 h p b8 b3 op tx a l (.sl b 0 4 l.length))(A:PAt h0 h p tb T s){bn ba:Nat}{m:Tree}{kv:V}{cs:List V}(hl:l≠[])(hc:h b=some (.cells cs false))(hn:h bn=none)(nab:ba≠b)(ha:hadd h bn (.cells (nodeC m kv) false) ba=none)(k:KidsV (hadd (gg h0 b8 b3) b (.cells [] false)) h p m.kids kv):
  b3≠bn∧b3≠ba∧b≠b3∧b≠bn∧cs.length=4*l.length∧Slot h0 (hadd (hadd (hset (hadd h bn (.cells (nodeC m kv) false)) b none) ba (.cells (cs++nodeC m kv) false)) b3 (.cells [.str op,.str tx,.int .i64 a,.sl ba 0 4 (l.length+1)] false)) p b8 b3 op tx a (l++[m]) (.sl ba 0 4 (l.length+1)) ∧
  PAt h0 (hadd (hadd (hset (hadd h bn (.cells (nodeC m kv) false)) b none) ba (.cells (cs++nodeC m kv) false)) b3 (.cells [.str op,.str tx,.int .i64 a,.sl ba 0 4 (l.length+1)] false)) p tb T s:=by
 have na:ba≠bn:=fun e=>by rw[e]at ha;simp[hadd,hset]at ha
 have ha':h ba=none:=by rw[ae na]at ha;exact ha
 rcases K.row with⟨e,_⟩|⟨b',cs',q1,q2,q3,q4,q5,q6⟩
 ·exact absurd e hl
 cases q4;rw[hc]at q5;cases q5;obtain⟨w1,w2,w3⟩:=dM q2;refine⟨af hn K.c3,af ha' K.c3,w1,af hn hc,q6.len,K.st ?_ (SlAt.more' (K.hz A) (fun y hy=>Ne.symm (A.ne hy)) q1 q6 hn nab ha (CellsV.one (NodeV.of k))),(((A.put hn).lose w3 q3).put (by unfold hset;rw[if_neg nab];exact ha)).over K.z3 K.n3⟩;rw[ae (af ha' K.c8)];unfold hset;rw[if_neg (Ne.symm w2)];show hadd h bn _ b8=_;rw[ae (af hn K.c8)];exact K.c8
theorem Slot.kid(K:Slot h0 h p b8 b3 op tx a l v)(A:PAt h0 h p tb T s){l':List Tree}{w:V}(k:KidsV (hset h p none) h' p l' w):KidsV (gg h0 b8 b3) h' p l' w:=
 KidsV.move (fun y o z nx hy=>⟨by
  rw[show hset h p none y=h y from if_neg nx]at z;exact K.hz A y z,hy⟩) k
theorem Slot.kid2{b:Nat}{o:AObj}(K:Slot h0 h p b8 b3 op tx a l v)(A:PAt h0 h p tb T s)(hb:h b=some o){l':List Tree}{w:V}(k:KidsV (hset h p none) h' p l' w):KidsV (hadd (gg h0 b8 b3) b (.cells [] false)) h' p l' w:=
 KidsV.move (fun y o' z nx hy=>⟨by
  rw[show hset h p none y=h y from if_neg nx]at z;rw[ae (af z hb).symm];exact K.hz A y z,hy⟩) k
theorem Slot.ret(K:Slot h0 h p b8 b3 op tx a l v)(A:PAt h0 h p tb T s)(o:AObj):PAt h0 (hadd h b8 o) p tb T s∧NodeV h0 (hadd h b8 o) p (.nd op tx a l) (.agg [.str op,.str tx,.int .i64 a,v]):=
 ⟨A.over K.z8 K.n8,.mk (KidsV.move (fun y o z nx hy=>⟨(dM z).2.2,by rw[ae (dM z).2.1];exact hy⟩) K.row.kids)⟩
theorem xq(W:TkOk T N):∀(k:Nat) {l:List Tree} {s:PS},SOk T N s→Fwd T N s (parN T k l s).2
 |0,_,_,hs=>Fwd.refl hs
 |k+1,l,s,hs=>by
   unfold parN;split
   ·have f1:Fwd T N s (if l=[]then s else(s.expect T [44]).lines T):=by
     split
     ·exact Fwd.refl hs
     ·exact(ay W hs _).trans (aA W (ay W hs _).ok)
    have f2:=f1.trans (dU W f1.ok [5]);have f3:=f2.trans (aA W f2.ok);exact f3.trans (xq W k f3.ok)
   ·exact Fwd.refl hs
def pX(T:List Tokn)(B E:PF)(s:PS):Tree × PS:=
 if s.isAt T [[66,69,71,73,78]]=true then(nodeM [98,101,103,105,110] [(B (s.step T)).1],(B (s.step T)).2)
 else if s.isAt T [[69,78,68]]=true then(nodeM [101,110,100] [(B (s.step T)).1],(B (s.step T)).2)
 else if s.isAt T [[102,117,110,99,116,105,111,110]]=true then
  let x:=(s.step T).name T [5,6]
  let y:=parN T (T.length+1) [] ((x.2.expect T [40]).lines T)
  let z:=B ((y.2.expect T [41]).lines T)
  (aN [102,117,110,99] x.1 (y.1++[z.1]),z.2)
 else if s.isAt T [[123]]=true then(nodeM [114,117,108,101] [nodeM [97,108,119,97,121,115] [],(B s).1],(B s).2)
 else
  let x:=E s
  if x.2.isAt T [[123]]=true then(nodeM [114,117,108,101] [x.1,(B x.2).1],(B x.2).2)
  else(nodeM [114,117,108,101] [x.1,nodeM [100,101,102,97,117,108,116] []],if(x.2.cur T).k≠1∧(x.2.cur T).k≠0∧x.2.isAt T [[59]]=false then x.2.fail T else x.2)
theorem rQ(s:PS):itemM T s=pX T (blockM T (stL T 51)) (lev T 51).expr s:=by
 unfold itemM pX;rfl
theorem yX(W:TkOk T N){B E:PF}(CB:FC T N n c 41 B)(CE:FC T N n c 46 E)(hs:SOk T N s)(hl:lvl n c s):Fwd T N s (pX T B E s).2∧Adv s (pX T B E s).2:=by
 have f1:=ak W hs;have l1:=hl.fwd f1;unfold pX;split
 ·rename_i e;exact⟨f1.trans (CB.fwd _ f1.ok l1),(gU W hs e).left (CB.fwd _ f1.ok l1)⟩
 split
 ·rename_i e;exact⟨f1.trans (CB.fwd _ f1.ok l1),(gU W hs e).left (CB.fwd _ f1.ok l1)⟩
 split
 ·rename_i e;dsimp only;have g1:=dU W f1.ok [5,6];have g2:=g1.trans (ay W g1.ok [40]);have g3:=g2.trans (aA W g2.ok);have g4:=g3.trans (xq W (T.length+1) (l:=[]) g3.ok);have g5:=g4.trans (ay W g4.ok [41]);have g6:=g5.trans (aA W g5.ok);have g7:=g6.trans (CB.fwd _ g6.ok (l1.fwd g6));exact⟨f1.trans g7,(gU W hs e).left g7⟩
 split
 ·exact⟨CB.fwd _ hs hl,CB.adv _ hs hl⟩
 ·dsimp only;have g:=CE.fwd _ hs hl;have ga:=CE.adv _ hs hl;split
  ·have g2:=CB.fwd _ g.ok (hl.fwd g);exact⟨g.trans g2,ga.left g2⟩
  ·split
   ·exact⟨g.trans (dR W g.ok),ga.left (dR W g.ok)⟩
   ·exact⟨g,ga⟩
end
section
open Mir
variable{h:H}{Q:V→H→Prop}{h0 h1 h':H}{p tb:Nat}{T:List Tokn}{s s':PS}{N n c m:Nat}
theorem Pv(W:TkOk T N){B M:PF}(CB:FC T N n c 41 B)(CE:FC T N n c 46 M):FC T N n c 29 (pX T B M):=by
 refine⟨fun h0 h p tb s Q A hs hl hq=>?_,fun s hs hl=>(yX W CB CE hs hl).1,fun s hs hl=>(yX W CB CE hs hl).2⟩;have f1:=ak W hs;have l1:=hl.fwd f1;unfold pX at hq;refine AC.fn' (g:=g29) rfl (by simp only[List.length_cons,List.length_nil,g29];decide) ?_;simp only[g29,Mir.Ab.all];refine W0 ?_;intro b8 hb8;have n8:=A.ne hb8;have z8:=A.new hb8;have A1:=A.put (o:=.cells Z4 false) hb8;have bk:∀{h5 h6:H} {s5:PS} {l:List Tree} {v:V},PAt h0 h5 p tb T s5→h5 b8=some (.cells Z4 false)→KidsV (hset h5 p none) h6 p l v→KidsV (hadd h0 b8 (.cells Z4 false)) h6 p l v:=fun {h5 h6 s5 l v} B hb k =>
  KidsV.move (fun x o z nx hx=>⟨by
   rw[show hset h5 p none x=h5 x from if_neg nx]at z;rw[ae (af z hb).symm];exact B.new z,hx⟩) k
 have fin:∀(h7:H) (m:Tree) (s7:PS) (kv:V) (o:AObj),PAt h0 h7 p tb T s7→KidsV (hadd h0 b8 (.cells Z4 false)) h7 p m.kids kv→(∀h' v,PAt h0 h' p tb T s7→NodeV h0 h' p m v→Q v h')→∃h3,Mir.Sub h3 (hadd h7 b8 o)∧Q (.agg (nodeC m kv)) h3:=fun h7 m s7 kv o B k hq' =>
  ⟨_,Sub.refl,hq' _ _ (B.over z8 (Ne.symm n8)) (NodeV.of (KidsV.move (fun x o z nx hx=>⟨(ax z).2,by rw[ae (ax z).1];exact hx⟩) k))⟩
 have r8:hadd h b8 (.cells Z4 false) b8=_:=ah;refine W0 ?_;refine aO A1.re [66,69,71,73,78] fun h3 A2=>?_;have A2':=A1.back A2;have r8:=A2.keep (Ne.symm n8) r8;cases e1:s.isAt T [[66,69,71,73,78]]
 case true =>
  simp only[e1,if_true]at hq A2';refine W0 ?_;refine CB.run _ _ _ _ _ _ A2'.re f1.ok l1 fun h5 v A5 k5=>?_;generalize B (s.step T)=x at hq A5 k5;obtain⟨m,r⟩:=x;simp only at hq A5 k5;obtain⟨kv,rfl,kb⟩:=k5.inv;have kf:=kb.flat;have A5':=A2'.back A5;have kg:=bk A2' r8 kb;have r8:=A5.keep (Ne.symm n8) r8;refine W1 kf ?_;intro bs hbs;have n8s:=af hbs r8;have kr:=oh A5' r8 hbs kg;have A6:=A5'.put (o:=.cells (nodeC m kv) false) hbs;refine W0 ?_;refine aS [98,101,103,105,110] (l:=[]) rfl ?_;refine W1 r8 ?_;exact fin _ (nodeM [98,101,103,105,110] [m]) _ _ _ A6 kr hq
 simp only[e1,if_false,Bool.false_eq_true]at hq A2';refine W0 ?_;refine aO A2'.re [69,78,68] fun h4 A3=>?_;have A3':=A2'.back A3;have r8:=A3.keep (Ne.symm n8) r8;cases e2:s.isAt T [[69,78,68]]
 case true =>
  simp only[e2,if_true]at hq A3';refine W0 ?_;refine CB.run _ _ _ _ _ _ A3'.re f1.ok l1 fun h5 v A5 k5=>?_;generalize B (s.step T)=x at hq A5 k5;obtain⟨m,r⟩:=x;simp only at hq A5 k5;obtain⟨kv,rfl,kb⟩:=k5.inv;have kf:=kb.flat;have A5':=A3'.back A5;have kg:=bk A3' r8 kb;have r8:=A5.keep (Ne.symm n8) r8;refine W1 kf ?_;intro bs hbs;have n8s:=af hbs r8;have kr:=oh A5' r8 hbs kg;have A6:=A5'.put (o:=.cells (nodeC m kv) false) hbs;refine W0 ?_;refine aS [101,110,100] (l:=[]) rfl ?_;refine W1 r8 ?_;exact fin _ (nodeM [101,110,100] [m]) _ _ _ A6 kr hq
 simp only[e2,if_false,Bool.false_eq_true]at hq A3';refine W0 ?_;refine aO A3'.re [102,117,110,99,116,105,111,110] fun h5 A4=>?_;have A4':=A3'.back A4;have r8:=A4.keep (Ne.symm n8) r8;cases e3:s.isAt T [[102,117,110,99,116,105,111,110]]
 case true =>
  simp only[e3,if_true]at hq A4';refine W0 ?_;intro b1 hb1;have n81:=af hb1 r8;have A5:=A4'.put (o:=.cells [.int .i64 5,.int .i64 6] false) hb1;have r8:hadd h5 b1 (.cells [.int .i64 5,.int .i64 6] false) b8=_:=(ae n81).trans r8;refine W0 ?_;refine oW (ks:=[5,6]) A5.re ah (by decide) fun h6 A6=>?_;have A6':=A5.back A6;have r8:=A6.keep (Ne.symm n8) r8;have g1:=f1.trans (dU W f1.ok [5,6]);generalize PS.name T (s.step T) [5,6]=x at hq A6 A6' g1;obtain⟨nt,r1⟩:=x;simp only at hq A6 A6' g1;refine W0 ?_;refine aQ [102,117,110,99] nt rfl ?_;refine W0 ?_;intro b3 hb3;have n3:=A6'.ne hb3;have n83:=af hb3 r8;have A7:=A6'.put (o:=.cells [.str [102,117,110,99],.str nt.t,.int .i64 nt.a,.nilsl] false) hb3;have K:Slot h0 (hadd h6 b3 (.cells [.str [102,117,110,99],.str nt.t,.int .i64 nt.a,.nilsl] false)) p b8 b3 [102,117,110,99] nt.t nt.a [] .nilsl:=
   ⟨(ae n83).trans r8,z8,Ne.symm n8,ah,A6'.new hb3,Ne.symm n3,n83,.inl ⟨rfl,rfl⟩⟩
  refine W0 ?_;generalize hadd h6 b3 _=h7 at A7 K⊢;refine bT A7.re [40] fun h8 A8=>?_;have A8':=A7.back A8;have K8:=K.keep A8;have g2:=g1.trans (ay W g1.ok [40]);refine W0 ?_;refine bI A8'.re W.last fun h9 A9=>?_;have A9':=A8'.back A9;have K9:=K8.keep A9;have g3:=g2.trans (aA W g2.ok);generalize hx:parN T (T.length+1) [] ((r1.expect T [40]).lines T)=x at hq;have g4:=g3.trans (xq W (T.length+1) (l:=[]) g3.ok);rw[hx]at g4;refine W0 ?_;refine E.cut AC.mono (fun ex a' h'=>ex=.exit 1∧a'.d=[]∧a'.t 0=.ptr p 0∧a'.t 2=.ptr b8 0∧a'.t 3=.ptr b3 0∧PAt h0 h' p tb T x.2∧x.1.length≤T.length+1∧∃v,Slot h0 h' p b8 b3 [102,117,110,99] nt.t nt.a x.1 v) ?_ ?_
  ·refine E.loopX AC.mono (fun(y:Nat × List Tree × PS) a' h'=>parN T y.1 y.2.1 y.2.2=x∧(y.2.2.err=0→T.length<y.2.2.i+y.1∧y.2.1.length≤y.2.2.i)∧y.2.1.length≤T.length+1∧SOk T N y.2.2∧PAt h0 h' p tb T y.2.2∧(∃v,Slot h0 h' p b8 b3 [102,117,110,99] nt.t nt.a y.2.1 v)∧a'.d=[]∧a'.t 0=.ptr p 0∧a'.t 2=.ptr b8 0∧a'.t 3=.ptr b3 0) (fun y=>y.1) (T.length+1,[],(r1.expect T [40]).lines T) ?_ ?_
   ·exact⟨hx,fun _=>⟨by show T.length<((r1.expect T [40]).lines T).i+(T.length+1);omega,Nat.zero_le _⟩,Nat.zero_le _,g3.ok,A9',⟨.nilsl,K9⟩,rfl,rfl,rfl,rfl⟩
   ·rintro⟨k,l,r⟩ ⟨t,ds⟩ h2 ⟨hk,hr,hll,sr,A3,⟨v,K3⟩,hd,t0,t2,t3⟩;simp only at hk hr hll sr A3 K3 hd t0 t2 t3;subst hd;have hp3:=A3.obj;unfold psC at hp3;have hlt:=A3.lt;have sm:=A3.small
    by_cases e0:r.err=0
    ·obtain⟨hr1,hr2⟩:=hr e0;obtain⟨k,rfl⟩:∃k',k=k'+1:=⟨k-1,by omega⟩;refine W4 t0 t2 t3 hp3 ?_;intro ba hba;refine W4 t0 t2 t3 hp3 ?_;refine gu (ss:=[[41]]) (A3.put hba) ah (by decide) ?_;have A4:=A3.put (o:=.cells [.str [41]] false) hba;have K4:=K3.put (o:=.cells [.str [41]] false) hba;cases ea:r.isAt T [[41]]
     ·rw[parN,if_pos ⟨e0,ea⟩]at hk;simp only at hk;have ll:=K3.row.ll;have c3:=K3.c3;have n3a:=af hba c3;have vf:=K3.row.kids.flat;refine W6 t0 t2 t3 ll c3 vf ?_;generalize hr1:(if l=[]then r else(r.expect T [44]).lines T)=r2 at hk;have w1:Fwd T N r r2:=by
       rw[← hr1];split
       ·exact Fwd.refl sr
       ·exact(ay W sr _).trans (aA W (ay W sr _).ok)
      refine dn AC.mono (fun ex a' h'=>ex=.nm∧a'.d=[]∧a'.t 0=.ptr p 0∧a'.t 2=.ptr b8 0∧a'.t 3=.ptr b3 0∧PAt h0 h' p tb T r2∧Slot h0 h' p b8 b3 [102,117,110,99] nt.t nt.a l v) ?_ ?_
      ·by_cases el:l=[]
       ·rw[if_pos el]at hr1;subst hr1;have:l.length=0:=by rw[el];rfl
        refine W3 t0 t2 t3 ?_;exact⟨A4,K4⟩
       ·rw[if_neg el]at hr1;subst hr1;have:0<l.length:=List.length_pos_iff.2 el;refine W3 t0 t2 t3 ?_;refine bT A4.re [44] fun h4 A5=>?_;refine W3 t0 t2 t3 ?_;refine bI (A4.back A5).re W.last fun h5 A6=>?_;refine W3 t0 t2 t3 ?_;exact⟨(A4.back A5).back A6,(K4.keep A5).keep A6⟩
      ·rintro ex ⟨t,ds⟩ h4 ⟨rfl,hd,t0,t2,t3,A5,K5⟩;simp only at hd t0 t2 t3;subst hd;have c3:=K5.c3;refine W5 t0 t2 t3 c3 vf ?_;intro b5 hb5;have A6:=A5.put (o:=.cells [.int .i64 5] false) hb5;have K6:=K5.put (o:=.cells [.int .i64 5] false) hb5;have n35:=af hb5 c3;refine W5 t0 t2 t3 c3 vf ?_;refine oW (ks:=[5]) A6.re ah (by decide) fun h6 A7=>?_;have A7':=A6.back A7;have K7:=K6.keep A7;have w2:=w1.trans (dU W w1.ok [5]);have w2a:=Adv.right w1 (MO W w1.ok [5] (by decide)) (dU W w1.ok [5]);generalize PS.name T r2 [5]=y at hk A7 A7' w2 w2a;obtain⟨nu,r4⟩:=y;simp only at hk A7 A7' w2 w2a;have c3:=K7.c3;have c8:=K7.c8;have w3:=w2.trans (aA W w2.ok);have bnd:(r4.lines T).err=0→T.length<(r4.lines T).i+k∧(l++[aN [112,97,114,97,109] nu []]).length≤(r4.lines T).i:=fun e1=>by
        have lf:=aA W w2.ok;have:=lf.le;rw[List.length_append]
        show _∧l.length+1≤_
        rcases w2a e0 with d|d
        ·omega
        ·exact absurd (lf.err e1) d
       have bl:(l++[aN [112,97,114,97,109] nu []]).length≤T.length+1:=by
        rw[List.length_append];show l.length+1≤_;omega
       refine W5 t0 t2 t3 c3 vf ?_;refine aQ [112,97,114,97,109] nu rfl ?_;refine W5 t0 t2 t3 c3 vf ?_;intro bn hbn;have n3n:=af hbn c3;refine W5 t0 t2 t3 c3 vf ?_;rcases K7.row with⟨el,ev⟩|⟨b,cs,q1,q2,q3,q4,q5,q6⟩
       ·subst el;subst ev;refine W4 t0 t2 t3 c3 ?_;intro bz hbz;obtain⟨x1,x2,K8,A8⟩:=K7.first A7' (m:=aN [112,97,114,97,109] nu []) (kv:=.nilsl) hbn hbz .nil;refine W4 t0 t2 t3 c3 ?_;refine bI A8.re W.last fun h9 A9=>?_;refine W3 t0 t2 t3 ?_;exact⟨(k,[aN [112,97,114,97,109] nu []],r4.lines T),by show k<k+1;omega,hk,bnd,bl,w3.ok,A8.back A9,_,K8.keep A9⟩
       ·subst q4;have cl:=q6.len;have nbn:=af hbn q5;have tk:List.take (l.length*4) cs=cs:=List.take_of_length_le (by omega);refine W6 t0 t2 t3 q5 cl c3 ?_;intro bz nab hbz;obtain⟨x1,x2,x3,x4,x5,K8,A8⟩:=K7.more A7' (m:=aN [112,97,114,97,109] nu []) (kv:=.nilsl) q1 q5 hbn nab hbz .nil;refine W5 t0 t2 t3 tk c3 ?_;refine bI A8.re W.last fun h9 A9=>?_;refine W3 t0 t2 t3 ?_;exact⟨(k,l++[aN [112,97,114,97,109] nu []],r4.lines T),by show k<k+1;omega,hk,bnd,bl,w3.ok,A8.back A9,_,K8.keep A9⟩
     ·have fin:(l,r)=x:=by rw[← hk,parN,if_neg (by simp[ea])]
      rw[← fin];refine W3 t0 t2 t3 ?_;exact⟨A4,hll,v,K4⟩
    ·have fin:(l,r)=x:=by
      rw[← hk];cases k with
      |zero=>rfl
      |succ k=>rw[parN,if_neg (by simp[e0])]
     rw[← fin];refine W4 t0 t2 t3 hp3 ?_;exact⟨A3,hll,v,K3⟩
  ·rintro ex ⟨t,ds⟩ h10 ⟨rfl,hd,t0,t2,t3,A10,hll,v,K10⟩;simp only at hd t0 t2 t3;subst hd;obtain⟨l,r⟩:=x;simp only at hq A10 hll K10 g4;refine W3 t0 t2 t3 ?_;refine bT A10.re [41] fun h11 A11=>?_;have A11':=A10.back A11;have K11:=K10.keep A11;have g5:=g4.trans (ay W g4.ok [41]);refine W3 t0 t2 t3 ?_;refine bI A11'.re W.last fun h12 A12=>?_;have A12':=A11'.back A12;have K12:=K11.keep A12;have g6:=g5.trans (aA W g5.ok);have c3:=K12.c3;have vf:=K12.row.kids.flat;refine W5 t0 t2 t3 c3 vf ?_;refine CB.run _ _ _ _ _ _ A12'.re g6.ok (hl.fwd g6) fun h13 w A13 k13=>?_;generalize B ((r.expect T [41]).lines T)=y at hq A13 k13;obtain⟨m2,r2⟩:=y;simp only at hq A13 k13;obtain⟨kv2,rfl,kb2⟩:=k13.inv;have kf2:=kb2.flat;have A13':=A12'.back A13;have K13:=K12.keep A13;have c3':=K13.c3;have c8':=K13.c8;have sm:=A13'.small;refine W6 t0 t2 t3 c3' vf kf2 ?_;intro bn hbn;have n3n:=af hbn c3';have n8n:=af hbn c8';refine W6 t0 t2 t3 c3' vf kf2 ?_;rcases K13.row with⟨el,ev⟩|⟨b,cs,q1,q2,q3,q4,q5,q6⟩
   ·subst el;subst ev;refine W4 t0 t2 t3 c3' ?_;intro bz hbz;obtain⟨x1,x2,K14,A14⟩:=K13.first A13' hbn hbz (K12.kid A12' kb2);have hbz':h13 bz=none:=by
     have n:bz≠bn:=fun e=>by rw[e,ah]at hbz;cases hbz
     rw[ae n]at hbz;exact hbz
    have n8z:=af hbz' c8';refine W5 t0 t2 t3 c3' c8' ?_;obtain⟨A15,k15⟩:=K14.ret A14 (.cells (nodeC (aN [102,117,110,99] nt [m2]) (.sl bz 0 4 1)) false);exact⟨_,Sub.refl,hq _ _ A15 k15⟩
   ·subst q4;have cl:=q6.len;have nbn:=af hbn q5;have tk:List.take (l.length*4) cs=cs:=List.take_of_length_le (by omega);have hb12:∃o,h12 b=some o:=by
     rcases K12.row with⟨e,ev⟩|⟨b',cs',w1,w2,w3,w4,w5,w6⟩
     ·cases ev
     ·cases w4;exact⟨_,w5⟩
    obtain⟨ob,hb12⟩:=hb12;refine W6 t0 t2 t3 q5 cl c3' ?_;intro bz nab hbz;obtain⟨x1,x2,x3,x4,x5,K14,A14⟩:=K13.more A13' q1 q5 hbn nab hbz (K12.kid2 A12' hb12 kb2);have hbz':h13 bz=none:=by
     have n:bz≠bn:=fun e=>by rw[e,ah]at hbz;cases hbz
     rw[ae n]at hbz;exact hbz
    have n8z:=af hbz' c8';have nb8:=(dM q2).2.1;refine W6 t0 t2 t3 tk c3' c8' ?_;obtain⟨A15,k15⟩:=K14.ret A14 (.cells (nodeC (aN [102,117,110,99] nt (l++[m2])) (.sl bz 0 4 (l.length+1))) false);exact⟨_,Sub.refl,hq _ _ A15 k15⟩
 simp only[e3,if_false,Bool.false_eq_true]at hq A4';refine W0 ?_;intro b1 hb1;have n81:=af hb1 r8;have A5:=A4'.put (o:=.cells [.str [123]] false) hb1;have r8:hadd h5 b1 (.cells [.str [123]] false) b8=_:=(ae n81).trans r8;refine W0 ?_;refine gu (ss:=[[123]]) A5 ah (by decide) ?_;cases e4:s.isAt T [[123]]
 case true =>
  simp only[e4,if_true]at hq;refine W0 ?_;refine aS [97,108,119,97,121,115] (l:=[]) rfl ?_;refine W0 ?_;refine CB.run _ _ _ _ _ _ A5.re hs hl fun h6 v A6 k6=>?_;generalize B s=x at hq A6 k6;obtain⟨m,r⟩:=x;simp only at hq A6 k6;obtain⟨kv,rfl,kb⟩:=k6.inv;have kf:=kb.flat;have A6':=A5.back A6;have kg:=bk A5 r8 kb;have r8:=A6.keep (Ne.symm n8) r8;refine W1 kf ?_;intro bs hbs;have n8s:=af hbs r8;have A7:=A6'.put (o:=.cells (nodeC (nodeM [97,108,119,97,121,115] []) .nilsl++nodeC m kv) false) hbs;have kr:KidsV (hadd h0 b8 (.cells Z4 false)) (hadd h6 bs (.cells (nodeC (nodeM [97,108,119,97,121,115] []) .nilsl++nodeC m kv) false)) p [nodeM [97,108,119,97,121,115] [],m] (.sl bs 0 4 2):=
   .sl (by simp) (by rw[ae (Ne.symm n8s)];exact A6'.new hbs) (Ne.symm (A6'.ne hbs)) ah ((CellsV.one (NodeV.of (t:=nodeM [97,108,119,97,121,115] []) .nil)).app (CellsV.one (NodeV.of (kg.put hbs))))
  refine W0 ?_;refine aS [114,117,108,101] (l:=[]) rfl ?_;refine W1 r8 ?_;exact fin _ (nodeM [114,117,108,101] [nodeM [97,108,119,97,121,115] [],m]) _ _ _ A7 kr hq
 simp only[e4,if_false,Bool.false_eq_true]at hq;refine W0 ?_;refine CE.run _ _ _ _ _ _ A5.re hs hl fun h6 v A6 k6=>?_;have g:=CE.fwd _ hs hl;generalize M s=x at hq A6 k6 g;obtain⟨m,r⟩:=x;simp only at hq A6 k6 g;obtain⟨kv,rfl,kb⟩:=k6.inv;have kf:=kb.flat;have A6':=A5.back A6;have kg:=bk A5 r8 kb;have r8:=A6.keep (Ne.symm n8) r8;refine W1 kf ?_;intro bs hbs;have n8s:=af hbs r8;have kr:=oh A6' r8 hbs kg;have A7:=A6'.put (o:=.cells (nodeC m kv) false) hbs;refine W0 ?_;refine aS [114,117,108,101] (l:=[]) rfl ?_;refine W0 ?_;intro b3 hb3;have n3:=A7.ne hb3;have z3:=A7.new hb3;have u8:hadd h6 bs (.cells (nodeC m kv) false) b8=_:=(ae n8s).trans r8;have n83:=af hb3 u8;have A8:=A7.put (o:=.cells [.str [114,117,108,101],.str [],.int .i64 0,.sl bs 0 4 1] false) hb3;have K:Slot h0 (hadd (hadd h6 bs (.cells (nodeC m kv) false)) b3 (.cells [.str [114,117,108,101],.str [],.int .i64 0,.sl bs 0 4 1] false)) p b8 b3 [114,117,108,101] [] 0 [m] (.sl bs 0 4 1):=
  ⟨(ae n83).trans u8,z8,Ne.symm n8,ah,z3,Ne.symm n3,n83,by
    have S0:SlAt (hadd h0 b8 (.cells Z4 false)) (hadd h6 bs (.cells (nodeC m kv) false)) p [m] (.sl bs 0 4 1):=SlAt.new (g:=hadd h0 b8 (.cells Z4 false)) (h:=h6) (fun x hx=>by rw[ae (af hx r8).symm];exact A6'.new hx) hbs (Ne.symm (A6'.ne hbs)) (l:=[m]) (by simp) (CellsV.one (NodeV.of kg));exact SlAt.move (fun x o z nx hx=>⟨pW (af hb3 hx) (ax z).1 (ax z).2,by rw[ae (af hb3 hx)];exact hx⟩) S0⟩
 refine W0 ?_;intro b4 hb4;have A9:=A8.put (o:=.cells [.str [123]] false) hb4;have K9:=K.put (o:=.cells [.str [123]] false) hb4;refine W0 ?_;refine gu (ss:=[[123]]) A9 ah (by decide) ?_;have smT:=A9.small;have grow:∀(h7:H) (s7:PS) (m2:Tree) (kv2:V) (bn ba:Nat) (K7:Slot h0 h7 p b8 b3 [114,117,108,101] [] 0 [m] (.sl bs 0 4 1)) (A7:PAt h0 h7 p tb T s7),True:=fun _ _ _ _ _ _ _ _=>trivial;cases e5:r.isAt T [[123]]
 case true =>
  simp only[e5,if_true]at hq;have c3:=K9.c3;refine W1 c3 ?_;refine CB.run _ _ _ _ _ _ A9.re g.ok (hl.fwd g) fun h10 v A10 k10=>?_;generalize B r=y at hq A10 k10;obtain⟨m2,r2⟩:=y;simp only at hq A10 k10;obtain⟨kv2,rfl,kb2⟩:=k10.inv;have kf2:=kb2.flat;have A10':=A9.back A10;have K10:=K9.keep A10;have c3':=K10.c3;have c8':=K10.c8;refine W2 c3' kf2 ?_;intro bn hbn;refine W2 c3' kf2 ?_;rcases K10.row with⟨e,_⟩|⟨b,cs,q1,q2,q3,q4,q5,q6⟩
  ·cases e
  cases q4;have cl:=q6.len;simp only[List.length_cons,List.length_nil]at cl;have nbn:=af hbn q5;have n3n:=af hbn c3';have n8n:=af hbn c8';have tk:List.take 4 cs=cs:=List.take_of_length_le (by omega);refine W3 q5 cl c3' ?_;intro ba nab hba;have hb9:∃o,hadd (hadd (hadd h6 bs (.cells (nodeC m kv) false)) b3 (.cells [.str [114,117,108,101],.str [],.int .i64 0,.sl bs 0 4 1] false)) b4 (.cells [.str [123]] false) bs=some o:=by
   rcases K9.row with⟨e,_⟩|⟨b,cs',w1,w2,w3,w4,w5,w6⟩
   ·cases e
   ·cases w4;exact⟨_,w5⟩
  obtain⟨ob,hb9⟩:=hb9;obtain⟨x1,x2,x3,x4,x5,K11,A11⟩:=K10.more A10' (by simp) q5 hbn nab hba (K9.kid2 A9 hb9 kb2);have hba':h10 ba=none:=by
   have n:ba≠bn:=fun e=>by rw[e,ah]at hba;cases hba
   rw[ae n]at hba;exact hba
  have n8a:=af hba' c8';have nb8:=(dM q2).2.1;refine W3 tk c3' c8' ?_;obtain⟨A12,k12⟩:=K11.ret A11 (.cells (nodeC (nodeM [114,117,108,101] [m,m2]) (.sl ba 0 4 2)) false);exact⟨_,Sub.refl,hq _ _ A12 k12⟩
 simp only[e5,if_false,Bool.false_eq_true]at hq;refine W0 ?_;refine dL A9 ?_;obtain⟨tt,ht⟩:∃tt,tt=r.cur T:=⟨_,rfl⟩;rw[← ht]at hq⊢;rw[jd];refine W0 ?_;intro b5 hb5;have A10:=A9.put (o:=.cells [.int .i64 tt.k,.str tt.t,.int .i64 tt.a] false) hb5;have K10:=K9.put (o:=.cells [.int .i64 tt.k,.str tt.t,.int .i64 tt.a] false) hb5;refine W0 ?_;obtain⟨rE,hrE⟩:∃rE,rE=if tt.k≠1∧tt.k≠0∧r.isAt T [[59]]=false then r.fail T else r:=⟨_,rfl⟩
 rw[← hrE]at hq;refine oP AC.mono (fun a' h'=>a'.d=[]∧a'.t 0=.ptr p 0∧a'.t 2=.ptr b8 0∧a'.t 4=.ptr b3 0∧a'.t 112=.bool (decide (tt.k≠1∧tt.k≠0∧r.isAt T [[59]]=false))∧PAt h0 h' p tb T r∧Slot h0 h' p b8 b3 [114,117,108,101] [] 0 [m] (.sl bs 0 4 1)) ?_ ?_
 ·by_cases k1:tt.k=1
  ·rw[show decide (tt.k≠1∧tt.k≠0∧r.isAt T [[59]]=false)=false from decide_eq_false fun x=>x.1 k1];refine W0 ?_;exact⟨A10,K10⟩
  ·by_cases k0:tt.k=0
   ·rw[show decide (tt.k≠1∧tt.k≠0∧r.isAt T [[59]]=false)=false from decide_eq_false fun x=>x.2.1 k0];refine W0 ?_;exact⟨A10,K10⟩
   ·have ed:decide (tt.k≠1∧tt.k≠0∧r.isAt T [[59]]=false)=!r.isAt T [[59]]:=by
     cases r.isAt T [[59]]
     ·exact decide_eq_true ⟨k1,k0,rfl⟩
     ·exact decide_eq_false fun x=>by cases x.2.2
    rw[ed];refine W0 ?_;intro b7 hb7;refine W0 ?_;refine gu (ss:=[[59]]) (A10.put hb7) ah (by decide) ?_;refine W0 ?_;exact⟨A10.put hb7,K10.put hb7⟩
 ·rintro⟨t,ds⟩ h11 ⟨hd,t0,t2,t4,t112,A11,K11⟩;simp only at hd t0 t2 t4 t112;subst hd;refine W1 t112 ?_;refine dn AC.mono (fun ex a' h'=>ex=.nm∧a'.d=[]∧a'.t 0=.ptr p 0∧a'.t 2=.ptr b8 0∧a'.t 4=.ptr b3 0∧PAt h0 h' p tb T rE∧Slot h0 h' p b8 b3 [114,117,108,101] [] 0 [m] (.sl bs 0 4 1)) ?_ ?_
  ·by_cases cE:tt.k≠1∧tt.k≠0∧r.isAt T [[59]]=false
   ·rw[if_pos cE]at hrE;rw[decide_eq_true cE];refine W1 t0 ?_;refine gX A11.re fun h12 A12=>?_;rw[← hrE]at A12;refine W3 t0 t2 t4 ?_;exact⟨A11.back A12,K11.keep A12⟩
   ·rw[if_neg cE]at hrE;rw[decide_eq_false cE];subst hrE;refine W3 t0 t2 t4 ?_;exact⟨A11,K11⟩
  ·rintro ex ⟨t,ds⟩ h12 ⟨rfl,hd,t0,t2,t4,A12,K12⟩;simp only at hd t0 t2 t4;subst hd;have c3':=K12.c3;have c8':=K12.c8;refine W4 t0 t2 t4 c3' ?_;refine aS [100,101,102,97,117,108,116] (l:=[]) rfl ?_;refine W4 t0 t2 t4 c3' ?_;intro bn hbn;refine W4 t0 t2 t4 c3' ?_;rcases K12.row with⟨e,_⟩|⟨b,cs,q1,q2,q3,q4,q5,q6⟩
   ·cases e
   cases q4;have cl:=q6.len;simp only[List.length_cons,List.length_nil]at cl;have nbn:=af hbn q5;have n3n:=af hbn c3';have n8n:=af hbn c8';have tk:List.take 4 cs=cs:=List.take_of_length_le (by omega);refine W6 t0 t2 t4 q5 cl c3' ?_;intro ba nab hba;obtain⟨x1,x2,x3,x4,x5,K13,A13⟩:=K12.more A12 (m:=nodeM [100,101,102,97,117,108,116] []) (kv:=.nilsl) (by simp) q5 hbn nab hba .nil;have hba':h12 ba=none:=by
    have n:ba≠bn:=fun e=>by rw[e,ah]at hba;cases hba
    rw[ae n]at hba;exact hba
   have n8a:=af hba' c8';have nb8:=(dM q2).2.1;refine W6 t0 t2 t4 tk c3' c8' ?_;obtain⟨A14,k14⟩:=K13.ret A13 (.cells (nodeC (nodeM [114,117,108,101] [m,nodeM [100,101,102,97,117,108,116] []]) (.sl ba 0 4 2)) false);exact⟨_,Sub.refl,hq _ _ A14 k14⟩
end
section
open Mir
variable{h:H}{Q:V→H→Prop}{h0 h1 h':H}{p tb:Nat}{T:List Tokn}{s s':PS}{N n c m:Nat}
theorem wQ(W:TkOk T N):FC T N 51 60 29 (itemM T):=
 (Pv W (Cj W (stmts W 51 60 (by omega))) (good W 51 60 (by omega)).expr).congr fun s _ _=>(rQ s).symm
theorem qA(W:TkOk T N)(CI:FC T N 51 60 29 (itemM T)):∀(k:Nat) {l:List Tree} {s:PS},SOk T N s→lvl 51 60 s→Fwd T N s (itemsN T k l s).2
 |0,_,_,hs,_=>Fwd.refl hs
 |k+1,l,s,hs,hl=>by
   unfold itemsN;have f1:=sG W hs;dsimp only;split
   ·split
    ·exact f1
    ·have f2:=f1.trans (CI.fwd _ f1.ok (hl.fwd f1));exact f2.trans (qA W CI k f2.ok (hl.fwd f2))
   ·exact Fwd.refl hs
def ps0:PS:=⟨0,0,false,0,0⟩
theorem Nq{src:Txt}{mm:Int}(Wd:Words h)(hM:h 4=some (.cells [.int .i64 mm] true))(hs:src.length≤4000)
  (hT:∀T,DV src=.inr T→TkOk T src.length∧0<T.length∧T.length≤100000)
  (hq0:∀j h',DV src=.inl j→j≤src.length→Sub h h'→Q (.tup [.agg Z4,.int .i64 j,.int .i64 9]) h')
  (hq1:∀T a e h',DV src=.inr T→nY T=.inr (a,e)→Sub h h'→Q (.tup [.agg Z4,.int .i64 a,.int .i64 e]) h')
  (hq2:∀T t v p h',DV src=.inr T→nY T=.inl t→Sub h h'→NodeV h h' p t v→Q (.tup [v,.int .i64 0,.int .i64 0]) h'):AC pg (.fn 14) [.str src] h Q:=by
 refine AC.fn' (g:=g14) rfl (by simp only[List.length_cons,List.length_nil,g14];decide) ?_;simp only[g14,Mir.Ab.all];refine W0 ?_;intro b2 hb2;have Wd2:Words (hadd h b2 (.cells Z4 false)):=Wd.sub (Sub.refl.put hb2);have hM2:hadd h b2 (.cells Z4 false) 4=some (.cells [.int .i64 mm] true):=by rw[ae (af hb2 hM)];exact hM
 refine W0 ?_;refine Sv Wd2 hM2 hs (fun j h3 e1 e2 s3=>?_) fun T tb h3 e1 e2 s3 e4=>?_
 ·have c2:=s3 b2 (.cells Z4 false) ah;unfold Z4 at c2;refine W1 c2 ?_;exact⟨_,fun x o hx=>by rw[ae (af hb2 hx)];exact s3 _ _ (by rw[ae (af hb2 hx)];exact hx),hq0 _ _ e1 e2 Sub.refl⟩
 ·obtain⟨W,tpos,tlen⟩:=hT T e1;have CI:=wQ W;have c2:=s3 b2 (.cells Z4 false) ah;have ntb:tb≠b2:=fun e=>by rw[e,ah]at e2;cases e2
  have sh:Sub h h3:=fun x o hx=>s3 _ _ (by rw[ae (af hb2 hx)];exact hx);refine W0 ?_;intro p hp;have np2:b2≠p:=af hp c2;obtain⟨hB,hhB⟩:∃hB:H,hB=hset h3 b2 none:=⟨_,rfl⟩;have B0:∀x o,hB x=some o→x≠b2∧h3 x=some o:=fun x o hx=>by
   rw[hhB]at hx;unfold hset at hx;split at hx
   ·cases hx
   ·exact⟨by assumption,hx⟩
  have sB:Sub h hB:=fun x o hx=>by rw[hhB];unfold hset;rw[if_neg (af hb2 hx)];exact sh _ _ hx
  have A0:PAt hB (hadd h3 p (.cells (psC tb T.length ps0) false)) p tb T ps0:=
   ⟨ah,by rw[hhB];unfold hset;rw[if_neg ntb];exact e4,⟨mm,sB _ _ hM⟩,by
    (cases e:hB p with
    |none=>rfl
    |some o=>have:=(B0 _ _ e).2;rw[hp]at this;cases this),fun x o hx=>by rw[ae (af hp (B0 _ _ hx).2)];exact(B0 _ _ hx).2,tlen,tpos,by show 0≤100000;omega⟩
  have hz2:hB b2=none:=by rw[hhB];simp[hset]
  have r2:hadd h3 p (.cells (psC tb T.length ps0) false) b2=some (.cells Z4 false):=by rw[ae np2];exact c2
  have s0:SOk T src.length ps0:=⟨tpos,.inl rfl,Nat.zero_le _,fun _=>Nat.zero_le _⟩;have l0:lvl 51 60 ps0:=⟨fun _=>rfl,Nat.zero_le _⟩;unfold psC ps0 at A0 r2;refine W0 ?_;refine aS [112,114,111,103,114,97,109] (l:=[]) rfl ?_;refine W0 ?_;intro b9 hb9;have n9:=A0.ne hb9;have n29:=af hb9 r2;have A1:=A0.put (o:=.cells [.str [112,114,111,103,114,97,109],.str [],.int .i64 0,.nilsl] false) hb9;have K:Slot hB (hadd (hadd h3 p (.cells [.sl tb 0 3 T.length,.int .i64 (0:Nat),.int .i64 (0:Nat),.bool false,.int .i64 (0:Nat),.int .i64 (0:Nat)] false)) b9 (.cells [.str [112,114,111,103,114,97,109],.str [],.int .i64 0,.nilsl] false)) p b2 b9 [112,114,111,103,114,97,109] [] 0 [] .nilsl:=
   ⟨(ae n29).trans r2,hz2,np2,ah,A0.new hb9,Ne.symm n9,n29,.inl ⟨rfl,rfl⟩⟩
  refine W0 ?_;obtain⟨x,hx⟩:∃x,x=itemsN T (T.length+1) [] ps0:=⟨_,rfl⟩;have hpm:nY T=if x.2.err≠0 then .inr (x.2.bad,x.2.err)else .inl (nodeM [112,114,111,103,114,97,109] x.1):=by rw[hx];rfl
  refine E.cut AC.mono (fun ex a' h'=>ex=.exit 0∧a'.d=[]∧a'.t 2=.ptr b2 0∧a'.t 8=.ptr p 0∧a'.t 9=.ptr b9 0∧PAt hB h' p tb T x.2∧∃v,Slot hB h' p b2 b9 [112,114,111,103,114,97,109] [] 0 x.1 v) ?_ ?_
  ·refine E.loopX AC.mono (fun(y:Nat × List Tree × PS) a' h'=>itemsN T y.1 y.2.1 y.2.2=x∧(y.2.2.err=0→T.length<y.2.2.i+y.1∧y.2.1.length≤y.2.2.i)∧SOk T src.length y.2.2∧lvl 51 60 y.2.2∧PAt hB h' p tb T y.2.2∧(∃v,Slot hB h' p b2 b9 [112,114,111,103,114,97,109] [] 0 y.2.1 v)∧a'.d=[]∧a'.t 2=.ptr b2 0∧a'.t 8=.ptr p 0∧a'.t 9=.ptr b9 0) (fun y=>y.1) (T.length+1,[],ps0) ?_ ?_
   ·exact⟨hx.symm,fun _=>⟨by show T.length<0+(T.length+1);omega,Nat.zero_le _⟩,s0,l0,A1,⟨.nilsl,K⟩,rfl,rfl,rfl,rfl⟩
   ·rintro⟨k,l,r⟩ ⟨t,ds⟩ h4 ⟨hk,hr,sr,lr,A4,⟨v,K4⟩,hd,t2,t8,t9⟩;simp only at hk hr sr lr A4 K4 hd t2 t8 t9;subst hd;have hp4:=A4.obj;unfold psC at hp4;have hlt:=A4.lt;have sm:=A4.small
    by_cases e0:r.err=0
    ·obtain⟨hr1,hr2⟩:=hr e0;obtain⟨k,rfl⟩:∃k',k=k'+1:=⟨k-1,by omega⟩;rw[itemsN,if_pos e0]at hk;dsimp only at hk;have fs:=sG W sr;refine W4 t2 t8 t9 hp4 ?_;refine E.cut AC.mono (fun ex a' h'=>ex=.exit 2∧a'.d=[]∧a'.t 2=.ptr b2 0∧a'.t 8=.ptr p 0∧a'.t 9=.ptr b9 0∧PAt hB h' p tb T (r.skip T)∧Slot hB h' p b2 b9 [112,114,111,103,114,97,109] [] 0 l v) ?_ ?_
     ·refine E.loopX AC.mono (fun(y:Nat × PS) a' h'=>skipN T y.1 y.2=r.skip T∧(y.2.err=0→T.length≤y.2.i+y.1)∧SOk T src.length y.2∧PAt hB h' p tb T y.2∧Slot hB h' p b2 b9 [112,114,111,103,114,97,109] [] 0 l v∧a'.d=[]∧a'.t 2=.ptr b2 0∧a'.t 8=.ptr p 0∧a'.t 9=.ptr b9 0) (fun y=>y.1) (T.length,r) ?_ ?_
      ·exact⟨rfl,fun _=>by show T.length≤r.i+T.length;omega,sr,A4,K4,rfl,t2,t8,t9⟩
      ·rintro⟨k2,q⟩ ⟨t,ds⟩ h5 ⟨hk2,hq2,sq,A5,K5,hd,t2,t8,t9⟩;simp only at hk2 hq2 sq A5 hd t2 t8 t9;subst hd;refine W3 t2 t8 t9 ?_;intro b1 hb1;have A6:=A5.put (o:=.cells [.str [59]] false) hb1;have K6:=K5.put (o:=.cells [.str [59]] false) hb1;refine W3 t2 t8 t9 ?_;refine gu (ss:=[[59]]) A6 ah (by decide) ?_;have go:q.isAt T [[59]]=true∨(q.cur T).k=1→∀h6,PAt (hset (hadd h5 b1 (.cells [.str [59]] false)) p none) h6 p tb T (q.step T)→∃x':Nat × PS,x'.1<k2∧skipN T x'.1 x'.2=r.skip T∧(x'.2.err=0→T.length≤x'.2.i+x'.1)∧SOk T src.length x'.2∧PAt hB h6 p tb T x'.2∧Slot hB h6 p b2 b9 [112,114,111,103,114,97,109] [] 0 l v:=fun hc h6 A7=>by
        have ek:(q.cur T).k≠0:=by rcases hc with e|e;(rcases at_k e with e|e<;>omega);omega
        have eq0:=iM ek;have nl:=kQ W ek sq;obtain⟨k3,rfl⟩:∃k',k2=k'+1:=⟨k2-1,by have:=hq2 eq0;have:=sq.lt;omega⟩;rw[skipN,if_pos hc]at hk2;refine⟨(k3,q.step T),by show k3<k3+1;omega,hk2,fun e=>?_,(ak W sq).ok,A6.back A7,K6.keep A7⟩;have:=hq2 eq0
        show T.length≤(q.step T).i+k3
        rw[show q.step T={q with i:=q.i+1} from by unfold PS.step;rw[if_pos ⟨eq0,nl⟩]]
        show T.length≤q.i+1+k3
        omega
       cases ea:q.isAt T [[59]]
       ·refine W3 t2 t8 t9 ?_;refine dL A6 ?_;rw[jd]
        by_cases k1:(q.cur T).k=1
        ·refine W3 t2 t8 t9 ?_;refine aZ A6.re fun h6 A7=>?_;refine W3 t2 t8 t9 ?_;exact go (.inr k1) _ A7
        ·have:q=r.skip T:=by
          rw[← hk2];cases k2 with
          |zero=>rfl
          |succ k2=>rw[skipN,if_neg (by simp[ea,k1])]
         subst this;refine W3 t2 t8 t9 ?_;exact⟨A6,K6⟩
       ·refine W3 t2 t8 t9 ?_;refine aZ A6.re fun h6 A7=>?_;refine W3 t2 t8 t9 ?_;exact go (.inl ea) _ A7
     ·rintro ex ⟨t,ds⟩ h5 ⟨rfl,hd,t2,t8,t9,A5,K5⟩;simp only at hd t2 t8 t9;subst hd;refine W3 t2 t8 t9 ?_;refine dL A5 ?_;rw[jd]
      by_cases k0:((r.skip T).cur T).k=0
      ·rw[if_pos k0]at hk;rw[← hk];refine W4 t2 t8 t9 k0 ?_;exact⟨A5,v,K5⟩
      rw[if_neg k0]at hk;have c35:=K5.c3;have vf5:=K5.row.kids.flat;refine W5 t2 t8 t9 c35 vf5 ?_;refine CI.run _ _ _ _ _ _ A5.re fs.ok (lr.fwd fs) fun h7 w A7 k7=>?_;have g2:=fs.trans (CI.fwd _ fs.ok (lr.fwd fs));have a2:=Adv.right fs (CI.adv _ fs.ok (lr.fwd fs)) (CI.fwd _ fs.ok (lr.fwd fs));generalize itemM T (r.skip T)=y at hk A7 k7 g2 a2;obtain⟨m,r2⟩:=y;simp only at hk A7 k7 g2 a2;obtain⟨kv,rfl,kb⟩:=k7.inv;have kf:=kb.flat;have A7':=A5.back A7;have K7:=K5.keep A7;have c3:=K7.c3;have c8:=K7.c8;have vf:=K7.row.kids.flat;have bnd:r2.err=0→T.length<r2.i+k∧(l++[m]).length≤r2.i:=fun e1=>by
       rw[List.length_append]
       show _∧l.length+1≤_
       rcases a2 e0 with d|d
       ·omega
       ·exact absurd e1 d
      refine W6 t2 t8 t9 kf c3 vf ?_;intro bn hbn;have n3n:=af hbn c3;have n8n:=af hbn c8;rcases K7.row with⟨el,ev⟩|⟨b,cs,q1,q2,q3,q4,q5,q6⟩
      ·subst el;subst ev;refine W4 t2 t8 t9 c3 ?_;intro ba hba;obtain⟨x1,x2,K8,A8⟩:=K7.first A7' hbn hba (K5.kid A5 kb);refine W4 t2 t8 t9 c3 ?_;exact⟨(k,[m],r2),by show k<k+1;omega,hk,bnd,g2.ok,lr.fwd g2,A8,.sl ba 0 4 1,K8⟩
      ·have cl:=q6.len;have nbn:=af hbn q5;have tk:List.take (l.length*4) cs=cs:=List.take_of_length_le (by omega);have nb3:=(dM q2).1;have nb8:=(dM q2).2.1;subst q4;refine W6 t2 t8 t9 q5 cl c3 ?_;intro ba nab hba;have hb5:∃o,h5 b=some o:=by
        rcases K5.row with⟨e,ev⟩|⟨b',cs',w1,w2,w3,w4,w5,w6⟩
        ·cases ev
        ·cases w4;exact⟨_,w5⟩
       obtain⟨ob,hb5⟩:=hb5;obtain⟨x1,x2,x3,x4,x5,K8,A8⟩:=K7.more A7' q1 q5 hbn nab hba (K5.kid2 A5 hb5 kb);refine W5 t2 t8 t9 c3 tk ?_;exact⟨(k,l++[m],r2),by show k<k+1;omega,hk,bnd,g2.ok,lr.fwd g2,A8,.sl ba 0 4 (l.length+1),K8⟩
    ·have:x=(l,r):=by
      rw[← hk];cases k with
      |zero=>rfl
      |succ k=>rw[itemsN,if_neg e0]
     subst this;refine W4 t2 t8 t9 hp4 ?_;exact⟨A4,v,K4⟩
  ·rintro ex ⟨t,ds⟩ h4 ⟨rfl,hd,t2,t8,t9,A4,v,K4⟩;simp only at hd t2 t8 t9;subst hd;have hp4:=A4.obj;unfold psC at hp4;have c8:=K4.c8;have c3:=K4.c3;have vf:=K4.row.kids.flat;have s4:∀o,Sub h (hadd h4 b2 o):=fun o y o' hy=>by rw[ae (af hb2 hy)];exact A4.sub _ _ (sB _ _ hy)
   by_cases ez:x.2.err=0
   ·rw[if_neg (by omega)]at hpm;refine W7 t2 t8 t9 hp4 c8 c3 vf ?_;obtain⟨A5,k5⟩:=K4.ret A4 (.cells (nodeC (nodeM [112,114,111,103,114,97,109] x.1) v) false);exact⟨_,Sub.refl,hq2 _ _ _ p _ e1 hpm (s4 _) (k5.wk sB)⟩
   ·rw[if_pos ez]at hpm;refine W5 t2 t8 t9 hp4 c8 ?_;exact⟨_,Sub.refl,hq1 _ _ _ _ e1 hpm (s4 _)⟩
end
section
open Mir
variable{T:List Tokn}{s:PS}{E U P R S M:PF}
theorem Uz(h:s.err≠0)(l:List Txt):s.isAt T l=false:=by unfold PS.isAt;rw[iD h];rfl
theorem Mc(h:s.err≠0):(s.step T).err=s.err:=by unfold PS.step;rw[if_neg (fun x=>h x.1)]
theorem FB(h:s.err≠0):(s.fail T).err=s.err:=by unfold PS.fail;rw[if_pos h]
theorem LZ(h:s.err≠0)(x:Txt):(s.expect T x).err=s.err:=by unfold PS.expect;rw[Uz h,if_neg (by decide),FB h]
theorem Pz(h:s.err≠0):(s.lines T).err=s.err:=by
 unfold PS.lines;cases T.length with
 |zero=>rfl
 |succ k=>rw[linesN,if_neg (by rw[iD h];decide)]
theorem Sl(h:s.err≠0)(ks:List Nat):(s.name T ks).2.err=s.err:=by unfold PS.name;split;exact Mc h;exact FB h
theorem Sj(h:s.err≠0):(s.down T).err=s.err:=by unfold PS.down;rw[if_neg (fun x=>h x.2)]
theorem PD(h:s.err≠0)(a e:Nat)(q:Prop)[Decidable q]:(s.wrong a q e).err=s.err:=by unfold PS.wrong;rw[if_neg (fun x=>h x.2)]
structure Kp(s0 s:PS):Prop where
 ne:s0.err≠0
 eq:s.err=s0.err
variable{s0:PS}
theorem Kp.refl(h:s.err≠0):Kp s s:=⟨h,rfl⟩
theorem Kp.n(k:Kp s0 s):s.err≠0:=by rw[k.eq];exact k.ne
theorem Kp.by{s':PS}(k:Kp s0 s)(e:s.err≠0→s'.err=s.err):Kp s0 s':=⟨k.ne,(e k.n).trans k.eq⟩
theorem Kp.at(k:Kp s0 s)(l:List Txt):s.isAt T l=false:=Uz k.n l
theorem Kp.step(k:Kp s0 s):Kp s0 (s.step T):=k.by Mc
theorem Kp.fail(k:Kp s0 s):Kp s0 (s.fail T):=k.by FB
theorem Kp.expect(k:Kp s0 s)(x:Txt):Kp s0 (s.expect T x):=k.by fun h=>LZ h x
theorem Kp.lines(k:Kp s0 s):Kp s0 (s.lines T):=k.by Pz
theorem Kp.name(k:Kp s0 s)(l:List Nat):Kp s0 (s.name T l).2:=k.by fun h=>Sl h l
theorem Kp.down(k:Kp s0 s):Kp s0 (s.down T):=k.by Sj
theorem Kp.up(k:Kp s0 s):Kp s0 s.up:=⟨k.ne,k.eq⟩
theorem Kp.flat(k:Kp s0 s)(f:Bool):Kp s0 {s with flat:=f}:=⟨k.ne,k.eq⟩
theorem Kp.wrong(k:Kp s0 s)(a e:Nat)(q:Prop)[Decidable q]:Kp s0 (s.wrong a q e):=k.by fun h=>PD h a e q
def KF(E:PF):Prop:=∀s0 s,Kp s0 s→Kp s0 (E s).2
theorem Kp.listN(k:Kp s0 s)(e:Txt)(n:Nat)(l:List Tree):Kp s0 (listN T E e n l s).2:=by
 cases n with
 |zero=>exact k
 |succ n=>rw[Mir.listN,if_neg (fun x=>k.n x.1)];exact k
theorem Kp.insideM(k:Kp s0 s)(hE:KF E)(e:Txt):Kp s0 (insideM T E e s).2:=(((hE _ _ (k.flat false).lines).lines).expect e).flat s.flat
theorem Kp.biPost(k:Kp s0 s)(t:Tokn)(l:List Tree):Kp s0 (biPost t l s).2:=by
 unfold Mir.biPost;dsimp only
 repeat' split
 all_goals first|exact k.wrong _ _ _|exact(k.wrong _ _ _).wrong _ _ _
theorem z2:((0:Nat)=2)=False:=by simp
theorem z3:((0:Nat)=3)=False:=by simp
theorem z4:((0:Nat)=4)=False:=by simp
theorem z5:((0:Nat)=5)=False:=by simp
theorem z6:((0:Nat)=6)=False:=by simp
theorem z9:((0:Nat)=9)=False:=by simp
theorem Kp.primM(k:Kp s0 s):Kp s0 (primM T E P R s).2:=by
 unfold Mir.primM;simp only[iD k.n,tkz,Nat.reduceEqDiff,if_false,k.at,Bool.false_eq_true,z2,z3,z4,z5,z6,z9];exact k.fail
theorem Kp.postM(k:Kp s0 s)(hR:KF R):Kp s0 (postM T R s).2:=by
 have k2:=hR _ _ k;unfold Mir.postM;simp only[k.at,k2.at,if_false,Bool.false_eq_true];split<;>exact k2
theorem Kp.unaryM(k:Kp s0 s)(hP:KF P):Kp s0 (unaryM T U P s).2:=by
 unfold Mir.unaryM;simp only[k.at,if_false,Bool.false_eq_true];exact hP _ _ k
theorem Kp.chainN(k:Kp s0 s)(ln:Bool)(ops:List (Txt × Txt))(n:Nat)(t:Tree):Kp s0 (chainN T M ln ops n t s).2:=by
 cases n with
 |zero=>exact k
 |succ n=>rw[Mir.chainN,if_neg (by rw[iD k.n];decide)];exact k
theorem nN(hM:KF M)(ln:Bool)(ops:List (Txt × Txt)):KF (dO T M ln ops):=fun s0 s k=>(hM _ _ k).chainN _ _ _ _
theorem Kp.catN(k:Kp s0 s)(n:Nat)(t:Tree):Kp s0 (catN T M n t s).2:=by
 cases n with
 |zero=>exact k
 |succ n=>rw[Mir.catN,if_neg (by rw[iD k.n,k.at];decide)];exact k
theorem FD(hU:KF U):KF (rX T U):=nN hU _ _
theorem Fv(hU:KF U):KF (gI T U):=nN (FD hU) _ _
theorem GI(hU:KF U):KF (aX T U):=fun s0 s k=>(Fv hU _ _ k).catN _ _
theorem FH(hU:KF U):KF (uY T U):=fun s0 s k=>by
 have k2:=GI (T:=T) hU _ _ k;rw[lL];generalize aX T U s=x at k2;unfold relStep;rw[if_neg (by rw[iD k2.n];exact fun x=>absurd x.1 (by decide))];exact k2
theorem L8(hU:KF U):KF (fB T U):=nN (FH hU) _ _
theorem Kp.inN(k:Kp s0 s)(n:Nat)(t:Tree):Kp s0 (inN T n t s).2:=by
 cases n with
 |zero=>exact k
 |succ n=>rw[Mir.inN,if_neg (by rw[k.at];decide)];exact k
theorem L6(hU:KF U):KF (inM T U):=fun s0 s k=>by
 have k2:=L8 (T:=T) hU _ _ k;unfold inM;exact k2.inN _ _
theorem Fz(hU:KF U):KF (andM T U):=nN (L6 hU) _ _
theorem L9(hU:KF U):KF (orM T U):=nN (Fz hU) _ _
theorem Py(hU:KF U):KF (ny T E U):=fun s0 s k=>by
 have k2:=L9 (T:=T) hU _ _ (k.down (T:=T));rw[jD];generalize orM T U (s.down T)=x at k2;refine Kp.up ?_;unfold exprStep;rw[if_neg (by rw[k2.at];decide),if_neg (by rw[iD k2.n];exact fun x=>absurd x.2.1 (by decide))];exact k2
theorem l9(T:List Tokn):∀n,KF (lev T n).expr∧KF (lev T n).unary∧KF (lev T n).post∧KF (lev T n).prim
 |0=>by rw[lev];exact⟨fun _ _ k=>k,fun _ _ k=>k,fun _ _ k=>k,fun _ _ k=>k⟩
 |n+1=>by
   obtain⟨e,u,p,r⟩:=l9 T n;have r':KF (lev T (n+1)).prim:=by rw[nT];exact fun _ s k=>k.primM
   have p':KF (lev T (n+1)).post:=by rw[nS];exact fun _ s k=>k.postM r'
   exact⟨by rw[nR];exact Py u,by rw[kJ];exact fun _ s k=>k.unaryM p',p',r'⟩
theorem Kp.outN(k:Kp s0 s)(n:Nat)(l:List Tree):Kp s0 (outN T E n l s).2:=by
 cases n with
 |zero=>exact k
 |succ n=>rw[Mir.outN,if_neg (fun x=>k.n x.1)];exact k
theorem Kp.ite{c:Prop}[Decidable c]{a b:Tree × PS}(ha:Kp s0 a.2)(hb:Kp s0 b.2):Kp s0 (if c then a else b).2:=by split;exact ha;exact hb
theorem Kp.iteS{c:Prop}[Decidable c]{a b:PS}(ha:Kp s0 a)(hb:Kp s0 b):Kp s0 (if c then a else b):=by split;exact ha;exact hb
theorem Kp.simpleM(k:Kp s0 s)(hE:KF E):Kp s0 (simpleM T E U s).2:=by
 unfold Mir.simpleM;rw[if_pos (by rw[iD k.n];decide)];exact hE _ _ k
theorem Kp.fin(k:Kp s0 s):Kp s0 (s.fin T):=by
 unfold PS.fin;exact Kp.iteS k.step (Kp.iteS k (Kp.iteS k.step k.fail))
theorem Kp.blockM(k:Kp s0 s):Kp s0 (blockM T S s).2:=by
 have k1:=k.expect (T:=T) [123]
 show Kp s0 (Mir.blockN T S (T.length+1) [] (s.expect T [123])).2
 rw[Mir.blockN,if_neg k1.n];exact k1
theorem Kp.stmtM(k:Kp s0 s)(hE:KF E)(hS:KF S):Kp s0 (stmtM T E U S s).2:=by
 have k1:=k.down (T:=T);unfold Mir.stmtM;simp only[k1.at,if_false,Bool.false_eq_true];exact(k1.simpleM hE).fin.up
theorem DN(T:List Tokn):∀n,KF (stL T n)
 |0=>by unfold stL;exact fun _ _ k=>k
 |n+1=>by rw[stL];exact fun _ s k=>k.stmtM (l9 T n).1 (DN T n)
theorem Kp.itemsN(k:Kp s0 s)(n:Nat)(l:List Tree):Kp s0 (itemsN T n l s).2:=by
 cases n with
 |zero=>exact k
 |succ n=>rw[Mir.itemsN,if_neg k.n];exact k
theorem Kp.parN(k:Kp s0 s)(n:Nat)(l:List Tree):Kp s0 (parN T n l s).2:=by
 cases n with
 |zero=>exact k
 |succ n=>rw[Mir.parN,if_neg (fun x=>k.n x.1)];exact k
end
section
open Mir
variable{h:H}{Q:V→H→Prop}
def dN(src:Txt):Tree ⊕ (Nat × Nat):=match DV src with
 |.inl j=>.inr (j,9)
 |.inr T=>nY T
theorem BU{src:Txt}{mm:Int}(Wd:Words h)(hM:h 4=some (.cells [.int .i64 mm] true))(hs:src.length≤4000)
  (hq1:∀a e h',dN src=.inr (a,e)→Sub h h'→Q (.tup [.agg Z4,.int .i64 a,.int .i64 e]) h')
  (hq2:∀t v p h',dN src=.inl t→Sub h h'→NodeV h h' p t v→Q (.tup [v,.int .i64 0,.int .i64 0]) h'):AC pg (.fn 14) [.str src] h Q:=
 Nq Wd hM hs (fun T e=>Bh hs e)
  (fun j h' e _ s=>hq1 j 9 h' (by unfold dN;rw[e]) s)
  (fun T a e h' l e' s=>hq1 a e h' (by unfold dN;rw[l];exact e') s)
  (fun T t v p h' l e' s k=>hq2 t v p h' (by unfold dN;rw[l];exact e') s k)
theorem D9{src:Txt}{a e:Nat}(hs:src.length≤4000)(h:dN src=.inr (a,e)):(e=9∨e=10∨e=14)∧a≤src.length:=by
 unfold dN at h;split at h
 ·rename_i j l;simp only[Sum.inr.injEq,Prod.mk.injEq]at h;obtain⟨rfl,rfl⟩:=h;exact⟨.inl rfl,PG (Nat.zero_le _) l⟩
 ·rename_i T l;obtain⟨W,tpos,tlen⟩:=Bh hs l;have f:=qA W (wQ W) (T.length+1) (l:=[]) (s:=ps0) ⟨tpos,.inl rfl,Nat.zero_le _,fun _=>Nat.zero_le _⟩ ⟨fun _=>rfl,Nat.zero_le _⟩;have hm:nY T=if(itemsN T (T.length+1) [] ps0).2.err≠0 then .inr ((itemsN T (T.length+1) [] ps0).2.bad,(itemsN T (T.length+1) [] ps0).2.err)else .inl (nodeM [112,114,111,103,114,97,109] (itemsN T (T.length+1) [] ps0).1):=rfl
  rw[hm]at h;split at h
  ·rename_i c;simp only[Sum.inr.injEq,Prod.mk.injEq]at h;obtain⟨rfl,rfl⟩:=h;rcases f.ok.code with x|x
   ·exact absurd x c
   ·exact⟨x,f.ok.bad⟩
  ·cases h
end
section
open Mir
variable{T:List Tokn}{s:PS}{E U P R S M:PF}{f:Bool}
end
section
open Mir
variable{T:List Tokn}{s:PS}{E U P R S M:PF}{f:Nat}
def Dp(f:Nat)(s:PS):Prop:=s.deep=f
theorem Dp.step(q:Dp f s):Dp f (s.step T):=by unfold PS.step;split<;>exact q
theorem Dp.fail(q:Dp f s):Dp f (s.fail T):=by unfold PS.fail;split;exact q;split<;>exact q
theorem Dp.expect(q:Dp f s)(x:Txt):Dp f (s.expect T x):=by unfold PS.expect;split;exact q.step;exact q.fail
theorem Dp.linesN(q:Dp f s)(K:Nat):Dp f (linesN T K s):=by
 induction K generalizing s with
 |zero=>exact q
 |succ K ih=>rw[Mir.linesN];split;exact ih q.step;exact q
theorem Dp.lines(q:Dp f s):Dp f (s.lines T):=q.linesN _
theorem Dp.skipN(q:Dp f s)(K:Nat):Dp f (skipN T K s):=by
 induction K generalizing s with
 |zero=>exact q
 |succ K ih=>rw[Mir.skipN];split;exact ih q.step;exact q
theorem Dp.skip(q:Dp f s):Dp f (s.skip T):=q.skipN _
theorem Dp.name(q:Dp f s)(l:List Nat):Dp f (s.name T l).2:=by unfold PS.name;split;exact q.step;exact q.fail
theorem Dp.down(q:Dp f s):Dp (f+1) (s.down T):=by unfold PS.down;split<;>exact congrArg (·+1) q
theorem Dp.up(q:Dp (f+1) s):Dp f s.up:=by show s.deep-1=f;have:s.deep=f+1:=q;omega
theorem Dp.flat(q:Dp f s)(b:Bool):Dp f {s with flat:=b}:=q
theorem Dp.wrong(q:Dp f s)(a e:Nat)(c:Prop)[Decidable c]:Dp f (s.wrong a c e):=by unfold PS.wrong;split<;>exact q
theorem Dp.ite{c:Prop}[Decidable c]{a b:Tree × PS}(ha:Dp f a.2)(hb:Dp f b.2):Dp f (if c then a else b).2:=by split;exact ha;exact hb
theorem Dp.iteL{c:Prop}[Decidable c]{a b:List Tree × PS}(ha:Dp f a.2)(hb:Dp f b.2):Dp f (if c then a else b).2:=by split;exact ha;exact hb
theorem Dp.iteS{c:Prop}[Decidable c]{a b:PS}(ha:Dp f a)(hb:Dp f b):Dp f (if c then a else b):=by split;exact ha;exact hb
def DK(M:PF):Prop:=∀f s,Dp f s→Dp f (M s).2
theorem Dp.listN(hE:DK E)(e:Txt)(K:Nat):∀{l:List Tree} {s:PS},Dp f s→Dp f (listN T E e K l s).2:=by
 induction K with
 |zero=>exact fun q=>q
 |succ K ih =>
   intro l s q;rw[Mir.listN];split
   ·exact ih (hE _ _ (Dp.iteS q (q.expect _).lines)).lines
   ·exact q
theorem Dp.listM(q:Dp f s)(hE:DK E)(e:Txt):Dp f (listM T E e s).2:=((Dp.listN hE e _ (q.flat false).lines).expect e)
theorem Dp.insideM(q:Dp f s)(hE:DK E)(e:Txt):Dp f (insideM T E e s).2:=((hE _ _ (q.flat false).lines).lines).expect e
theorem Dp.biPost(q:Dp f s)(t:Tokn)(l:List Tree):Dp f (biPost t l s).2:=by
 unfold Mir.biPost;dsimp only
 repeat' split
 all_goals first|exact q.wrong _ _ _|exact(q.wrong _ _ _).wrong _ _ _
theorem Dp.builtinM(q:Dp f s)(hE:DK E):Dp f (builtinM T E s).2:=by
 unfold Mir.builtinM;exact Dp.ite q.step (((q.step.expect _).listM hE _).biPost _ _)
theorem Dp.primM(q:Dp f s)(hE:DK E)(hP:DK P)(hR:DK R):Dp f (primM T E P R s).2:=by
 unfold Mir.primM;exact Dp.ite q.step (Dp.ite q.step (Dp.ite (Dp.step (Dp.iteS q.fail q)) (Dp.ite (Dp.ite (q.step.step.insideM hE _) q.step) (Dp.ite ((q.step.expect _).listM hE _) (Dp.ite (q.builtinM hE) (Dp.ite (q.step.insideM hE _) (Dp.ite (Dp.up (Dp.ite (hP _ _ q.step.down) (hR _ _ q.step.down))) q.fail)))))))
theorem Dp.postM(q:Dp f s)(hR:DK R):Dp f (postM T R s).2:=by
 have q1:=hR _ _ (q.step (T:=T));have q2:=hR _ _ q;unfold Mir.postM;exact Dp.ite (Dp.ite q1 q1.fail) (Dp.ite (Dp.ite q1 q1.fail) (Dp.ite q2 (Dp.ite q2.step (Dp.ite q2.step q2))))
theorem Dp.unaryM(q:Dp f s)(hU:DK U)(hP:DK P):Dp f (unaryM T U P s).2:=by
 unfold Mir.unaryM;exact Dp.ite (hU _ _ q.step.down).up (Dp.ite (hU _ _ q.step.down).up (Dp.ite (hU _ _ q.step.down).up (hP _ _ q)))
theorem Dp.chainN(hM:DK M)(ln:Bool)(ops:List (Txt × Txt))(K:Nat):∀{t:Tree} {s:PS},Dp f s→Dp f (chainN T M ln ops K t s).2:=by
 induction K with
 |zero=>exact fun q=>q
 |succ K ih =>
   intro t s q;rw[Mir.chainN];split
   ·split
    ·exact q
    ·exact ih (hM _ _ (Dp.iteS q.step.lines q.step))
   ·exact q
theorem iV(hM:DK M)(ln:Bool)(ops:List (Txt × Txt)):DK (dO T M ln ops):=fun f s q=>Dp.chainN hM _ _ _ (hM _ _ q)
theorem Dp.catN(hM:DK M)(K:Nat):∀{t:Tree} {s:PS},Dp f s→Dp f (catN T M K t s).2:=by
 induction K with
 |zero=>exact fun q=>q
 |succ K ih =>
   intro t s q;rw[Mir.catN];split
   ·exact ih (hM _ _ q)
   ·exact q
theorem qZ(hU:DK U):DK (aX T U):=fun f s q=>by
 have a:DK (gI T U):=by unfold gI rX;exact iV (iV hU _ _) _ _
 exact Dp.catN a _ (a _ _ q)
theorem ER(hU:DK U):DK (uY T U):=fun f s q=>by
 have q2:=qZ (T:=T) hU _ _ q;rw[lL];unfold relStep;split
 ·split
  ·exact q2
  ·exact qZ hU _ _ q2.step
 ·exact q2
theorem Dp.inN(K:Nat):∀{t:Tree} {s:PS},Dp f s→Dp f (inN T K t s).2:=by
 induction K with
 |zero=>exact fun q=>q
 |succ K ih =>
   intro t s q;rw[Mir.inN];split
   ·exact ih (q.step.name _)
   ·exact q
theorem Gp(hU:DK U):DK (inM T U):=fun f s q=>by
 have a:DK (fB T U):=by unfold fB;exact iV (ER hU) _ _
 rw[Ba];exact Dp.inN _ (a _ _ q)
theorem JZ(hU:DK U):DK (orM T U):=by
 have a:DK (andM T U):=by unfold Mir.andM;exact iV (Gp hU) _ _
 unfold Mir.orM;exact iV a _ _
theorem OE(hE:DK E)(hU:DK U):DK (ny T E U):=fun f s q=>by
 have q2:=JZ (T:=T) hU _ _ (q.down (T:=T));rw[jD];generalize orM T U (s.down T)=x at q2;refine Dp.up ?_;unfold exprStep;exact Dp.ite (hE _ _ (((hE _ _ q2.step.lines).lines.expect _).lines)) (Dp.ite (hE _ _ q2.step.lines) q2)
theorem lW(T:List Tokn):∀n,DK (lev T n).expr∧DK (lev T n).unary∧DK (lev T n).post∧DK (lev T n).prim
 |0=>by rw[lev];exact⟨fun _ _ k=>k,fun _ _ k=>k,fun _ _ k=>k,fun _ _ k=>k⟩
 |n+1=>by
   obtain⟨e,u,p,r⟩:=lW T n;have e':DK (lev T (n+1)).expr:=by rw[nR];exact OE e u
   have r':DK (lev T (n+1)).prim:=by rw[nT];exact fun _ _ q=>q.primM e' p r
   have p':DK (lev T (n+1)).post:=by rw[nS];exact fun _ _ q=>q.postM r'
   exact⟨e',by rw[kJ];exact fun _ _ q=>q.unaryM u p',p',r'⟩
end

end Go.Proofs.YtkfbldogmgofoaaGreatDoor
