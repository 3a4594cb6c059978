import Derived.Test.YtkfbldogmgofoaaGreatDoorK9
set_option linter.unusedSimpArgs false
set_option linter.unusedVariables false
namespace Go.Proofs.YtkfbldogmgofoaaGreatDoor
section
open Mir
variable{h g:H}{p q:Nat}{Q:V→H→Prop}{fm ib am:Nat}{F:List RFn}
structure ColS(g h:H)(p fm ib:Nat)(F:List RFn):Prop where
 sub:Sub g h
 gfm:g fm=none
 gib:g ib=none
 info:∃fb cs,h ib=some (.cells [if F=[]then .nilsl else .sl fb 0 7 F.length,.nilsl,.nilsl] false)∧(F≠[]→h fb=some (.cells cs false)∧g fb=none∧fb≠ib)∧FunsV g p F cs
 names:FMap h fm F
theorem zl{F:List RFn}{f:RFn}{x:Txt}:eH (F++[f]) x=(eH F x).or (if f.name=x then some F.length else none):=by
 unfold eH;rw[List.findIdx?_append];cases List.findIdx? (fun f=>f.name==x) F with
 |some k=>rfl
 |none =>
   simp only[Option.none_or]
   by_cases c:f.name=x
   ·simp[c,List.findIdx?_cons]
   ·simp[c,List.findIdx?_cons]
theorem FunsV.snoc{l:List RFn}{cs:List V}(k:FunsV g q l cs){f:RFn}{pv kv:V}(h1:f.ps.length≤100000)(h2:PsV (fun _=>none) g q f.ps pv)(h3:KidsV (fun _=>none) g q f.body.kids kv):
  FunsV g q (l++[f]) (cs++[.str f.name,pv,.nilsl,.str f.body.op,.str f.body.text,.int .i64 f.body.at',kv]):=by
 induction k with
 |nil=>exact .cons h1 h2 h3 .nil
 |cons a b c _ ih=>exact .cons a b c ih
theorem FunsV.flat{l:List RFn}{cs:List V}(k:FunsV g q l cs):cs.all V.flat=true:=by
 induction k with
 |nil=>rfl
 |cons a b c _ ih =>
   have pf:∀{l:List Txt} {v:V},PsV (fun _=>none) g q l v→v.flat=true:=fun P=>by rcases P with⟨_,rfl⟩|⟨b,_,_,_,rfl,_⟩<;>rfl
   simp only[List.all_cons,pf b,c.flat,ih,Bool.and_self,show ∀s,V.flat (.str s)=true from fun _=>rfl,show ∀k n,V.flat (.int k n)=true from fun _ _=>rfl,show V.flat .nilsl=true from rfl]
theorem lw{items:List Tree}{i:Nat}(h:i<items.length):ai (items.take (i+1))=ai (items.take i)++(if(items.getD i .zero).op=[102,117,110,99]then [Mir.fnOf (items.getD i .zero)]else []):=by
 unfold ai;rw[List.take_succ_eq_append_getElem h,List.filter_append,List.map_append,show items[i]=items.getD i .zero from by rw[List.getD_eq_getElem?_getD,List.getElem?_eq_getElem h];rfl];congr 1;generalize items.getD i .zero=t
 by_cases c:t.op=[102,117,110,99]
 ·rw[if_pos c,List.filter_cons,if_pos (decide_eq_true c)];rfl
 ·rw[if_neg c,List.filter_cons,if_neg (by rw[decide_eq_false c];decide)];rfl
theorem PsV.put{l:List Txt}{v:V}(k:PsV g h p l v){b:Nat}{o:AObj}(hb:h b=none):PsV g (hadd h b o) p l v:=by
 rcases k with k|⟨c,h1,h2,h3,h4,h5⟩
 ·exact .inl k
 ·exact .inr ⟨c,h1,h2,h3,h4,by rw[ae (af hb h5)];exact h5⟩
theorem aP{g h:H}(s:Sub g h){b:Nat}(hb:h b=none):g b=none:=by
 cases e:g b with
 |none=>rfl
 |some o=>rw[s _ _ e]at hb;cases hb
theorem bf{g h:H}(s:Sub g h){b:Nat}{o:AObj}(hb:g b=none):Sub g (hadd h b o):=fun c x hc=>by rw[ae (af hb hc)];exact s _ _ hc
theorem ColS.put(C:ColS g h p fm ib F){b:Nat}{o:AObj}(hb:h b=none):ColS g (hadd h b o) p fm ib F:=by
 obtain⟨sub,gfm,gib,⟨fb,cs,a,b',c⟩,⟨es,ck,l,d,e,f⟩⟩:=C;exact⟨fun x y hx=>by rw[ae (af hb (sub _ _ hx))];exact sub _ _ hx,gfm,gib,⟨fb,cs,by rw[ae (af hb a)];exact a,fun n=>by
  obtain⟨x,y,z⟩:=b' n;exact⟨by rw[ae (af hb x)];exact x,y,z⟩,c⟩,⟨es,ck,l,by rw[ae (af hb d)];exact d,e,f⟩⟩
theorem ColS.keep(C:ColS g h p fm ib F){h':H}(s:Sub h h'):ColS g h' p fm ib F:=by
 obtain⟨sub,gfm,gib,⟨fb,cs,a,b',c⟩,⟨es,ck,l,d,e,f⟩⟩:=C;exact⟨fun x y hx=>s _ _ (sub _ _ hx),gfm,gib,⟨fb,cs,s _ _ a,fun n=>by
  obtain⟨x,y,z⟩:=b' n;exact⟨s _ _ x,y,z⟩,c⟩,⟨es,ck,l,s _ _ d,e,f⟩⟩
theorem Ef{r:RSt}{ov:V}{items:List Tree}{v:V}(kb:KidsW g p items v)(hsz:cO items≤100000)(hn:∀i∈items,i.op=[102,117,110,99]→i.kids≠[])(hp:g p=some (.cells (rvC fm ib am ov r) false))
  (C:ColS g h p fm ib []) (hq:∀h' g',Sub g g'→ColS g' h' p fm ib (ai items)→Q (.tup []) h'):AC pg (.fn 30) [.ptr p 0,v] h Q:=by
 have hll:items.length≤100000:=Nat.le_trans fA hsz;have ll:=kb.ll;unfold rvC at hp;refine AC.fn' (g:=g30) rfl (by simp only[List.length_cons,List.length_nil,g30];decide) ?_;simp only[g30,Mir.Ab.all];refine W1 ll ?_;refine E.loopX AC.mono (fun(i:Nat) a' h'=>i≤items.length∧a'.d=[]∧a'.t 0=.ptr p 0∧a'.t 11=v∧a'.t 12=.int .i64 items.length∧a'.t 13=.int .i64 i∧∃g',Sub g g'∧ColS g' h' p fm ib (ai (items.take i))∧(ai (items.take i)).length≤i) (fun i=>items.length-i) 0 ?_ ?_
 ·exact⟨Nat.zero_le _,rfl,rfl,rfl,rfl,rfl,g,Sub.refl,C,Nat.le_refl _⟩
 ·rintro i ⟨ta,ds⟩ h1 ⟨hi,hd,t0,t11,t12,t13,g1,sg1,C1,hFl⟩;dsimp only at hd t0 t11 t12 t13;subst hd
  by_cases ci:i<items.length
  ·have kb1:=kb.mono sg1;cases kb1.v (fun e=>by rw[e]at ci;cases ci)with
   |nil=>cases ci
   |@sl _ bk cs q1 q2 q3 q4 q5 =>
     obtain⟨kvi,e4,k5⟩:=q5.get ci;have q6:=C1.sub _ _ q4;have cl:=q5.len;have ft:=lw ci;have sz:=iw ci;have hni:=hn (items.getD i .zero) (by rw[List.getD_eq_getElem?_getD,List.getElem?_eq_getElem ci];exact List.getElem_mem ci);generalize items.getD i .zero=it at e4 k5 ft sz hni;obtain⟨o,t,a,l⟩:=it;simp only[Tree.op,Tree.text,Tree.at',Tree.kids]at k5 hni;have kf5:=k5.flat;have nc:nodeC (.nd o t a l) kvi=[.str o,.str t,.int .i64 a,kvi]:=rfl;refine W7 t0 t11 t12 t13 q6 e4 cl ?_;intro b5 hb5
     by_cases co:o=[102,117,110,99]
     case neg =>
      rw[if_neg (show ¬(Tree.nd o t a l).op=[102,117,110,99]from co),List.append_nil]at ft;have co:=eq_false co;refine W8 t0 t11 t12 t13 kf5 nc nH co ?_;exact⟨i+1,by omega,ci,by simp,g1,sg1,by rw[ft];exact C1.put hb5,by rw[ft];omega⟩
     rw[if_pos (show(Tree.nd o t a l).op=[102,117,110,99]from co)]at ft;have l0:=hni co;have hl1:0<l.length:=List.length_pos_iff.2 l0;have co':=eq_true co;have e6:(Mir.fnOf (.nd o t a l)).name=t:=rfl;have e7:(Mir.fnOf (.nd o t a l)).ps=l.dropLast.map Tree.text:=rfl;have e8:(Mir.fnOf (.nd o t a l)).body=l.getLastD .zero:=rfl;have hsl:l.length≤100000:=by rw[tsz]at sz;have:=fA (l:=l);omega
     have lli:=k5.ll;have k5':=k5;cases k5' with
     |nil=>exact absurd rfl l0
     |@sl _ bk' cs' r1 r2 r3 r4 r5 =>
     have cl':=r5.len;obtain⟨kvb,e9,kb9⟩:=r5.get (i:=l.length-1) (by omega);have hbd':l.getLastD .zero=l.getD (l.length-1) .zero:=by
      rw[List.getLastD_eq_getLast?,List.getLast?_eq_getElem?,List.getD_eq_getElem?_getD]
     rw[← hbd',← e8]at e9 kb9;generalize hfo:Mir.fnOf (.nd o t a l)=f at *;have kfb:=kb9.flat;have r6:hadd h1 b5 (AObj.cells [V.str o,V.str t,V.int .i64 a,.sl bk' 0 4 l.length] false) bk'=_:=(ae (af hb5 (C1.sub _ _ r4))).trans (C1.sub _ _ r4);have hl2:((l.length:Int)-1).toNat=l.length-1:=by omega
     unfold nodeC at e9;refine W8 t0 t11 t12 t13 kf5 nc nH (An2 co' (An2 lli (An2 r6 (An2 cl' (An2 hl2 (An2 e9 kfb)))))) ?_;intro b6 hb6;generalize hdd:[V.str f.name,V.nilsl,V.nilsl,V.str f.body.op,V.str f.body.text,V.int .i64 f.body.at',kvb]=dd;have C2:=C1.put (o:=AObj.cells [V.str o,V.str t,V.int .i64 a,.sl bk' 0 4 l.length] false) hb5;have h5:hadd h1 b5 (AObj.cells [V.str o,V.str t,V.int .i64 a,.sl bk' 0 4 l.length] false) b5=_:=ah;have hb6':=hb6;generalize hadd h1 b5 (AObj.cells [V.str o,V.str t,V.int .i64 a,.sl bk' 0 4 l.length] false)=h2 at *;clear hdd dd;have s26:Sub h2 (hadd h2 b6 (AObj.cells [V.str t,V.nilsl,V.nilsl,V.str f.body.op,V.str f.body.text,V.int .i64 f.body.at',kvb] false)):=aG hb6;have c6:hadd h2 b6 (AObj.cells [V.str t,V.nilsl,V.nilsl,V.str f.body.op,V.str f.body.text,V.int .i64 f.body.at',kvb] false) b6=_:=ah;refine W5 t0 t11 t12 t13 kfb ?_;generalize hadd h2 b6 (AObj.cells [V.str t,V.nilsl,V.nilsl,V.str f.body.op,V.str f.body.text,V.int .i64 f.body.at',kvb] false)=h3 at s26 c6⊢;have j5:=s26 _ _ h5;have hl3:(l.length:Int)-1=((l.length-1:Nat):Int):=by omega
     refine W7 t0 t11 t12 t13 j5 lli hl3 ?_;obtain⟨n,hnn⟩:∃n,n=l.length-1:=⟨_,rfl⟩;rw[← hnn];have hkk:n≤l.length:=by omega
     obtain⟨cut1,cut2⟩:=k5.cut (n:=n) hkk;refine W2 cut1 cut2 ?_;have hf7:f.ps.length=n:=by rw[e7,List.length_map,List.length_dropLast];omega
     refine E.cut AC.mono (fun ex a' h'=>ex=.exit 2∧a'.d=[]∧a'.t 0=.ptr p 0∧a'.t 5=.ptr b5 0∧a'.t 6=.ptr b6 0∧a'.t 11=.sl bk 0 4 items.length∧a'.t 12=.int .i64 items.length∧a'.t 13=.int .i64 i∧∃pv,h' b6=some (.cells [V.str t,pv,V.nilsl,V.str f.body.op,V.str f.body.text,V.int .i64 f.body.at',kvb] false)∧PsV h2 h' b6 f.ps pv∧Sub h2 h') ?_ ?_
     ·refine E.loopX AC.mono (fun(j:Nat) a' h'=>j≤n∧a'.d=[]∧a'.t 0=.ptr p 0∧a'.t 5=.ptr b5 0∧a'.t 6=.ptr b6 0∧a'.t 11=.sl bk 0 4 items.length∧a'.t 12=.int .i64 items.length∧a'.t 13=.int .i64 i∧a'.t 37=.sl bk' 0 4 n∧a'.t 38=.int .i64 n∧a'.t 39=.int .i64 j∧∃pv,h' b6=some (.cells [V.str t,pv,V.nilsl,V.str f.body.op,V.str f.body.text,V.int .i64 f.body.at',kvb] false)∧PsV h2 h' b6 (f.ps.take j) pv∧Sub h2 h') (fun j=>n-j) 0 ?_ ?_
      ·exact⟨Nat.zero_le _,rfl,t0,rfl,rfl,t11,t12,t13,rfl,rfl,rfl,_,c6,.inl ⟨rfl,rfl⟩,s26⟩
      ·rintro j ⟨tb,ds⟩ h4 ⟨hj,hd,t0,t5,t6,t11,t12,t13,t37,t38,t39,pv,o6,P,s24⟩;dsimp only at hd t0 t5 t6 t11 t12 t13 t37 t38 t39;subst hd
       by_cases cj:j<n
       ·have cj':j<l.length:=by omega
        obtain⟨kvj,e9,k9⟩:=r5.get cj';have r6:=s24 _ _ (C2.sub _ _ r4);have ftk:f.ps.take (j+1)=f.ps.take j++[(l.getD j .zero).text]:=by
         rw[List.take_succ_eq_append_getElem (by omega)];congr 2;simp only[e7,List.getElem_map,List.getElem_dropLast,List.getD_eq_getElem?_getD,List.getElem?_eq_getElem cj',Option.getD_some]
        generalize l.getD j .zero=m at e9 k9 ftk;refine W8 t0 t5 t6 t11 t12 t13 t37 (An2 t38 (An2 t39 (An2 r6 (An2 e9 cl')))) ?_;intro b8 hb8;have kf9:=k9.flat;have o6:=(ae (o:=AObj.cells (nodeC m kvj) false) (af hb8 o6)).trans o6;have P:=P.put (o:=AObj.cells (nodeC m kvj) false) hb8;have s25:=bf (o:=AObj.cells (nodeC m kvj) false) s24 (aP s24 hb8);have c8:hadd h4 b8 (AObj.cells (nodeC m kvj) false) b8=_:=ah;refine W8 t0 t5 t6 t11 t12 t13 t37 (An2 t38 (An2 t39 (An2 kf9 lJ))) ?_;unfold nodeC at o6 P s25 c8;generalize hadd h4 b8 _=h5 at o6 P s25 c8⊢;have len:(f.ps.take j).length=j:=by rw[List.length_take];omega
        have fin:∀h' ba,h' b6=some (.cells [V.str t,pv,V.nilsl,V.str f.body.op,V.str f.body.text,V.int .i64 f.body.at',kvb] false)→h' ba=some (.cells ((f.ps.take j).map V.str++[V.str m.text]) false)→h2 ba=none→ba≠b6→Sub h2 h' →
          PsV h2 (hadd h' b6 (.cells [V.str t,.sl ba 0 1 (j+1),V.nilsl,V.str f.body.op,V.str f.body.text,V.int .i64 f.body.at',kvb] false)) b6 (f.ps.take (j+1)) (.sl ba 0 1 (j+1))∧Sub h2 (hadd h' b6 (.cells [V.str t,.sl ba 0 1 (j+1),V.nilsl,V.str f.body.op,V.str f.body.text,V.int .i64 f.body.at',kvb] false)):=fun h' ba x1 x2 x3 x4 x5=>by
         refine⟨.inr ⟨ba,by rw[ftk];simp,x3,x4,by rw[ftk,List.length_append,len];rfl,by rw[ae x4,x2,ftk];simp⟩,bf x5 hb6'⟩
        rcases P with⟨e5,rfl⟩|⟨bp,np,zp,mp,rfl,cp⟩
        ·refine W8 t0 t5 t6 t11 t12 t13 t37 (An2 t38 (An2 t39 (An2 o6 c8))) ?_;intro bn hbn;have o7:=(ae (o:=AObj.cells [V.str m.text] false) (af hbn o6)).trans o6;have s27:=bf (o:=AObj.cells [V.str m.text] false) s25 (aP s25 hbn);have hn2:hadd h5 bn (AObj.cells [V.str m.text] false) bn=_:=ah;generalize hadd h5 bn (AObj.cells [V.str m.text] false)=h6 at o7 s27 hn2⊢;refine W8 t0 t5 t6 t11 t12 t13 t37 (An2 t38 (An2 t39 (An2 o7 hn2))) ?_;intro ba hba;have nab:=af hba o7;have o8:=(ae (o:=AObj.cells [V.str m.text] false) nab).trans o7;have za:=aP s27 hba;have s28:=bf (o:=AObj.cells [V.str m.text] false) s27 za;have ca:hadd h6 ba (AObj.cells [V.str m.text] false) ba=_:=ah;generalize hadd h6 ba (AObj.cells [V.str m.text] false)=h7 at o8 s28 ca⊢;refine W8 t0 t5 t6 t11 t12 t13 t37 (An2 t38 (An2 t39 o8)) ?_;have j0:j=0:=by rw[e5]at len;simpa using len.symm
         subst j0;obtain⟨f1,f2⟩:=fin h7 ba o8 (by rw[e5];exact ca) za (Ne.symm nab) s28;exact⟨1,by omega,by omega,rfl,_,rfl,f1,f2⟩
        ·simp only[len]at o6 fin;have hlm:(List.map V.str (f.ps.take j)).length=j:=by rw[List.length_map,len]
         have hfl:(List.map V.str (f.ps.take j)).all V.flat=true:=List.all_eq_true.2 fun v hv=>by obtain⟨x,_,rfl⟩:=List.mem_map.1 hv;rfl
         have tk:List.take j (List.map V.str (f.ps.take j))=List.map V.str (f.ps.take j):=List.take_of_length_le (by omega);refine W8 t0 t5 t6 t11 t12 t13 t37 (An2 t38 (An2 t39 (An2 o6 c8))) ?_;intro bn hbn;have o7:=(ae (o:=AObj.cells [V.str m.text] false) (af hbn o6)).trans o6;have cp7:=(ae (o:=AObj.cells [V.str m.text] false) (af hbn cp)).trans cp;have s27:=bf (o:=AObj.cells [V.str m.text] false) s25 (aP s25 hbn);have hn2:hadd h5 bn (AObj.cells [V.str m.text] false) bn=_:=ah;generalize hadd h5 bn (AObj.cells [V.str m.text] false)=h6 at o7 s27 hn2 cp7⊢;generalize List.map V.str (f.ps.take j)=row at *;refine W8 t0 t5 t6 t11 t12 t13 t37 (An2 t38 (An2 t39 (An2 o7 (An2 hn2 (An2 cp7 (An2 hlm (An2 hfl tk))))))) ?_;intro ba nab5 hba;have nab:=af hba o7;have o8:hadd (hset h6 bp none) ba (AObj.cells (row++[V.str m.text]) false) b6=_:=(ae nab).trans ((if_neg (Ne.symm mp)).trans o7);have za:=aP s27 hba;have s28:Sub h2 (hadd (hset h6 bp none) ba (AObj.cells (row++[V.str m.text]) false)):=fun c x hc=>by rw[ae (af za hc)];exact(if_neg (af zp hc)).trans (s27 _ _ hc)
         have ca:hadd (hset h6 bp none) ba (AObj.cells (row++[V.str m.text]) false) ba=_:=ah;generalize hadd (hset h6 bp none) ba (AObj.cells (row++[V.str m.text]) false)=h7 at o8 s28 ca⊢;refine W8 t0 t5 t6 t11 t12 t13 t37 (An2 t38 (An2 t39 o8)) ?_;obtain⟨f1,f2⟩:=fin h7 ba o8 ca za (Ne.symm nab) s28;exact⟨j+1,by omega,by omega,by simp,_,rfl,f1,f2⟩
       ·have:j=n:=by omega
        subst this;refine W2 t38 t39 ?_;exact⟨t0,t5,t6,t11,t12,t13,pv,o6,by rw[← hf7,List.take_length]at P;exact P,s24⟩
     ·rintro ex ⟨tb,ds⟩ h4 ⟨rfl,hd,t0,t5,t6,t11,t12,t13,pv,o6,P,s24⟩;dsimp only at hd t0 t5 t6 t11 t12 t13;subst hd;have C4:=C2.keep s24;have hp4:=C4.sub _ _ (sg1 _ _ hp);have j5:=s24 _ _ h5;have pf:pv.flat=true:=by rcases P with⟨_,rfl⟩|⟨b,_,_,_,rfl,_⟩<;>rfl
      obtain⟨fb,csF,di1,di2,ci3⟩:=C2.info;have ci1:=s24 _ _ di1;have ci2:ai (items.take i)≠[]→h4 fb=some (.cells csF false)∧g1 fb=none∧fb≠ib:=fun e=>⟨s24 _ _ (di2 e).1,(di2 e).2⟩;obtain⟨es,ck,lk,cn1,cn2,cn3⟩:=C4.names;have nif:fm≠ib:=fun e=>by rw[e,ci1]at cn1;cases cn1
      have llF:llE (if ai (items.take i)=[]then V.nilsl else .sl fb 0 7 (ai (items.take i)).length)=some (.int .i64 (ai (items.take i)).length):=by
       split
       ·rename_i e;rw[e];rfl
       ·rfl
      generalize hF0:ai (items.take i)=F0 at *;obtain⟨nn,hnn'⟩:=cn2.find t;rw[cn3 t]at hnn';rw[Option.map_map]at hnn';refine(show E _ (.seq _ _) _ _ _ from ?_);rw[Js];refine E.cut AC.mono (fun ex a' h'=>ex=.nm∧a'.d=[]∧a'.t 0=.ptr p 0∧a'.t 6=.ptr b6 0∧a'.t 11=.sl bk 0 4 items.length∧a'.t 12=.int .i64 items.length∧a'.t 13=.int .i64 i∧∃es' ck' lk',h'=hadd h4 fm (.map es' ck')∧Rep es' ck' lk'∧∀x,gJ lk' x=(eH (F0++[f]) x).map fun(k:Nat)=>V.int .i64 (k:Int)) ?_ ?_
      ·cases hN:eH F0 t with
       |some k =>
         rw[hN]at hnn';have e1:∀x,gJ lk x=(eH (F0++[f]) x).map fun(k:Nat)=>V.int .i64 (k:Int):=fun x=>by
          rw[cn3 x,zl];cases hx:eH F0 x with
          |some k=>rfl
          |none =>
            have:f.name≠x:=fun e=>by rw[← e,e6,hN]at hx;cases hx
            rw[if_neg this];rfl
         refine W8 t0 t5 t6 t11 t12 t13 hp4 (An2 cn1 (An2 hnn' j5)) ?_;exact⟨es,ck,lk,(Io cn1).symm,cn2,e1⟩
       |none =>
         rw[hN]at hnn';have e0:gJ lk t=none:=by rw[cn3,hN];rfl
         obtain⟨es',ck',mu1,mu2⟩:=cn2.put (k:=t) (v:=V.int .i64 F0.length) (b:=fm) (h:=h4);have hnn2:=hnn';have e1:∀x,gJ (xG lk t (V.int .i64 F0.length)) x=(eH (F0++[f]) x).map fun(k:Nat)=>V.int .i64 (k:Int):=fun x=>by
          rw[LC,cn3 x,zl,e6]
          by_cases c:x=t
          ·rw[if_pos c,c,hN,if_pos rfl];rfl
          ·rw[if_neg c,if_neg (Ne.symm c)];cases eH F0 x<;>rfl
         refine W8 t0 t5 t6 t11 t12 t13 hp4 (An2 cn1 (An2 hnn' (An2 j5 (An2 ci1 (An2 llF mu1))))) ?_;exact⟨_,_,_,rfl,cn2.add e0,e1⟩
      ·rintro ex ⟨tc,ds⟩ h5 ⟨rfl,hd,t0,t6,t11,t12,t13,es',ck',lk',rfl,nr,nl⟩;dsimp only at hd t0 t6 t11 t12 t13;subst hd;have n6:b6≠fm:=fun e=>by rw[e,cn1]at o6;cases o6
       have k6:=(ae (o:=AObj.map es' ck') n6).trans o6;have ki:=(ae (o:=AObj.map es' ck') (Ne.symm nif)).trans ci1;have km:hadd h4 fm (AObj.map es' ck') fm=_:=ah;have S5:Sub g1 (hadd h4 fm (AObj.map es' ck')):=bf C4.sub C4.gfm;have kfb2:F0≠[]→hadd h4 fm (AObj.map es' ck') fb=some (.cells csF false)∧g1 fb=none∧fb≠ib:=fun e=>by
        obtain⟨x,y,z⟩:=ci2 e;exact⟨(ae (fun e=>by rw[e,cn1]at x;cases x)).trans x,y,z⟩
       have hP:f.ps≠[]→∃bp,pv=.sl bp 0 1 f.ps.length∧hadd h4 fm (AObj.map es' ck') bp=some (.cells (f.ps.map V.str) false)∧g1 bp=none∧bp≠fm∧bp≠ib∧(F0≠[]→bp≠fb)∧bp≠p:=fun e=>by
        rcases P with⟨x,_⟩|⟨bp,np,zp,mp,x,cp⟩
        ·exact absurd x e
        ·have nb:bp≠fm:=fun e=>by rw[e,cn1]at cp;cases cp
         refine⟨bp,x,(ae nb).trans cp,aP C2.sub zp,nb,fun e=>?_,fun hF e=>?_,fun e=>by rw[e,C2.sub _ _ (sg1 _ _ hp)]at zp;cases zp⟩
         ·rw[e,di1]at zp;cases zp
         ·rw[e,(di2 hF).1]at zp;cases zp
       have kp:=S5 _ _ (sg1 _ _ hp);generalize hadd h4 fm (AObj.map es' ck')=h5 at *;have final:∀h' fb',h' ib=some (.cells [.sl fb' 0 7 (F0.length+1),.nilsl,.nilsl] false)→h' fb'=some (.cells (csF++[V.str t,pv,V.nilsl,V.str f.body.op,V.str f.body.text,V.int .i64 f.body.at',kvb]) false)→g1 fb'=none→fb'≠ib→Sub g1 h'→h' fm=some (.map es' ck') →
         (∀bp,h5 bp=some (.cells (f.ps.map V.str) false)→(F0≠[]→bp≠fb)→bp≠ib→h' bp=some (.cells (f.ps.map V.str) false)∧bp≠fb')→∃g',Sub g g'∧ColS g' h' p fm ib (F0++[f]):=fun h' fb' x1 x2 x3 x4 x5 x6 x7=>by
        have kb9':=kb9;have ne:F0++[f]≠[]:=by simp
        have hle:(F0++[f]).length=F0.length+1:=by simp
        by_cases ep:f.ps=[]
        ·have epv:pv=.nilsl:=by
          rcases P with⟨_,x⟩|⟨bp,np,_⟩
          ·exact x
          ·exact absurd ep np
         refine⟨g1,sg1,x5,C1.gfm,C1.gib,⟨fb',_,by rw[if_neg ne,hle];exact x1,fun _=>⟨x2,x3,x4⟩,?_⟩,es',ck',lk',x6,nr,nl⟩;rw[← e6];exact FunsV.snoc ci3 (by omega) (.inl ⟨ep,epv⟩) kb9
        ·obtain⟨bp,y1,y2,y3,y4,y5,y6,y7⟩:=hP ep;obtain⟨z1,z2⟩:=x7 bp y2 y6 y5;have sgb:=aG (o:=AObj.cells (f.ps.map V.str) false) y3;refine⟨hadd g1 bp (.cells (f.ps.map V.str) false),fun c o hc=>sgb _ _ (sg1 _ _ hc),fun c o hc=>?_,by rw[ae (Ne.symm y4)];exact C1.gfm,by rw[ae (Ne.symm y5)];exact C1.gib,
          ⟨fb',_,by rw[if_neg ne,hle];exact x1,fun _=>⟨x2,by rw[ae (Ne.symm z2)];exact x3,x4⟩,?_⟩,es',ck',lk',x6,nr,nl⟩
         ·by_cases e:c=bp
          ·subst e;rw[ah]at hc;rw[← hc];exact z1
          ·rw[ae e]at hc;exact x5 _ _ hc
         ·rw[← e6];exact FunsV.snoc (ci3.mono sgb) (by omega) (.inr ⟨bp,ep,rfl,y7,y1,ah⟩) (kb9.mono sgb)
       have fin:∀h',(∃g',Sub g g'∧ColS g' h' p fm ib (F0++[f]))→∃g',Sub g g'∧ColS g' h' p fm ib (ai (items.take (i+1)))∧(ai (items.take (i+1))).length≤i+1:=fun h' ⟨g',x,y⟩=>⟨g',x,by rw[ft];exact y,by rw[ft];simp;omega⟩
       by_cases eF:F0=[]
       ·rw[if_pos eF]at ki;refine W8 t0 t6 t11 t12 t13 k6 ki (An2 kp (An2 pf kfb)) ?_;intro bn hbn;have k6:=(ae (o:=AObj.cells [V.str t,pv,V.nilsl,V.str f.body.op,V.str f.body.text,V.int .i64 f.body.at',kvb] false) (af hbn k6)).trans k6;have ki:=(ae (o:=AObj.cells [V.str t,pv,V.nilsl,V.str f.body.op,V.str f.body.text,V.int .i64 f.body.at',kvb] false) (af hbn ki)).trans ki;have km:=(ae (o:=AObj.cells [V.str t,pv,V.nilsl,V.str f.body.op,V.str f.body.text,V.int .i64 f.body.at',kvb] false) (af hbn km)).trans km;have kp:=(ae (o:=AObj.cells [V.str t,pv,V.nilsl,V.str f.body.op,V.str f.body.text,V.int .i64 f.body.at',kvb] false) (af hbn kp)).trans kp;have kbn:hadd h5 bn (AObj.cells [V.str t,pv,V.nilsl,V.str f.body.op,V.str f.body.text,V.int .i64 f.body.at',kvb] false) bn=_:=ah;have S6:=bf (o:=AObj.cells [V.str t,pv,V.nilsl,V.str f.body.op,V.str f.body.text,V.int .i64 f.body.at',kvb] false) S5 (aP S5 hbn);have S56:=aG (o:=AObj.cells [V.str t,pv,V.nilsl,V.str f.body.op,V.str f.body.text,V.int .i64 f.body.at',kvb] false) hbn;generalize hadd h5 bn (AObj.cells [V.str t,pv,V.nilsl,V.str f.body.op,V.str f.body.text,V.int .i64 f.body.at',kvb] false)=h6 at k6 ki km kp kbn S6 S56⊢;refine W8 t0 t6 t11 t12 t13 k6 ki (An2 kp (An2 kbn (An2 pf kfb))) ?_;intro ba hba;have nia:ib≠ba:=af hba ki;have ki:=(ae (o:=(AObj.cells [V.str t,pv,V.nilsl,V.str f.body.op,V.str f.body.text,V.int .i64 f.body.at',kvb] false)) (af hba ki)).trans ki;have km:=(ae (o:=(AObj.cells [V.str t,pv,V.nilsl,V.str f.body.op,V.str f.body.text,V.int .i64 f.body.at',kvb] false)) (af hba km)).trans km;have kp:=(ae (o:=(AObj.cells [V.str t,pv,V.nilsl,V.str f.body.op,V.str f.body.text,V.int .i64 f.body.at',kvb] false)) (af hba kp)).trans kp;have kba:hadd h6 ba (AObj.cells [V.str t,pv,V.nilsl,V.str f.body.op,V.str f.body.text,V.int .i64 f.body.at',kvb] false) ba=_:=ah;have S7:=bf (o:=(AObj.cells [V.str t,pv,V.nilsl,V.str f.body.op,V.str f.body.text,V.int .i64 f.body.at',kvb] false)) S6 (aP S6 hba);have S67:=aG (o:=(AObj.cells [V.str t,pv,V.nilsl,V.str f.body.op,V.str f.body.text,V.int .i64 f.body.at',kvb] false)) hba;have za:=aP S6 hba;have z5:=aP S56 hba;generalize hadd h6 ba (AObj.cells [V.str t,pv,V.nilsl,V.str f.body.op,V.str f.body.text,V.int .i64 f.body.at',kvb] false)=h7 at ki km kp kba S7 S67⊢;refine W7 t0 t6 t11 t12 t13 ki kp ?_;have hz:F0.length=0:=by rw[eF];rfl
        obtain rfl:csF=[]:=by rw[eF]at ci3;cases ci3;rfl
        exact⟨i+1,by omega,by omega,by simp,fin _ (final _ ba (by rw[hz];exact ah) ((ae (Ne.symm nia)).trans kba) za (Ne.symm nia) (bf S7 C1.gib) ((ae nif).trans km) fun bp y1 _ y3=>⟨(ae y3).trans (S67 _ _ (S56 _ _ y1)),af z5 y1⟩)⟩
       ·rw[if_neg eF]at ki;obtain⟨kfb3,gfb,nfi⟩:=kfb2 eF;have clF:=ci3.len;have hlF:csF.length=F0.length*7:=by omega
        have hfl:=ci3.flat;have tk:List.take (F0.length*7) csF=csF:=List.take_of_length_le (by omega);refine W8 t0 t6 t11 t12 t13 k6 ki (An2 kp (An2 pf kfb)) ?_;intro bn hbn;have k6:=(ae (o:=(AObj.cells [V.str t,pv,V.nilsl,V.str f.body.op,V.str f.body.text,V.int .i64 f.body.at',kvb] false)) (af hbn k6)).trans k6;have ki:=(ae (o:=(AObj.cells [V.str t,pv,V.nilsl,V.str f.body.op,V.str f.body.text,V.int .i64 f.body.at',kvb] false)) (af hbn ki)).trans ki;have km:=(ae (o:=(AObj.cells [V.str t,pv,V.nilsl,V.str f.body.op,V.str f.body.text,V.int .i64 f.body.at',kvb] false)) (af hbn km)).trans km;have kp:=(ae (o:=(AObj.cells [V.str t,pv,V.nilsl,V.str f.body.op,V.str f.body.text,V.int .i64 f.body.at',kvb] false)) (af hbn kp)).trans kp;have kfb3:=(ae (o:=(AObj.cells [V.str t,pv,V.nilsl,V.str f.body.op,V.str f.body.text,V.int .i64 f.body.at',kvb] false)) (af hbn kfb3)).trans kfb3;have kbn:hadd h5 bn (AObj.cells [V.str t,pv,V.nilsl,V.str f.body.op,V.str f.body.text,V.int .i64 f.body.at',kvb] false) bn=_:=ah;have S6:=bf (o:=(AObj.cells [V.str t,pv,V.nilsl,V.str f.body.op,V.str f.body.text,V.int .i64 f.body.at',kvb] false)) S5 (aP S5 hbn);have S56:=aG (o:=(AObj.cells [V.str t,pv,V.nilsl,V.str f.body.op,V.str f.body.text,V.int .i64 f.body.at',kvb] false)) hbn;generalize hadd h5 bn (AObj.cells [V.str t,pv,V.nilsl,V.str f.body.op,V.str f.body.text,V.int .i64 f.body.at',kvb] false)=h6 at k6 ki km kp kfb3 kbn S6 S56⊢;have npf:p≠fb:=fun e=>by rw[← e,sg1 _ _ hp]at gfb;cases gfb
        have nif2:ib≠fb:=Ne.symm nfi;have n6f:b6≠fb:=fun e=>by rw[e,(di2 eF).1]at hb6';cases hb6'
        refine W8 t0 t6 t11 t12 t13 k6 ki (An2 kp (An2 kbn (An2 kfb3 (An2 hlF (An2 hfl (An2 tk (An2 pf kfb))))))) ?_;intro ba naf hba;have nia:ib≠ba:=af hba ki;have hn:∀c o,c≠fb→h6 c=some o→hadd (hset h6 fb none) ba (AObj.cells (csF++[V.str t,pv,V.nilsl,V.str f.body.op,V.str f.body.text,V.int .i64 f.body.at',kvb]) false) c=some o:=fun c o n e=>(ae (af hba e)).trans ((if_neg n).trans e);have nmf:fm≠fb:=fun e=>by rw[e,kfb3]at km;cases km
        have ki:=hn _ _ nif2 ki;have km:=hn _ _ nmf km;have kp:=hn _ _ npf kp;have kba:hadd (hset h6 fb none) ba (AObj.cells (csF++[V.str t,pv,V.nilsl,V.str f.body.op,V.str f.body.text,V.int .i64 f.body.at',kvb]) false) ba=_:=ah;have za:=aP S6 hba;have S7:Sub g1 (hadd (hset h6 fb none) ba (AObj.cells (csF++[V.str t,pv,V.nilsl,V.str f.body.op,V.str f.body.text,V.int .i64 f.body.at',kvb]) false)):=fun c o hc=>hn _ _ (af gfb hc) (S6 _ _ hc);have z5:=aP S56 hba;generalize hadd (hset h6 fb none) ba (AObj.cells (csF++[V.str t,pv,V.nilsl,V.str f.body.op,V.str f.body.text,V.int .i64 f.body.at',kvb]) false)=h7 at ki km kp kba S7 hn⊢;refine W7 t0 t6 t11 t12 t13 ki kp ?_;exact⟨i+1,by omega,by omega,by simp,fin _ (final _ ba ah ((ae (Ne.symm nia)).trans kba) za (Ne.symm nia) (bf S7 C1.gib) ((ae nif).trans km) fun bp y1 y2 y3=>⟨(ae y3).trans (hn _ _ (y2 eF) (S56 _ _ y1)),af z5 y1⟩)⟩
  ·have:i=items.length:=by omega
   subst this;rw[List.take_length]at C1;refine W2 t12 t13 ?_;exact⟨_,Sub.refl,hq _ _ sg1 C1⟩
end
section
open Mir
variable{h g:H}{p q:Nat}{Q:V→H→Prop}{fm ib am:Nat}{F:List RFn}
theorem PsV.moveC{h h':H}{q:Nat}(hm:∀c cs,c≠q→h c=some (.cells cs false)→h' c=some (.cells cs false)){l:List Txt}{v:V}(k:PsV (fun _=>none) h q l v):PsV (fun _=>none) h' q l v:=by
 rcases k with k|⟨b,h1,h2,h3,h4,h5⟩
 ·exact .inl k
 ·exact .inr ⟨b,h1,rfl,h3,h4,hm _ _ h3 h5⟩
mutual
theorem NodeV.moveN{h h':H}{p:Nat}(hm:∀c cs,c≠p→h c=some (.cells cs false)→h' c=some (.cells cs false)):∀{t:Tree} {v:V},NodeV (fun _=>none) h p t v→NodeV (fun _=>none) h' p t v
 |_,_,.mk k=>.mk (KidsV.moveN hm k)
theorem KidsV.moveN{h h':H}{p:Nat}(hm:∀c cs,c≠p→h c=some (.cells cs false)→h' c=some (.cells cs false)):∀{l:List Tree} {v:V},KidsV (fun _=>none) h p l v→KidsV (fun _=>none) h' p l v
 |_,_,.nil=>.nil
 |_,_,.sl a b c d e=>.sl a rfl c (hm _ _ c d) (CellsV.moveN hm e)
theorem CellsV.moveN{h h':H}{p:Nat}(hm:∀c cs,c≠p→h c=some (.cells cs false)→h' c=some (.cells cs false)):∀{l:List Tree} {cs:List V},CellsV (fun _=>none) h p l cs→CellsV (fun _=>none) h' p l cs
 |_,_,.nil=>.nil
 |_,_,.cons k c=>.cons (KidsV.moveN hm k) (CellsV.moveN hm c)
end
mutual
theorem NodeV.requ{h:H}{p q:Nat}(hq:h q=none):∀{t:Tree} {v:V},NodeV (fun _=>none) h p t v→NodeV (fun _=>none) h q t v
 |_,_,.mk k=>.mk (KidsV.requ hq k)
theorem KidsV.requ{h:H}{p q:Nat}(hq:h q=none):∀{l:List Tree} {v:V},KidsV (fun _=>none) h p l v→KidsV (fun _=>none) h q l v
 |_,_,.nil=>.nil
 |_,_,.sl a b c d e=>.sl a rfl (fun x=>by rw[x,hq]at d;cases d) d (CellsV.requ hq e)
theorem CellsV.requ{h:H}{p q:Nat}(hq:h q=none):∀{l:List Tree} {cs:List V},CellsV (fun _=>none) h p l cs→CellsV (fun _=>none) h q l cs
 |_,_,.nil=>.nil
 |_,_,.cons k c=>.cons (KidsV.requ hq k) (CellsV.requ hq c)
end
theorem FunsV.moveN{h h':H}{q:Nat}(hm:∀c cs,c≠q→h c=some (.cells cs false)→h' c=some (.cells cs false)){l:List RFn}{cs:List V}(k:FunsV h q l cs):FunsV h' q l cs:=by
 induction k with
 |nil=>exact .nil
 |cons a b c _ ih=>exact .cons a (b.moveC hm) (c.moveN hm) ih
theorem IJ:∀(t:Tree),(nodes t).length≤tsz t:=by
 intro t;refine Tree.rec (motive_1:=fun t=>(nodes t).length≤tsz t) (motive_2:=fun l=>(bP l).length≤cO l) ?_ ?_ ?_ t
 ·intro o t a l ih;rw[nodes,tsz,List.length_cons];omega
 ·rw[bP,cO];exact Nat.le_refl _
 ·intro k l h1 h2;rw[bP,cO,List.length_append];omega
theorem xk:∀(l:List Tree),(bP l).length≤cO l
 |[]=>by rw[bP,cO];exact Nat.le_refl _
 |k::l=>by have:=IJ k;have:=xk l;rw[bP,cO,List.length_append];omega
theorem KI{items:List Tree}{i:Nat}(h:i<items.length)(c:(items.getD i .zero).op=[102,117,110,99]):(ai (items.take i)).length<(ai items).length∧(ai items).getD (ai (items.take i)).length default=Mir.fnOf (items.getD i .zero):=by
 have h1:=lw h;rw[if_pos c]at h1;have h2:ai items=ai (items.take (i+1))++ai (items.drop (i+1)):=by
  unfold ai;rw[← List.map_append,← List.filter_append,List.take_append_drop]
 rw[h2,h1];refine⟨by simp,?_⟩;rw[List.append_assoc,List.getD_eq_getElem?_getD,List.getElem?_append_right (Nat.le_refl _),Nat.sub_self];rfl
theorem MR{items:List Tree}{i:Tree}(h:i∈items)(c:i.op=[102,117,110,99]):eH (ai items) i.text≠none:=by
 intro e;unfold eH at e;rw[List.findIdx?_eq_none_iff]at e;have:=e (Mir.fnOf i) (List.mem_map.2 ⟨i,List.mem_filter.2 ⟨h,decide_eq_true c⟩,rfl⟩);simp[Mir.fnOf]at this
theorem DL{F:List RFn}{A:Sym→Bool}{l:List Tree}{i:Nat}(h:i<l.length){n:Nat}{r:RSt}:eG F A (l.drop i) n r=eG F A (l.drop (i+1)) (if(l.getD i .zero).op=[102,117,110,99]then n+1 else n) (nJ F A (l.getD i .zero) n r):=by
 rw[List.drop_eq_getElem_cons h,eG,List.getD_eq_getElem?_getD,List.getElem?_eq_getElem h];rfl
structure FRow where
 f:RFn
 pv:V
 av:V
 kv:V
def FRow.cs(r:FRow):List V:=[.str r.f.name,r.pv,r.av,.str r.f.body.op,.str r.f.body.text,.int .i64 r.f.body.at',r.kv]
def rowsC(l:List FRow):List V:=l.flatMap FRow.cs
theorem tZ(l:List FRow):(rowsC l).length=l.length*7:=by
 induction l with
 |nil=>rfl
 |cons r l ih=>unfold rowsC at *;rw[List.flatMap_cons,List.length_append,ih,List.length_cons];simp only[FRow.cs,List.length_cons,List.length_nil];omega
theorem fQ{r:FRow}{l:List FRow}:rowsC (r::l)=r.cs++rowsC l:=by unfold rowsC;rw[List.flatMap_cons]
theorem pz:∀{l:List FRow} {i:Nat} (h:i<l.length),((rowsC l).drop (i*7)).take 7=l[i].cs
 |[],_,h=>absurd h (Nat.not_lt_zero _)
 |r::l,0,_=>by rw[fQ];rfl
 |r::l,i+1,h=>by
   have:=pz (l:=l) (i:=i) (by simpa using h);rw[fQ,show(i+1)*7=r.cs.length+i*7 from by show _=7+i*7;omega,List.drop_append,List.getElem_cons_succ];rw[List.drop_of_length_le (by show 7≤_;show r.cs.length≤r.cs.length+i*7;omega),List.nil_append,Nat.add_sub_cancel_left];exact this
theorem NQ{l:List FRow}{i:Nat}(h:i<l.length):(rowsC l)[i*7+2]?=some l[i].av:=by
 have:=congrArg (fun l=>l[2]?) (pz h);simpa[List.getElem?_take,List.getElem?_drop,FRow.cs]using this
theorem zC:∀{l:List FRow} {i:Nat} (h:i<l.length) (v:V),(rowsC l).take (i*7+2)++[v]++(rowsC l).drop (i*7+2+1)=rowsC (l.set i {l[i]with av:=v})
 |[],_,h,_=>absurd h (Nat.not_lt_zero _)
 |r::l,0,_,v=>by rw[fQ,List.set_cons_zero,fQ];rfl
 |r::l,i+1,h,v=>by
   have ih:=zC (l:=l) (i:=i) (by simpa using h) v;rw[fQ,List.set_cons_succ,fQ,List.getElem_cons_succ,← ih];have e:r.cs.length=7:=rfl;rw[show(i+1)*7+2=r.cs.length+(i*7+2)from by rw[e];omega,List.take_length_add_append,show r.cs.length+(i*7+2)+1=r.cs.length+(i*7+2+1)from by omega,List.drop_length_add_append];simp[List.append_assoc]
def BoolsV(h:H)(l:List Bool)(v:V):Prop:=(l=[]∧v=.nilsl)∨∃b,l≠[]∧v=.sl b 0 1 l.length∧h b=some (.cells (l.map V.bool) false)
theorem FunsV.rows{q:Nat}{F:List RFn}{cs:List V}(k:FunsV g q F cs):∃rows:List FRow,rows.map FRow.f=F∧cs=rowsC rows∧∀r∈rows,r.av=.nilsl∧r.f.ps.length≤100000∧PsV (fun _=>none) g q r.f.ps r.pv∧KidsV (fun _=>none) g q r.f.body.kids r.kv:=by
 induction k with
 |nil=>exact⟨[],rfl,rfl,by simp⟩
 |@cons f pv kv l cs a b c _ ih =>
   obtain⟨rows,e1,e2,e3⟩:=ih;refine⟨⟨f,pv,.nilsl,kv⟩::rows,by rw[List.map_cons,e1],by rw[fQ,e2];rfl,fun r hr=>?_⟩;rcases List.mem_cons.1 hr with rfl|hr
   ·exact⟨rfl,a,b,c⟩
   ·exact e3 r hr
structure RowsOk(g:H)(q:Nat)(A:List Sym)(F:List RFn)(rows:List FRow)(k:Nat):Prop where
 fs:rows.map FRow.f=F
 ok:∀i (h:i<rows.length),rows[i].f.ps.length≤100000∧PsV (fun _=>none) g q rows[i].f.ps rows[i].pv∧KidsV (fun _=>none) g q rows[i].f.body.kids rows[i].kv
 done:∀i (h:i<rows.length),i<k→BoolsV g (rows[i].f.ps.map fun x=>decide ((some i,x)∈A)) rows[i].av
 rest:∀i (h:i<rows.length),k≤i→rows[i].av=.nilsl
end
section
open Mir
variable{h g:H}{p q:Nat}{Q:V→H→Prop}{fm ib am:Nat}{F:List RFn}
theorem rO{g:H}{c:Nat}:Sub (hset g c none) g:=fun x o hx=>by
 unfold hset at hx;split at hx
 ·cases hx
 ·exact hx
theorem yU{g g':H}{c:Nat}(s:Sub g g'):Sub (hset g c none) (hset g' c none):=fun x o hx=>by
 unfold hset at hx⊢;split at hx
 ·cases hx
 ·rename_i n;rw[if_neg n];exact s _ _ hx
theorem BoolsV.mono{g g':H}(s:Sub g g'){l:List Bool}{v:V}(k:BoolsV g l v):BoolsV g' l v:=by
 rcases k with k|⟨b,h1,h2,h3⟩
 ·exact .inl k
 ·exact .inr ⟨b,h1,h2,s _ _ h3⟩
theorem RowsOk.mono{g g':H}(s:Sub g g'){A:List Sym}{rows:List FRow}{k:Nat}(RO:RowsOk g q A F rows k):RowsOk g' q A F rows k:=
 ⟨RO.fs,fun i h=>by
  obtain⟨a,b,c⟩:=RO.ok i h;exact⟨a,b.mono s,c.mono s⟩,fun i h k=>(RO.done i h k).mono s,RO.rest⟩
theorem RowsOk.next{g g':H}(s:Sub g g'){A:List Sym}{rows:List FRow}{i:Nat}(RO:RowsOk g q A F rows i)(hi:i<rows.length){v:V}(hv:BoolsV g' (rows[i].f.ps.map fun x=>decide ((some i,x)∈A)) v):RowsOk g' q A F (rows.set i {rows[i]with av:=v}) (i+1):=by
 have RO:=RO.mono s;refine⟨?_,fun j h=>?_,fun j h hj=>?_,fun j h hj=>?_⟩
 ·rw[List.map_set,← RO.fs];refine List.ext_getElem (by simp) fun j h1 h2=>?_;rw[List.getElem_set];split
  ·rename_i e;subst e;simp
  ·rfl
 ·rw[List.length_set]at h;rw[List.getElem_set];split
  ·rename_i e;subst e;exact RO.ok i h
  ·exact RO.ok j h
 ·rw[List.length_set]at h
  by_cases e:i=j
  ·subst e;rw[List.getElem_set_self];exact hv
  ·rw[List.getElem_set_ne e];exact RO.done j h (by omega)
 ·rw[List.length_set]at h;rw[List.getElem_set_ne (by omega)];exact RO.rest j h (by omega)
theorem KidsW.requ{h:H}{p q:Nat}(hq:h q=none){l:List Tree}{v:V}(k:KidsW h p l v):KidsW h q l v:=k.elim (fun k=>.inl (k.requ hq)) .inr
theorem KidsW.moveN{h h':H}{p:Nat}(hm:∀c cs,c≠p→h c=some (.cells cs false)→h' c=some (.cells cs false)){l:List Tree}{v:V}(k:KidsW h p l v):KidsW h' p l v:=k.elim (fun k=>.inl (k.moveN hm)) .inr
structure InfoV(h:H)(ib q:Nat)(A:List Sym)(F:List RFn)(order:List Txt):Prop where
 obj:∃fb rows gv av,h ib=some (.cells [if F=[]then .nilsl else .sl fb 0 7 F.length,gv,av] false)∧(F≠[]→h fb=some (.cells (rowsC rows) false))∧RowsOk h q A F rows F.length ∧
  PsV (fun _=>none) h q order gv∧BoolsV h (order.map fun x=>decide ((none,x)∈A)) av
 len:order.length≤100000
set_option maxHeartbeats 1000000 in
theorem lM{items:List Tree}{kv:V}{o t:Txt}{a:Nat}(kb:KidsW h q items kv)(hsz:cO items≤100000)(hn:∀i∈items,i.op=[102,117,110,99]→i.kids≠[])(spec:h 0=some (.cells [.sl 600 0 1 8] true)∧h 600=some (.cells (special.map .str) true))
  (hq1:∀(A:List Sym) (h':H),(∀s,s∈A↔ArrS (ai items) items s)→Sub h h'→(aJ (fun s=>decide (s∈A)) items).err≠0→Q (.tup [.nilptr,.int .i64 (aJ (fun s=>decide (s∈A)) items).bad,.int .i64 (aJ (fun s=>decide (s∈A)) items).err]) h')
  (hq2:∀(A:List Sym) (h':H) (ib q':Nat),(∀s,s∈A↔ArrS (ai items) items s)→Sub h h'→(aJ (fun s=>decide (s∈A)) items).err=0→InfoV h' ib q' A (ai items) (aJ (fun s=>decide (s∈A)) items).order→Q (.tup [.ptr ib 0,.int .i64 0,.int .i64 0]) h'):
  AC pg (.fn 16) [.agg [.str o,.str t,.int .i64 a,kv]] h Q:=by
 have kf:=kb.flat;have hll:items.length≤100000:=Nat.le_trans fA hsz;refine AC.fn' (g:=g16) rfl (by simp only[List.length_cons,List.length_nil,g16];decide) ?_;simp only[g16,Mir.Ab.all];refine W1 kf ?_;intro b1 hb1;have s1:=aG (o:=AObj.cells [V.str o,V.str t,V.int .i64 a,kv] false) hb1;have c1:hadd h b1 (AObj.cells [V.str o,V.str t,V.int .i64 a,kv] false) b1=_:=ah;have kb1:=kb.mono s1;generalize hadd h b1 (AObj.cells [V.str o,V.str t,V.int .i64 a,kv] false)=hB at *;refine W1 kf ?_;intro fm hfm;refine W0 ?_;intro ib hib;refine W0 ?_;intro am ham;refine W0 ?_;intro p hp;have zfm:hB fm=none:=hfm;have nf1:ib≠fm:=fun e=>by rw[e,ah]at hib;cases hib
 have zib:hB ib=none:=by rw[ae nf1]at hib;exact hib
 have nf2:am≠ib:=fun e=>by rw[e,ah]at ham;cases ham
 rw[ae nf2]at ham;have nf3:am≠fm:=fun e=>by rw[e,ah]at ham;cases ham
 have zam:hB am=none:=by rw[ae nf3]at ham;exact ham
 have nf4:p≠am:=fun e=>by rw[e,ah]at hp;cases hp
 rw[ae nf4]at hp;have nf5:p≠ib:=fun e=>by rw[e,ah]at hp;cases hp
 rw[ae nf5]at hp;have nf6:p≠fm:=fun e=>by rw[e,ah]at hp;cases hp
 have zp:hB p=none:=by rw[ae nf6]at hp;exact hp
 refine W0 ?_;have p5:(hadd (hadd (hadd (hadd hB fm (AObj.map [] 0)) ib (AObj.cells [V.nilsl,V.nilsl,V.nilsl] false)) am (AObj.map [] 0)) p (AObj.cells [V.map fm,V.ptr ib 0,V.map am,V.nilsl,V.int .i64 0,V.int .i64 0] false)) p=_:=ah;have a5:(hadd (hadd (hadd (hadd hB fm (AObj.map [] 0)) ib (AObj.cells [V.nilsl,V.nilsl,V.nilsl] false)) am (AObj.map [] 0)) p (AObj.cells [V.map fm,V.ptr ib 0,V.map am,V.nilsl,V.int .i64 0,V.int .i64 0] false)) am=_:=(ae (Ne.symm nf4)).trans ah;have i5:(hadd (hadd (hadd (hadd hB fm (AObj.map [] 0)) ib (AObj.cells [V.nilsl,V.nilsl,V.nilsl] false)) am (AObj.map [] 0)) p (AObj.cells [V.map fm,V.ptr ib 0,V.map am,V.nilsl,V.int .i64 0,V.int .i64 0] false)) ib=_:=(ae (Ne.symm nf5)).trans ((ae (Ne.symm nf2)).trans ah);have f5:(hadd (hadd (hadd (hadd hB fm (AObj.map [] 0)) ib (AObj.cells [V.nilsl,V.nilsl,V.nilsl] false)) am (AObj.map [] 0)) p (AObj.cells [V.map fm,V.ptr ib 0,V.map am,V.nilsl,V.int .i64 0,V.int .i64 0] false)) fm=_:=(ae (Ne.symm nf6)).trans ((ae (Ne.symm nf3)).trans ((ae (Ne.symm nf1)).trans ah));have B5:Sub hB (hadd (hadd (hadd (hadd hB fm (AObj.map [] 0)) ib (AObj.cells [V.nilsl,V.nilsl,V.nilsl] false)) am (AObj.map [] 0)) p (AObj.cells [V.map fm,V.ptr ib 0,V.map am,V.nilsl,V.int .i64 0,V.int .i64 0] false)):=fun c o hc=>by
  rw[ae (af zp hc),ae (af zam hc),ae (af zib hc),ae (af zfm hc)];exact hc
 generalize hadd (hadd (hadd (hadd hB fm (AObj.map [] 0)) ib (AObj.cells [V.nilsl,V.nilsl,V.nilsl] false)) am (AObj.map [] 0)) p (AObj.cells [V.map fm,V.ptr ib 0,V.map am,V.nilsl,V.int .i64 0,V.int .i64 0] false)=h5 at p5 a5 i5 f5 B5⊢;have gp:hadd (hadd hB am (AObj.map [] 0)) p (AObj.cells [V.map fm,V.ptr ib 0,V.map am,V.nilsl,V.int .i64 0,V.int .i64 0] false) p=_:=ah;have ga:hadd (hadd hB am (AObj.map [] 0)) p (AObj.cells [V.map fm,V.ptr ib 0,V.map am,V.nilsl,V.int .i64 0,V.int .i64 0] false) am=_:=(ae (Ne.symm nf4)).trans ah;have gf:hadd (hadd hB am (AObj.map [] 0)) p (AObj.cells [V.map fm,V.ptr ib 0,V.map am,V.nilsl,V.int .i64 0,V.int .i64 0] false) fm=none:=(ae (Ne.symm nf6)).trans ((ae (Ne.symm nf3)).trans zfm);have gi:hadd (hadd hB am (AObj.map [] 0)) p (AObj.cells [V.map fm,V.ptr ib 0,V.map am,V.nilsl,V.int .i64 0,V.int .i64 0] false) ib=none:=(ae (Ne.symm nf5)).trans ((ae (Ne.symm nf2)).trans zib);have SB:Sub hB (hadd (hadd hB am (AObj.map [] 0)) p (AObj.cells [V.map fm,V.ptr ib 0,V.map am,V.nilsl,V.int .i64 0,V.int .i64 0] false)):=fun c o hc=>by
  rw[ae (af zp hc),ae (af zam hc)];exact hc
 have S5:Sub (hadd (hadd hB am (AObj.map [] 0)) p (AObj.cells [V.map fm,V.ptr ib 0,V.map am,V.nilsl,V.int .i64 0,V.int .i64 0] false)) h5:=fun c o hc=>by
  by_cases e1:c=p
  ·subst e1;rw[ah]at hc;rw[p5,hc]
  ·rw[ae e1]at hc
   by_cases e2:c=am
   ·subst e2;rw[ah]at hc;rw[a5,hc]
   ·rw[ae e2]at hc;exact B5 _ _ hc
 have kb2:=(kb1.requ zp).mono SB;generalize hadd (hadd hB am (AObj.map [] 0)) p (AObj.cells [V.map fm,V.ptr ib 0,V.map am,V.nilsl,V.int .i64 0,V.int .i64 0] false)=g1 at gp ga gf gi SB S5 kb2;have C5:ColS g1 h5 p fm ib []:=⟨S5,gf,gi,⟨0,[],i5,fun x=>absurd rfl x,.nil⟩,⟨[],0,[],f5,Rep.nil,fun x=>rfl⟩⟩;have d1:=B5 _ _ c1;refine W1 d1 ?_;refine Ef (r:=r0) (ov:=.nilsl) kb2 hsz hn gp C5 fun h6 g2 sg2 C6=>?_;have d1:=C6.sub _ _ (sg2 _ _ (SB _ _ c1));refine W1 d1 ?_;have a6:=C6.sub _ _ (sg2 _ _ ga);have gM:∀c cs,c≠p→g2 c=some (.cells cs false)→hset h6 am none c=some (.cells cs false):=fun c cs _ e=>(if_neg (fun e2=>by rw[e2,sg2 _ _ ga]at e;cases e)).trans (C6.sub _ _ e);have gM2:∀c cs,c≠p→g1 c=some (.cells cs false)→hset h6 am none c=some (.cells cs false):=fun c cs n e=>gM c cs n (sg2 _ _ e);have kbM:=kb2.moveN gM2;obtain⟨fb,cs,ci1,ci2,ci3⟩:=C6.info;obtain⟨es,ck,lk,cn1,cn2,cn3⟩:=C6.names;have nM:∀c o,c≠am→h6 c=some o→hset h6 am none c=some o:=fun c o n e=>(if_neg n).trans e;have sp1:=C6.sub _ _ (sg2 _ _ (SB _ _ (s1 _ _ spec.1)));have sp2:=C6.sub _ _ (sg2 _ _ (SB _ _ (s1 _ _ spec.2)));have sF:(ai items).length≤100000:=by unfold ai;rw[List.length_map];exact Nat.le_trans (List.length_filter_le ..) hll
 have BM:RvB (hset h6 am none) p fm ib fb (ai items):=
  ⟨⟨cs,nM _ _ (Ne.symm nf2) ci1,fun e=>nM _ _ (fun e2=>by rw[e2,a6]at ci2;cases (ci2 e).1) (ci2 e).1,ci3.moveN gM⟩,⟨es,ck,lk,nM _ _ (Ne.symm nf3) cn1,cn2,cn3⟩,
    ⟨nM _ _ (fun e2=>by rw[e2,a6]at sp1;cases sp1) sp1,nM _ _ (fun e2=>by rw[e2,a6]at sp2;cases sp2) sp2⟩,sF⟩
 have pM:=nM _ _ nf4 (C6.sub _ _ (sg2 _ _ gp));refine NP BM pM kbM (by omega) (fun i hi c=>MR hi c) (if_pos rfl) a6 SymRep.nil (fun c o hc=>by
  unfold hset at hc;split at hc
  ·cases hc
  ·exact hc) fun h7 A sM7 AB7 hA=>?_
 have p7:=sM7 _ _ pM;have n1p:b1≠p:=af zp c1;have kM:∀c o,c≠p→hset h6 am none c=some o→hset h7 p none c=some o:=fun c o n e=>(if_neg n).trans (sM7 _ _ e);have npb:ai items≠[]→fb≠p:=fun e e2=>by have:=(ci2 e).2.1;rw[e2,sg2 _ _ gp]at this;cases this
 have BK:RvB (hset h7 p none) p fm ib fb (ai items):=by
  obtain⟨⟨cs',x1,x2,x3⟩,⟨es',ck',lk',y1,y2,y3⟩,⟨z1,z2⟩,w⟩:=BM;exact⟨⟨cs',kM _ _ (Ne.symm nf5) x1,fun e=>kM _ _ (npb e) (x2 e),x3.moveN fun c cs n e=>kM _ _ n e⟩,⟨es',ck',lk',kM _ _ (Ne.symm nf6) y1,y2,y3⟩,
   ⟨kM _ _ (fun e=>by rw[e,pM]at z1;cases z1) z1,kM _ _ (fun e=>by rw[e,pM]at z2;cases z2) z2⟩,w⟩
 have AK:ArrB (hset h7 p none) am A:=by
  obtain⟨es',ck',e,R⟩:=AB7;exact⟨es',ck',(if_neg (Ne.symm nf4)).trans e,R⟩
 have kbK:=kbM.moveN (fun c cs n e=>kM c _ n e);have SK:RvS (hset h7 p none) h7 p fm ib am ((bP items).map Tree.text) ⟨[],0,0⟩:=
  ⟨⟨_,p7,.inl ⟨rfl,rfl⟩⟩,if_pos rfl,fun c o hc=>by
    unfold hset at hc;split at hc
    ·cases hc
    ·exact hc,by simp,by simp,by rw[List.length_map];exact Nat.le_trans (xk _) hsz⟩
 have cK:hset h7 p none b1=some (.cells [V.str o,V.str t,V.int .i64 a,kv] false):=kM _ _ n1p (nM _ _ (af zam c1) (C6.sub _ _ (sg2 _ _ (SB _ _ c1))));have SH:Sub h (hset h7 p none):=fun c o hc=>kM _ _ (af zp (s1 _ _ hc)) (nM _ _ (af zam (s1 _ _ hc)) (C6.sub _ _ (sg2 _ _ (SB _ _ (s1 _ _ hc)))));have G2K:∀c cs,c≠p→g2 c=some (.cells cs false)→hset h7 p none c=some (.cells cs false):=fun c cs n e=>kM _ _ n (gM c cs n e);have ibK:=kM _ _ (Ne.symm nf5) (nM _ _ (Ne.symm nf2) ci1);have fbK:ai items≠[]→hset h7 p none fb=some (.cells cs false)∧g2 fb=none∧fb≠ib∧fb≠p:=fun e=>⟨kM _ _ (npb e) (nM _ _ (fun e2=>by rw[e2,a6]at ci2;cases (ci2 e).1) (ci2 e).1),(ci2 e).2.1,(ci2 e).2.2,npb e⟩;generalize hset h7 p none=gK at BK AK kbK SK cK SH G2K ibK fbK;have d1:=SK.sub _ _ cK;have ll:=kb.ll;refine W2 d1 ll ?_;refine E.cut AC.mono (fun ex a' h'=>ex=.exit 0∧a'.d=[]∧a'.t 5=.ptr p 0∧RvS gK h' p fm ib am ((bP items).map Tree.text) (aJ (fun s=>decide (s∈A)) items)) ?_ ?_
 ·refine E.loopX AC.mono (fun(i:Nat) a' h'=>i≤items.length∧a'.d=[]∧a'.t 5=.ptr p 0∧a'.t 6=.int .i64 (ai (items.take i)).length∧a'.t 30=kv∧a'.t 31=.int .i64 items.length∧a'.t 32=.int .i64 i∧∃r,eG (ai items) (fun s=>decide (s∈A)) (items.drop i) (ai (items.take i)).length r=aJ (fun s=>decide (s∈A)) items∧RvS gK h' p fm ib am ((bP items).map Tree.text) r) (fun i=>items.length-i) 0 ?_ ?_
  ·exact⟨Nat.zero_le _,rfl,rfl,rfl,rfl,rfl,rfl,_,rfl,SK⟩
  ·rintro i ⟨ta,ds⟩ h8 ⟨hi,hd,t5,t6,t30,t31,t32,r,hr,S8⟩;dsimp only at hd t5 t6 t30 t31 t32;subst hd
   by_cases ci:i<items.length
   ·cases kbK.v (fun e=>by rw[e]at ci;cases ci)with
    |nil=>cases ci
    |@sl _ bk cs9 q1 q2 q3 q4 q5 =>
      obtain⟨kvi,e4,k5⟩:=q5.get ci;have q6:=S8.sub _ _ q4;have cl:=q5.len;rw[DL ci]at hr;have ft:=lw ci;have fat:=KI ci;have sz:=iw ci;have hmem:items.getD i .zero∈items:=by rw[List.getD_eq_getElem?_getD,List.getElem?_eq_getElem ci];exact List.getElem_mem ci
      have hni:=hn _ hmem;have hUi:∀n∈nodes (items.getD i .zero),n.text∈(bP items).map Tree.text:=fun n hn=>List.mem_map.2 ⟨n,jP hmem hn,rfl⟩;generalize items.getD i .zero=it at e4 k5 hr ft fat sz hni hUi hmem;obtain⟨n,hnn⟩:∃n,n=(ai (items.take i)).length:=⟨_,rfl⟩;rw[← hnn]at hr t6 fat;have kf5:=k5.flat;refine W8 t5 t6 t30 t31 t32 q6 e4 cl ?_;intro b8 hb8;have S9:=S8.box (o:=AObj.cells (nodeC it kvi) false) hb8;have s9:=aG (o:=AObj.cells (nodeC it kvi) false) (S8.new hb8);have c8:hadd gK b8 (AObj.cells (nodeC it kvi) false) b8=_:=ah;refine W7 t5 t6 t30 t31 t32 kf5 lJ ?_;unfold nodeC at S9 s9 c8;generalize hadd gK b8 _=g9 at S9 s9 c8;generalize hadd h8 b8 _=h9 at S9⊢;have j8:=S9.sub _ _ c8;refine W6 t5 t6 t30 t31 t32 j8 ?_;refine NJ (BK.mono s9) (AK.mono s9) (NodeV.of (k5.mono s9)) (by omega) hUi S9 (fun c=>⟨hni c,fat c⟩) fun h10 S10=>?_;have j8:=S10.sub _ _ c8
      by_cases co:it.op=[102,117,110,99]
      ·rw[if_pos co]at hr ft;have co:=eq_true co;have n9:(ai (items.take (i+1))).length=n+1:=by rw[ft,List.length_append,← hnn];rfl
       have nle:n≤100000:=by have:=(fat (of_eq_true co)).1;omega
       refine W7 t5 t6 t30 t31 t32 j8 co ?_;exact⟨i+1,by omega,ci,by rw[n9];simp,by simp,_,by rw[n9];exact hr,S10.back s9⟩
      ·rw[if_neg co]at hr ft;have co:=eq_false co;have n9:(ai (items.take (i+1))).length=n:=by rw[ft,List.append_nil,← hnn]
       refine W7 t5 t6 t30 t31 t32 j8 co ?_;exact⟨i+1,by omega,ci,by rw[n9],by simp,_,by rw[n9];exact hr,S10.back s9⟩
   ·have:i=items.length:=by omega
    subst this;rw[List.drop_length,eG]at hr;subst hr;refine W2 t31 t32 ?_;exact⟨t5,S8⟩
 ·rintro ex ⟨ta,ds⟩ h8 ⟨rfl,hd,t5,S8⟩;dsimp only at hd t5;subst hd;obtain⟨ov,o8,P8⟩:=S8.obj;have hq1:=hq1 A;have hq2:=hq2 A;generalize aJ (fun s=>decide (s∈A)) items=R at S8 o8 P8 hq1 hq2;unfold rvC at o8
  by_cases c0:R.err=0
  case neg =>
   refine W3 t5 o8 c0 ?_;exact⟨_,Sub.refl,hq1 _ hA (fun c o hc=>S8.sub _ _ (SH _ _ hc)) c0⟩
  have hR0:R.order.length≤100000:=S8.len;obtain⟨rows,w1,w2,w3⟩:=ci3.rows;have i8:=S8.sub _ _ ibK;have sFn:=BK.small;clear BK BM C5;have llF:llE (if ai items=[]then V.nilsl else .sl fb 0 7 (ai items).length)=some (.int .i64 (ai items).length):=by
   split
   ·rename_i e;rw[e];rfl
   ·rfl
  obtain⟨G0,G01,G02,G03⟩:∃G0:H,Sub G0 h8∧(∀c o,h8 c=some o→(ai items≠[]→c≠fb)→G0 c=some o)∧(ai items≠[]→G0 fb=none):=by
   by_cases e:ai items=[]
   ·exact⟨h8,Sub.refl,fun c o hc _=>hc,fun x=>absurd e x⟩
   ·exact⟨hset h8 fb none,fun c o hc=>by
     unfold hset at hc;split at hc
     ·cases hc
     ·exact hc,fun c o hc n=>(if_neg (n e)).trans hc,fun _=>if_pos rfl⟩
  have hm:∀c cs,c≠p→g2 c=some (.cells cs false)→G0 c=some (.cells cs false):=fun c cs n e=>G02 _ _ (S8.sub _ _ (G2K c cs n e)) fun x y=>by rw[y,(fbK x).2.1]at e;cases e
  have gib2:∀c o,g2 c=some o→c≠ib:=fun c o e e2=>by rw[e2,C6.gib]at e;cases e
  have hmi:∀c cs,c≠p→g2 c=some (.cells cs false)→hset G0 ib none c=some (.cells cs false):=fun c cs n e=>(if_neg (gib2 _ _ e)).trans (hm c cs n e);have RO:RowsOk (hset G0 ib none) p A (ai items) rows 0:=⟨w1,fun i hi=>by
   obtain⟨_,y2,y3,y4⟩:=w3 _ (List.getElem_mem hi);exact⟨y2,y3.moveC hmi,y4.moveN hmi⟩,fun i _ h=>absurd h (Nat.not_lt_zero _),fun i hi _=>(w3 _ (List.getElem_mem hi)).1⟩
  have fb8:ai items≠[]→h8 fb=some (.cells (rowsC rows) false):=fun e=>by rw[← w2];exact S8.sub _ _ (fbK e).1
  have p8:G0 p=_:=G02 _ _ o8 fun e x=>(fbK e).2.2.2 x.symm;have i8':=G02 _ _ i8 fun e x=>(fbK e).2.2.1 x.symm;have A8:ArrB G0 am A:=by
   obtain⟨es',ck',e,R'⟩:=AK;exact⟨es',ck',G02 _ _ (S8.sub _ _ e) (fun x y=>by have:=(fbK x).1;rw[← y,e]at this;cases this),R'⟩
  have P8':PsV (fun _=>none) (hset G0 ib none) p R.order ov:=by
   rcases P8 with x|⟨b,y1,y2,y3,y4,y5⟩
   ·exact .inl x
   ·exact .inr ⟨b,y1,rfl,y3,y4,(if_neg (fun e=>by rw[e,ibK]at y2;cases y2)).trans (G02 _ _ y5 fun x y=>by have:=(fbK x).1;rw[← y,y2]at this;cases this)⟩
  have SH8:Sub h G0:=fun c o hc=>G02 _ _ (S8.sub _ _ (SH _ _ hc)) fun x y=>by
   have h1:=sg2 _ _ (SB _ _ (s1 _ _ hc));rw[y,(fbK x).2.1]at h1;cases h1
  generalize hF:ai items=F at *;generalize hs65:(if F=[]then V.nilsl else .sl fb 0 7 F.length)=s65 at *;have nib:F≠[]→fb≠ib:=fun e=>(fbK e).2.2.1;clear fbK ibK G2K w3 w1 w2 hm G02 hmi gib2 C6;refine W5 t5 o8 c0 i8 llF ?_;refine E.cut AC.mono (fun ex a' h'=>ex=.exit 2∧a'.d=[]∧a'.t 5=.ptr p 0∧∃g' rows',Sub G0 g'∧Sub g' h'∧(F≠[]→h' fb=some (.cells (rowsC rows') false)∧g' fb=none)∧RowsOk (hset g' ib none) p A F rows' F.length) ?_ ?_
  ·refine E.loopX AC.mono (fun(i:Nat) a' h'=>i≤F.length∧a'.d=[]∧a'.t 5=.ptr p 0∧a'.t 65=s65∧a'.t 66=.int .i64 F.length∧a'.t 67=.int .i64 i∧∃g' rows',Sub G0 g'∧Sub g' h'∧(F≠[]→h' fb=some (.cells (rowsC rows') false)∧g' fb=none)∧RowsOk (hset g' ib none) p A F rows' i) (fun i=>F.length-i) 0 ?_ ?_
   ·exact⟨Nat.zero_le _,rfl,t5,rfl,rfl,rfl,G0,rows,Sub.refl,G01,fun e=>⟨fb8 e,G03 e⟩,RO⟩
   ·rintro i ⟨tb,ds⟩ h9 ⟨hi,hd,t5,t65,t66,t67,g9,rows9,s09,s99,e9,RO9⟩;dsimp only at hd t5 t65 t66 t67;subst hd
    by_cases ci:i<F.length
    ·have hne:F≠[]:=by intro e;rw[e]at ci;cases ci
     obtain⟨fb9,gb9⟩:=e9 hne;have hrl:rows9.length=F.length:=by rw[← RO9.fs,List.length_map]
     have ci':i<rows9.length:=by omega
     obtain⟨y1,y2,y3⟩:=RO9.ok i ci';have rg:=pz ci';have rl:=tZ rows9;have ra:=RO9.rest i ci' (Nat.le_refl _);rw[if_neg hne]at hs65;subst hs65;have pf:rows9[i].pv.flat=true:=by rcases y2 with⟨_,e⟩|⟨b,_,_,_,e,_⟩<;>(rw[e];rfl)
     have kf9:=y3.flat;have rg':=rg;unfold FRow.cs at rg';rw[ra]at rg';refine W7 t5 t65 t66 t67 fb9 rg' rl ?_;intro b10 hb10;have lp:=y2.ll;refine W8 t5 t65 t66 t67 nH pf kf9 lp ?_;have s910:Sub g9 (hadd h9 b10 (AObj.cells [V.str rows9[i].f.name,rows9[i].pv,V.nilsl,V.str rows9[i].f.body.op,V.str rows9[i].f.body.text,V.int .i64 rows9[i].f.body.at',rows9[i].kv] false)):=bf s99 (aP s99 hb10);have fb10:=(ae (o:=AObj.cells [V.str rows9[i].f.name,rows9[i].pv,V.nilsl,V.str rows9[i].f.body.op,V.str rows9[i].f.body.text,V.int .i64 rows9[i].f.body.at',rows9[i].kv] false) (af hb10 fb9)).trans fb9;generalize hadd h9 b10 _=h10 at s910 fb10⊢;have rset0:rows9.set i {rows9[i]with av:=V.nilsl}=rows9:=by
      rw[← ra];exact List.set_getElem_self ci'
     generalize hrw:rows9[i]=row at *;refine E.cut AC.mono (fun ex a' h'=>ex=.exit 4∧a'.d=[]∧a'.t 5=.ptr p 0∧a'.t 65=.sl fb 0 7 F.length∧a'.t 66=.int .i64 F.length∧a'.t 67=.int .i64 i∧∃v,Sub g9 h'∧h' fb=some (.cells (rowsC (rows9.set i {row with av:=v})) false) ∧
      (((row.f.ps).map (fun x=>decide ((some i,x)∈A))=[]∧v=.nilsl)∨∃b,(row.f.ps).map (fun x=>decide ((some i,x)∈A))≠[]∧g9 b=none∧b≠fb∧v=.sl b 0 1 row.f.ps.length∧h' b=some (.cells (((row.f.ps).map (fun x=>decide ((some i,x)∈A))).map V.bool) false))) ?_ ?_
     ·refine E.loopX AC.mono (fun(j:Nat) a' h'=>j≤row.f.ps.length∧a'.d=[]∧a'.t 5=.ptr p 0∧a'.t 9=.int .i64 i∧a'.t 65=.sl fb 0 7 F.length∧a'.t 66=.int .i64 F.length∧a'.t 67=.int .i64 i∧a'.t 73=row.pv∧a'.t 74=.int .i64 row.f.ps.length∧a'.t 75=.int .i64 j∧∃v,Sub g9 h'∧h' fb=some (.cells (rowsC (rows9.set i {row with av:=v})) false) ∧
       ((j=0∧v=.nilsl)∨∃b,j≠0∧g9 b=none∧b≠fb∧v=.sl b 0 1 j∧h' b=some (.cells (((row.f.ps.take j).map (fun x=>decide ((some i,x)∈A))).map V.bool) false))) (fun j=>row.f.ps.length-j) 0 ?_ ?_
      ·exact⟨Nat.zero_le _,rfl,t5,rfl,t65,t66,t67,rfl,rfl,rfl,_,s910,by rw[rset0];exact fb10,.inl ⟨rfl,rfl⟩⟩
      ·rintro j ⟨tc,ds⟩ h11 ⟨hj,hd,t5,t9,t65,t66,t67,t73,t74,t75,v,s911,fb11,hv⟩;dsimp only at hd t5 t9 t65 t66 t67 t73 t74 t75;subst hd
       by_cases cj:j<row.f.ps.length
       ·rcases y2 with⟨en,_⟩|⟨bp,np,_,_,epv,cp⟩
        ·rw[en]at cj;cases cj
        have jp:=s911 _ _ (rO _ _ cp);have pat:(List.map V.str row.f.ps)[j]?=some (V.str row.f.ps[j]):=by rw[List.getElem?_map,List.getElem?_eq_getElem cj];rfl
        have ftk:row.f.ps.take (j+1)=row.f.ps.take j++[row.f.ps[j]]:=List.take_succ_eq_append_getElem cj;have lk:=(A8.mono (fun c o hc=>s911 _ _ (s09 _ _ hc))).look (some i,row.f.ps[j]);dsimp only at lk;rw[show fnZ (some i)=(i:Int)from rfl]at lk;generalize row.f.ps[j]=x at pat lk ftk;have jo:=s911 _ _ (s09 _ _ p8);have ji:=s911 _ _ (s09 _ _ i8');have rl2:=tZ (rows9.set i {row with av:=v});rw[List.length_set]at rl2;have ra2:(rowsC (rows9.set i {row with av:=v}))[i*7+2]?=some v:=by
         rw[NQ (by rw[List.length_set];exact ci')];simp
        have vf:v.flat=true:=by rcases hv with⟨_,rfl⟩|⟨b,_,_,_,rfl,_⟩<;>rfl
        rw[epv]at t73;refine W8 t5 t9 t65 t66 t67 t73 t74 (An2 t75 (An2 jp (An2 pat (An2 jo (An2 ji (An2 fb11 (An2 rl2 (An2 ra2 lk)))))))) ?_;intro bn hbn;have jo:=(ae (o:=(AObj.cells [V.bool (decide ((some i,x)∈A))] false)) (af hbn jo)).trans jo;have ji:=(ae (o:=(AObj.cells [V.bool (decide ((some i,x)∈A))] false)) (af hbn ji)).trans ji;have fb12:=(ae (o:=(AObj.cells [V.bool (decide ((some i,x)∈A))] false)) (af hbn fb11)).trans fb11;have kbn:hadd h11 bn (AObj.cells [V.bool (decide ((some i,x)∈A))] false) bn=_:=ah;have s912:=bf (o:=(AObj.cells [V.bool (decide ((some i,x)∈A))] false)) s911 (aP s911 hbn);have s1112:=aG (o:=(AObj.cells [V.bool (decide ((some i,x)∈A))] false)) hbn;generalize hadd h11 bn (AObj.cells [V.bool (decide ((some i,x)∈A))] false)=h12 at jo ji fb12 kbn s912 s1112⊢;have rs:∀v',rowsC ((rows9.set i {row with av:=v}).set i {row with av:=v'})=rowsC (rows9.set i {row with av:=v'}):=fun v'=>by rw[List.set_set]
        have st:=fun v'=>zC (l:=rows9.set i {row with av:=v}) (i:=i) (by rw[List.length_set];exact ci') v';simp only[List.getElem_set_self,rs]at st;have ifb:=nib hne;have npfb:p≠fb:=fun e=>by rw[e,G03 hne]at p8;cases p8
        rcases hv with⟨rfl,rfl⟩|⟨b,x1,x2,x3,rfl,x5⟩
        ·refine W8 t5 t9 t65 t66 t67 t73 t74 (An2 t75 (An2 jo (An2 ji (An2 fb12 kbn)))) ?_;intro ba hba;have n1:=af hba jo;have n2:=af hba ji;have n3:=af hba fb12;have jo:=(ae (o:=(AObj.cells [V.bool (decide ((some i,x)∈A))] false)) n1).trans jo;have ji:=(ae (o:=(AObj.cells [V.bool (decide ((some i,x)∈A))] false)) n2).trans ji;have fb13:=(ae (o:=(AObj.cells [V.bool (decide ((some i,x)∈A))] false)) n3).trans fb12;have kba:hadd h12 ba (AObj.cells [V.bool (decide ((some i,x)∈A))] false) ba=_:=ah;have za:=aP s912 hba;have s913:=bf (o:=(AObj.cells [V.bool (decide ((some i,x)∈A))] false)) s912 za;generalize hadd h12 ba (AObj.cells [V.bool (decide ((some i,x)∈A))] false)=h13 at jo ji fb13 kba s913⊢;refine W8 t5 t9 t65 t66 t67 t73 t74 (An2 t75 (An2 jo (An2 ji (An2 fb13 rl2)))) ?_;refine⟨1,by omega,by omega,epv.symm,by simp,_,bf s913 gb9,by exact congrArg (fun l=>some (AObj.cells l false)) (st (.sl ba 0 1 1)),.inr ⟨ba,by simp,za,Ne.symm n3,rfl,?_⟩⟩;rw[ae (Ne.symm n3),kba,ftk];simp
        ·have cpl:((row.f.ps.take j).map (fun x=>decide ((some i,x)∈A))).length=j:=by simp;omega
         have x5:=s1112 _ _ x5;have fin2:(((row.f.ps.take (j+1)).map (fun x=>decide ((some i,x)∈A))).map V.bool)=((row.f.ps.take j).map (fun x=>decide ((some i,x)∈A))).map V.bool++[V.bool (decide ((some i,x)∈A))]:=by rw[ftk];simp
         generalize hrow2:((row.f.ps.take j).map (fun x=>decide ((some i,x)∈A))).map V.bool=row2 at x5 fin2;have hlm:row2.length=j:=by rw[← hrow2,List.length_map,cpl]
         have hfl:row2.all V.flat=true:=by rw[← hrow2];exact List.all_eq_true.2 fun v hv=>by obtain⟨x,_,rfl⟩:=List.mem_map.1 hv;rfl
         have tk:List.take j row2=row2:=List.take_of_length_le (by omega);have nb1:p≠b:=fun e=>by have:=s09 _ _ p8;rw[e,x2]at this;cases this
         have nb2:ib≠b:=fun e=>by have:=s09 _ _ i8';rw[e,x2]at this;cases this
         have nb3:fb≠b:=Ne.symm x3;refine W8 t5 t9 t65 t66 t67 t73 t74 (An2 t75 (An2 jo (An2 ji (An2 fb12 (An2 kbn (An2 x5 (An2 hlm (An2 hfl tk)))))))) ?_;intro ba nab hba;have n1:=af hba jo;have n2:=af hba ji;have n3:=af hba fb12;have jo:hadd (hset h12 b none) ba (AObj.cells (row2++[V.bool (decide ((some i,x)∈A))]) false) p=_:=(ae n1).trans ((if_neg nb1).trans jo);have ji:hadd (hset h12 b none) ba (AObj.cells (row2++[V.bool (decide ((some i,x)∈A))]) false) ib=_:=(ae n2).trans ((if_neg nb2).trans ji);have fb13:hadd (hset h12 b none) ba (AObj.cells (row2++[V.bool (decide ((some i,x)∈A))]) false) fb=_:=(ae n3).trans ((if_neg nb3).trans fb12);have kba:hadd (hset h12 b none) ba (AObj.cells (row2++[V.bool (decide ((some i,x)∈A))]) false) ba=_:=ah;have za:=aP s912 hba;have s913:Sub g9 (hadd (hset h12 b none) ba (AObj.cells (row2++[V.bool (decide ((some i,x)∈A))]) false)):=fun c o hc=>by rw[ae (af za hc)];exact(if_neg (af x2 hc)).trans (s912 _ _ hc)
         generalize hadd (hset h12 b none) ba (AObj.cells (row2++[V.bool (decide ((some i,x)∈A))]) false)=h13 at jo ji fb13 kba s913⊢;refine W8 t5 t9 t65 t66 t67 t73 t74 (An2 t75 (An2 jo (An2 ji (An2 fb13 rl2)))) ?_;refine⟨j+1,by omega,by omega,epv.symm,by simp,_,bf s913 gb9,by exact congrArg (fun l=>some (AObj.cells l false)) (st (.sl ba 0 1 (j+1))),.inr ⟨ba,by simp,za,Ne.symm n3,rfl,?_⟩⟩;rw[ae (Ne.symm n3),kba,fin2]
       ·have:j=row.f.ps.length:=by omega
        subst this;refine W2 t74 t75 ?_;refine⟨t5,t65,t66,t67,v,s911,fb11,?_⟩;rcases hv with⟨x1,x2⟩|⟨b,x1,x2,x3,x4,x5⟩
        ·exact .inl ⟨by rw[List.length_eq_zero_iff.1 x1];rfl,x2⟩
        ·exact .inr ⟨b,by intro e;exact x1 (by simpa using e),x2,x3,x4,by rw[List.take_length]at x5;exact x5⟩
     ·rintro ex ⟨tc,ds⟩ h11 ⟨rfl,hd,t5,t65,t66,t67,v,s911,fb11,hv⟩;dsimp only at hd t5 t65 t66 t67;subst hd;refine W4 t5 t65 t66 t67 ?_;subst hrw;rcases hv with⟨x1,x2⟩|⟨b,x1,x2,x3,x4,x5⟩
      ·exact⟨i+1,by omega,by omega,by simp,g9,_,s09,s911,fun _=>⟨fb11,gb9⟩,RO9.next Sub.refl ci' (.inl ⟨x1,x2⟩)⟩
      ·refine⟨i+1,by omega,by omega,by simp,hadd g9 b (.cells ((rows9[i].f.ps.map (fun x=>decide ((some i,x)∈A))).map V.bool) false),_,fun c o hc=>aG x2 _ _ (s09 _ _ hc),fun c o hc=>?_,fun _=>⟨fb11,by rw[ae (Ne.symm x3)];exact gb9⟩,RO9.next (yU (aG x2)) ci' (.inr ⟨b,x1,by rw[List.length_map];exact x4,(if_neg (af x2 (s09 _ _ i8')).symm).trans ah⟩)⟩
       by_cases e:c=b
       ·subst e;rw[ah]at hc;rw[← hc];exact x5
       ·rw[ae e]at hc;exact s911 _ _ hc
    ·have:i=F.length:=by omega
     subst this;refine W2 t66 t67 ?_;exact⟨t5,g9,rows9,s09,s99,e9,RO9⟩
  ·rintro ex ⟨tb,ds⟩ h9 ⟨rfl,hd,t5,g9,rows9,s09,s99,e9,RO9⟩;dsimp only at hd t5;subst hd;have i9:=s99 _ _ (s09 _ _ i8');have o9:=s99 _ _ (s09 _ _ p8);have ovf:ov.flat=true:=by rcases P8' with⟨_,rfl⟩|⟨b,_,_,_,rfl,_⟩<;>rfl
   have npi:p≠ib:=nf5;have lo:=P8'.ll;obtain⟨K2,k21,k22,k23,k24⟩:∃K2:H,Sub (hset g9 ib none) K2∧Sub K2 h9∧K2 ib=none∧(F≠[]→K2 fb=some (.cells (rowsC rows9) false)):=by
    by_cases e:F=[]
    ·exact⟨hset g9 ib none,Sub.refl,fun c o hc=>s99 _ _ (rO _ _ hc),if_pos rfl,fun x=>absurd e x⟩
    ·obtain⟨fb9,gb9⟩:=e9 e;refine⟨hadd (hset g9 ib none) fb (.cells (rowsC rows9) false),fun c o hc=>?_,fun c o hc=>?_,?_,fun _=>ah⟩
     ·rw[ae (af gb9 (rO _ _ hc))];exact hc
     ·by_cases e2:c=fb
      ·subst e2;rw[ah]at hc;rw[← hc];exact fb9
      ·rw[ae e2]at hc;exact s99 _ _ (rO _ _ hc)
     ·rw[ae (Ne.symm (nib e))];exact if_pos rfl
   have kp2:K2 p=_:=k21 _ _ ((if_neg npi).trans (s09 _ _ p8));have kA2:ArrB K2 am A:=by
    obtain⟨es',ck',e,R'⟩:=A8;exact⟨es',ck',k21 _ _ ((if_neg nf2).trans (s09 _ _ e)),R'⟩
   have kP2:PsV (fun _=>none) K2 p R.order ov:=P8'.mono fun c o hc=>k21 _ _ (yU s09 _ _ hc);have kR2:=RO9.mono k21;have kS2:Sub h K2:=fun c o hc=>k21 _ _ ((if_neg (af zib (s1 _ _ hc))).trans (s09 _ _ (SH8 _ _ hc)));refine W6 t5 i9 o9 npi ovf lo ?_;have s2h:=bf (o:=AObj.cells [s65,ov,V.nilsl] false) k22 k23;have i10:hadd h9 ib (AObj.cells [s65,ov,V.nilsl] false) ib=_:=ah;generalize hadd h9 ib (AObj.cells [s65,ov,V.nilsl] false)=h10 at s2h i10⊢;refine E.cut AC.mono (fun ex a' h'=>ex=.exit 6∧a'.d=[]∧a'.t 5=.ptr p 0∧∃v,Sub K2 h'∧h' ib=some (.cells [s65,ov,v] false)∧BoolsV h' (R.order.map fun x=>decide ((none,x)∈A)) v) ?_ ?_
   ·refine E.loopX AC.mono (fun(j:Nat) a' h'=>j≤R.order.length∧a'.d=[]∧a'.t 5=.ptr p 0∧a'.t 125=ov∧a'.t 126=.int .i64 R.order.length∧a'.t 127=.int .i64 j∧∃v,Sub K2 h'∧h' ib=some (.cells [s65,ov,v] false) ∧
      ((j=0∧v=.nilsl)∨∃b,j≠0∧K2 b=none∧b≠ib∧v=.sl b 0 1 j∧h' b=some (.cells (((R.order.take j).map (fun x=>decide ((none,x)∈A))).map V.bool) false))) (fun j=>R.order.length-j) 0 ?_ ?_
    ·exact⟨Nat.zero_le _,rfl,t5,rfl,rfl,rfl,_,s2h,i10,.inl ⟨rfl,rfl⟩⟩
    ·rintro j ⟨tc,ds⟩ h11 ⟨hj,hd,t5,t125,t126,t127,v,s911,i11,hv⟩;dsimp only at hd t5 t125 t126 t127;subst hd
     by_cases cj:j<R.order.length
     ·rcases kP2 with⟨en,_⟩|⟨bp,np,_,_,epv,cp⟩
      ·rw[en]at cj;cases cj
      have jp:=s911 _ _ cp;have pat:(List.map V.str R.order)[j]?=some (V.str R.order[j]):=by rw[List.getElem?_map,List.getElem?_eq_getElem cj];rfl
      have ftk:R.order.take (j+1)=R.order.take j++[R.order[j]]:=List.take_succ_eq_append_getElem cj;have lk:=(kA2.mono s911).look (none,R.order[j]);dsimp only at lk;rw[show fnZ none = -1 from rfl]at lk;generalize R.order[j]=x at pat lk ftk;have jo:=s911 _ _ kp2;have vf:v.flat=true:=by rcases hv with⟨_,rfl⟩|⟨b,_,_,_,rfl,_⟩<;>rfl
      rw[epv]at t125;refine W8 t5 t125 t126 t127 jp pat jo (An2 i11 lk) ?_;intro bn hbn;have jo:=(ae (o:=(AObj.cells [V.bool (decide ((none,x)∈A))] false)) (af hbn jo)).trans jo;have i12:=(ae (o:=(AObj.cells [V.bool (decide ((none,x)∈A))] false)) (af hbn i11)).trans i11;have kbn:hadd h11 bn (AObj.cells [V.bool (decide ((none,x)∈A))] false) bn=_:=ah;have s912:=bf (o:=(AObj.cells [V.bool (decide ((none,x)∈A))] false)) s911 (aP s911 hbn);have s1112:=aG (o:=(AObj.cells [V.bool (decide ((none,x)∈A))] false)) hbn;generalize hadd h11 bn (AObj.cells [V.bool (decide ((none,x)∈A))] false)=h12 at jo i12 kbn s912 s1112⊢;rcases hv with⟨rfl,rfl⟩|⟨b,x1,x2,x3,rfl,x5⟩
      ·refine W7 t5 t125 t126 t127 jo i12 kbn ?_;intro ba hba;have n1:=af hba jo;have n2:=af hba i12;have jo:=(ae (o:=(AObj.cells [V.bool (decide ((none,x)∈A))] false)) n1).trans jo;have i13:=(ae (o:=(AObj.cells [V.bool (decide ((none,x)∈A))] false)) n2).trans i12;have kba:hadd h12 ba (AObj.cells [V.bool (decide ((none,x)∈A))] false) ba=_:=ah;have za:=aP s912 hba;have s913:=bf (o:=(AObj.cells [V.bool (decide ((none,x)∈A))] false)) s912 za;generalize hadd h12 ba (AObj.cells [V.bool (decide ((none,x)∈A))] false)=h13 at jo i13 kba s913⊢;refine W7 t5 t125 t126 t127 jo i13 ovf ?_;refine⟨1,by omega,by omega,epv.symm,rfl,_,bf s913 k23,rfl,.inr ⟨ba,by simp,za,Ne.symm n2,rfl,?_⟩⟩;rw[ae (Ne.symm n2),kba,ftk];simp
      ·have cpl:((R.order.take j).map (fun x=>decide ((none,x)∈A))).length=j:=by simp;omega
       have x5:=s1112 _ _ x5;have fin2:(((R.order.take (j+1)).map (fun x=>decide ((none,x)∈A))).map V.bool)=((R.order.take j).map (fun x=>decide ((none,x)∈A))).map V.bool++[V.bool (decide ((none,x)∈A))]:=by rw[ftk];simp
       generalize hrow2:((R.order.take j).map (fun x=>decide ((none,x)∈A))).map V.bool=row2 at x5 fin2;have hlm:row2.length=j:=by rw[← hrow2,List.length_map,cpl]
       have hfl:row2.all V.flat=true:=by rw[← hrow2];exact List.all_eq_true.2 fun v hv=>by obtain⟨x,_,rfl⟩:=List.mem_map.1 hv;rfl
       have tk:List.take j row2=row2:=List.take_of_length_le (by omega);have nb1:p≠b:=fun e=>by rw[e,x2]at kp2;cases kp2
       have nb2:ib≠b:=Ne.symm x3;refine W8 t5 t125 t126 t127 jo i12 kbn (An2 x5 (An2 hlm (An2 hfl tk))) ?_;intro ba nab hba;have n1:=af hba jo;have n2:=af hba i12;have jo:hadd (hset h12 b none) ba (AObj.cells (row2++[V.bool (decide ((none,x)∈A))]) false) p=_:=(ae n1).trans ((if_neg nb1).trans jo);have i13:hadd (hset h12 b none) ba (AObj.cells (row2++[V.bool (decide ((none,x)∈A))]) false) ib=_:=(ae n2).trans ((if_neg nb2).trans i12);have kba:hadd (hset h12 b none) ba (AObj.cells (row2++[V.bool (decide ((none,x)∈A))]) false) ba=_:=ah;have za:=aP s912 hba;have s913:Sub K2 (hadd (hset h12 b none) ba (AObj.cells (row2++[V.bool (decide ((none,x)∈A))]) false)):=fun c o hc=>by rw[ae (af za hc)];exact(if_neg (af x2 hc)).trans (s912 _ _ hc)
       generalize hadd (hset h12 b none) ba (AObj.cells (row2++[V.bool (decide ((none,x)∈A))]) false)=h13 at jo i13 kba s913⊢;refine W7 t5 t125 t126 t127 jo i13 ovf ?_;refine⟨j+1,by omega,by omega,epv.symm,by simp,_,bf s913 k23,rfl,.inr ⟨ba,by simp,za,Ne.symm n2,rfl,?_⟩⟩;rw[ae (Ne.symm n2),kba,fin2]
     ·have:j=R.order.length:=by omega
      subst this;refine W2 t126 t127 ?_;refine⟨t5,v,s911,i11,?_⟩;rcases hv with⟨x1,x2⟩|⟨b,x1,x2,x3,x4,x5⟩
      ·exact .inl ⟨by rw[List.length_eq_zero_iff.1 x1];rfl,x2⟩
      ·exact .inr ⟨b,by intro e;exact x1 (by simpa using e),by rw[List.length_map];exact x4,by rw[List.take_length]at x5;exact x5⟩
   ·rintro ex ⟨tc,ds⟩ h11 ⟨rfl,hd,t5,v,s911,i11,hv⟩;dsimp only at hd t5;subst hd;have jo:=s911 _ _ kp2;refine W2 t5 jo ?_;subst hs65;exact⟨_,Sub.refl,hq2 _ ib p hA (fun c o hc=>s911 _ _ (kS2 _ _ hc)) c0 ⟨⟨fb,rows9,ov,v,i11,fun e=>s911 _ _ (k24 e),kR2.mono s911,kP2.mono s911,hv⟩,hR0⟩⟩
end
section
open Mir
variable{h:H}{Q:V→H→Prop}{h0 h1 h':H}{p tb:Nat}{T:List Tokn}{s s':PS}{N n c:Nat}
theorem bQ(A:PAt h0 h p tb T s){b1 b3:Nat}{t:Tokn}(hb1:h b1=some (.cells [.ptr p 0] false))(hb3:h b3=some (.cells (bC t) false))(n1:b1≠p)(n3:b3≠p)(b:Bool)(e:Nat){q:Prop}[Decidable q](hb:b=true↔q)
  (hq:∀h',PAt h0 h' p tb T (s.wrong t.a q e)→Q (.tup []) h'):AC pg (.fn 132) [.bool b,.int .i64 e,.ptr b1 0,.ptr b3 0] h Q:=by
 have hp:=A.obj;unfold psC at hp;unfold bC at hb3;unfold PS.wrong at hq;refine AC.fn' (g:=Le) rfl (by simp only[List.length_cons,List.length_nil,Le];decide) ?_;simp only[Le,Mir.Ab.all];cases b
 ·rw[if_neg (fun x=>by have:=hb.2 x.1;cases this)]at hq;refine W3 hp hb1 hb3 ?_;exact⟨_,Sub.refl,hq _ A⟩
 ·have hc:=hb.1 rfl
  by_cases c1:s.err=0
  ·rw[if_pos ⟨hc,c1⟩]at hq;refine W3 hp hb1 hb3 ?_;exact⟨_,Sub.refl,hq _ (A.setE e t.a)⟩
  ·rw[if_neg (by simp[c1])]at hq;refine W3 hp hb1 hb3 ?_;exact⟨_,Sub.refl,hq _ A⟩
theorem EF{t:Tokn}{l:List Tree}(ht:t.a≤N)(hs:SOk T N s):Fwd T N s (biPost t l s).2:=by
 unfold biPost;dsimp only
 repeat' split
 all_goals first
  |exact pK hs ht (.inl rfl)
  |exact(pK hs ht (.inr (.inl rfl))).trans (pK (pK hs ht (.inr (.inl rfl))).ok ht (.inl rfl))
theorem Ac(W:TkOk T N){M:PF}(hf:∀s,SOk T N s→lvl n c s→Fwd T N s (M s).2)(hs:SOk T N s)(hl:lvl n c s):Fwd T N s (builtinM T M s).2∧((s.cur T).k≠0→Adv s (builtinM T M s).2):=by
 unfold builtinM;have f1:=ak W hs;split
 ·exact⟨f1,fun hk=>jJ W hs hk⟩
 ·have f2:=f1.trans (ay W f1.ok [40]);have f3:=oU W hf [41] f2.ok (hl.fwd f2);have f4:=f3.trans (EF (t:=s.cur T) (l:=(listM T M [41] ((s.step T).expect T [40])).1) (Gn W hs) f3.ok);exact⟨f2.trans f4,fun hk=>(jJ W hs hk).left ((ay W f1.ok [40]).trans f4)⟩
theorem SlAt.two{l:List Tree}{v:V}(k:SlAt h0 h p l v)(hl:2≤l.length):∃b x0 x1 rest k0 k1 cs,l=x0::x1::rest∧h0 b=none∧b≠p∧v=.sl b 0 4 l.length ∧
  h b=some (.cells (.str x0.op::.str x0.text::.int .i64 x0.at'::k0::.str x1.op::.str x1.text::.int .i64 x1.at'::k1::cs) false)∧KidsV (hadd h0 b (.cells [] false)) h p x0.kids k0∧KidsV (hadd h0 b (.cells [] false)) h p x1.kids k1∧CellsV (hadd h0 b (.cells [] false)) h p rest cs:=by
 rcases k with⟨rfl,_⟩|⟨b,cs,h1,h2,h3,h4,h5,h6⟩
 ·simp at hl
 ·cases h6 with
  |nil=>simp at hl
  | cons k0 c0=>cases c0 with
    |nil=>simp at hl
    |cons k1 c1=>exact⟨b,_,_,_,_,_,_,rfl,h2,h3,h4,h5,k0,k1,c1⟩
theorem PAt.more(A:PAt h0 h p tb T s){b:Nat}{o:AObj}(hb:h b=some o)(n:b≠p)(z:h0 b=none):PAt (hadd h0 b o) h p tb T s:=
 ⟨A.obj,by rw[ae (af z A.toks)];exact A.toks,A.glob.imp fun m hm=>by rw[ae (af z hm)];exact hm,by rw[ae (Ne.symm n)];exact A.base,fun x o' hx=>by
  by_cases e:x=b
  ·subst e;rw[ah]at hx;cases hx;exact hb
  ·rw[ae e]at hx;exact A.sub _ _ hx,A.small,A.lt,A.deep⟩
theorem Jq{q:Prop}[Decidable q](hq:q)(a e:Nat)(he:e≠0):(s.wrong a q e).err≠0:=by
 unfold PS.wrong;split
 ·exact he
 ·rename_i c;exact fun x=>c ⟨hq,x⟩
set_option maxHeartbeats 1000000 in
theorem EK(W:TkOk T N){M:PF}(C:FC T N n c 46 M)(A:PAt h0 h p tb T s)(hs:SOk T N s)(hl:lvl n c s)
  (hq:∀h' v,PAt h0 h' p tb T (builtinM T M s).2→NodeV h0 h' p (builtinM T M s).1 v→Q v h'):AC pg (.fn 130) [.ptr p 0] h Q:=by
 unfold builtinM at hq;have f1:=ak W hs;refine AC.fn' (g:=La) rfl (by simp only[List.length_cons,List.length_nil,La];decide) ?_;simp only[La,Mir.Ab.all];refine W0 ?_;intro b1 hb1;have A1:=A.put (o:=.cells [.ptr p 0] false) hb1;have n1:=A.ne hb1;refine W0 ?_;intro b8 hb8;have A2:=A1.put (o:=.cells Z4 false) hb8;have n8:=A1.ne hb8;have n18:b1≠b8:=fun e=>by rw[← e]at hb8;simp[hadd,hset]at hb8
 have z1:=A.new hb1;have z8:=A1.new hb8;refine W0 ?_;refine dL A2 ?_;obtain⟨tt,ht⟩:∃tt,tt=s.cur T:=⟨_,rfl⟩;rw[← ht]at hq⊢;rw[jd];refine W0 ?_;intro b3 hb3;have A3:=A2.put (o:=.cells (bC tt) false) hb3;have n3:=A2.ne hb3;have z3:=A2.new hb3;have n13:b1≠b3:=fun e=>by rw[← e]at hb3;simp[hadd,hset,n18]at hb3
 have n83:b8≠b3:=fun e=>by rw[← e]at hb3;simp[hadd,hset]at hb3
 have q1:hadd (hadd (hadd h b1 (.cells [.ptr p 0] false)) b8 (.cells Z4 false)) b3 (.cells (bC tt) false) b1=some (.cells [.ptr p 0] false):=by rw[ae n13,ae n18];exact ah
 have q8:hadd (hadd (hadd h b1 (.cells [.ptr p 0] false)) b8 (.cells Z4 false)) b3 (.cells (bC tt) false) b8=some (.cells Z4 false):=by rw[ae n83];exact ah
 have q3:hadd (hadd (hadd h b1 (.cells [.ptr p 0] false)) b8 (.cells Z4 false)) b3 (.cells (bC tt) false) b3=some (.cells (bC tt) false):=ah;unfold bC at A3 q1 q8 q3;unfold Z4 at A3 q1 q8 q3;refine W0 ?_;generalize hadd (hadd (hadd h b1 _) b8 _) b3 _=h2 at A3 q1 q8 q3⊢;refine aZ A3.re fun h3 A4=>?_;have A4':=A3.back A4;have r1:=A4.keep (Ne.symm n1) q1;have r8:=A4.keep (Ne.symm n8) q8;have r3:=A4.keep (Ne.symm n3) q3
 by_cases g:tt.t=[108,101,110,103,116,104]∧(s.step T).isAt T [[40]]=false
 ·rw[if_pos g]at hq;have gt:(tt.t=[108,101,110,103,116,104])=True:=eq_true g.1;refine W3 r1 r3 gt ?_;intro b16 hb16;have n116:=af hb16 r1;have n316:=af hb16 r3;have n816:=af hb16 r8;refine W2 r1 r3 ?_;refine gu (ss:=[[40]]) (A4'.put hb16) ah (by decide) ?_;rw[g.2];refine W2 r1 r3 ?_;refine aQ [98,117,105,108,116,105,110] tt rfl ?_;refine W1 r8 ?_;exact⟨_,Sub.refl,hq _ _ ((A4'.put hb16).over z8 (Ne.symm n8)) (.mk .nil)⟩
 rw[if_neg g]at hq;refine W2 r1 r3 ?_;refine oP AC.mono (fun a' h'=>a'.d=[]∧a'.t 1=.ptr b1 0∧a'.t 2=.ptr b8 0∧a'.t 3=.ptr b3 0∧a'.t 19=.bool false∧PAt h0 h' p tb T (s.step T)∧h' b1=some (.cells [.ptr p 0] false)∧h' b8=some (.cells Z4 false)∧h' b3=some (.cells (bC tt) false)) ?_ ?_
 ·by_cases gt:tt.t=[108,101,110,103,116,104]
  ·have ga:(s.step T).isAt T [[40]]=true:=by
    cases e:(s.step T).isAt T [[40]]
    ·exact absurd ⟨gt,e⟩ g
    ·rfl
   have gt':(tt.t=[108,101,110,103,116,104])=True:=eq_true gt;refine W3 r1 r3 gt' ?_;intro b16 hb16;refine W2 r1 r3 ?_;refine gu (ss:=[[40]]) (A4'.put hb16) ah (by decide) ?_;rw[ga];refine W2 r1 r3 ?_;exact⟨A4'.put hb16,by rw[ae (af hb16 r1)];exact r1,by rw[ae (af hb16 r8)];exact r8,by rw[ae (af hb16 r3)];exact r3⟩
  ·have gt':(tt.t=[108,101,110,103,116,104])=False:=eq_false gt;refine W3 r1 r3 gt' ?_;exact⟨A4',r8,rfl⟩
 ·rintro⟨t,ds⟩ h4 ⟨hd,t1,t2,t3,t19,A5,r1,r8,r3⟩;simp only at hd t1 t2 t3 t19;subst hd;refine W5 t1 t2 t3 t19 r1 ?_;refine bT A5.re [40] fun h5 A6=>?_;have A6':=A5.back A6;have r1:=A6.keep (Ne.symm n1) r1;have r8:=A6.keep (Ne.symm n8) r8;have r3:=A6.keep (Ne.symm n3) r3;have f2:=f1.trans (ay W f1.ok [40]);refine W4 t1 t2 t3 r1 ?_;refine Bo W C [41] A6'.re f2.ok (hl.fwd f2) fun h6 v A7 S7=>?_;have f3:=f2.trans (oU W C.fwd [41] f2.ok (hl.fwd f2));generalize listM T M [41] ((s.step T).expect T [40])=x at hq A7 S7 f3;obtain⟨l,r⟩:=x;simp only at hq A7 S7 f3;have A7':=A6'.back A7;have r1:=A7.keep (Ne.symm n1) r1;have r8':=A7.keep (Ne.symm n8) r8;have r3':=A7.keep (Ne.symm n3) r3;have ll:=S7.ll;have r3c:=r3';unfold bC at r3';have sl0:SlAt (hadd h0 b8 (.cells Z4 false)) h6 p l v:=by
   rcases S7 with S7|⟨b,cs,w1,w2,w3,w4,w5,w6⟩
   ·exact .inl S7
   ·have w2':h5 b=none:=by rw[show hset h5 p none b=h5 b from if_neg w3]at w2;exact w2
    refine .inr ⟨b,cs,w1,by rw[ae (af w2' r8).symm];exact A6'.new w2',w3,w4,w5,CellsV.move (fun x o z nx hx=>⟨?_,hx⟩) w6⟩;obtain⟨z1,z2⟩:=ax z;rw[show hset h5 p none x=h5 x from if_neg nx]at z2;rw[ae z1,ae (af z2 r8).symm];exact A6'.new z2
  have vf:v.flat=true:=S7.kids.flat;have fin:∀(h7:H) (s7:PS) (l7:List Tree) (v7:V),PAt h0 h7 p tb T s7→KidsV (hadd h0 b8 (.cells Z4 false)) h7 p l7 v7→biPost tt l r=(l7,s7)→∃h3,Mir.Sub h3 (hadd h7 b8 (.cells [.str [98,117,105,108,116,105,110],.str tt.t,.int .i64 tt.a,v7] false))∧Q (.agg [.str [98,117,105,108,116,105,110],.str tt.t,.int .i64 tt.a,v7]) h3:=fun h7 s7 l7 v7 B k e=>by
   rw[e]at hq;exact⟨_,Sub.refl,hq _ _ (B.over z8 (Ne.symm n8)) (.mk (KidsV.move (fun x o z nx hx=>⟨(ax z).2,by rw[ae (ax z).1];exact hx⟩) k))⟩
  have keepK:∀{h':H} {s':PS},PAt (hset h6 p none) h' p tb T s'→KidsV (hadd h0 b8 (.cells Z4 false)) h' p l v:=fun B=>sl0.kids.keep B;unfold biPost at fin
  by_cases c1:tt.t=[108,101,110,103,116,104]
  ·have d1:(tt.t=[108,101,110,103,116,104])=True:=eq_true c1;refine W7 t1 t2 t3 r1 r3' ll d1 ?_;refine bQ A7'.re r1 r3c (Ne.symm n1) (Ne.symm n3) _ 9 (q:=1<l.length) (by rw[decide_eq_true_iff];omega) fun h8 A8=>?_;have r3:=A8.keep (Ne.symm n3) r3';have r8:=A8.keep (Ne.symm n8) r8';refine W4 t1 t2 t3 r3 ?_;refine aQ [98,117,105,108,116,105,110] tt vf ?_;refine W3 t2 r8 vf ?_;exact fin _ _ _ _ (A7'.back A8) (keepK A8) (by simp only[d1,if_true,if_false,or_true,true_or,or_false,or_self,reduceIte])
  have d1:(tt.t=[108,101,110,103,116,104])=False:=eq_false c1
  by_cases c2:tt.t=[115,117,98,115,116,114]
  ·have d2:(tt.t=[115,117,98,115,116,114])=True:=eq_true c2
   by_cases n2:l.length<2
   ·refine W8 t1 t2 t3 r1 r3' ll d1 d2 ?_;refine bQ A7'.re r1 r3c (Ne.symm n1) (Ne.symm n3) _ 9 (q:=l.length<2∨3<l.length) (by simp[n2]) fun h8 A8=>?_;have r3:=A8.keep (Ne.symm n3) r3';have r8:=A8.keep (Ne.symm n8) r8';refine W4 t1 t2 t3 r3 ?_;refine aQ [98,117,105,108,116,105,110] tt vf ?_;refine W3 t2 r8 vf ?_;exact fin _ _ _ _ (A7'.back A8) (keepK A8) (by simp only[d1,d2,if_true,if_false,or_true,true_or,or_false,or_self,reduceIte])
   ·refine W8 t1 t2 t3 r1 r3' ll d1 d2 ?_;refine bQ A7'.re r1 r3c (Ne.symm n1) (Ne.symm n3) _ 9 (q:=l.length<2∨3<l.length) (by rw[decide_eq_true_iff];omega) fun h8 A8=>?_;have r3:=A8.keep (Ne.symm n3) r3';have r8:=A8.keep (Ne.symm n8) r8';refine W4 t1 t2 t3 r3 ?_;refine aQ [98,117,105,108,116,105,110] tt vf ?_;refine W3 t2 r8 vf ?_;exact fin _ _ _ _ (A7'.back A8) (keepK A8) (by simp only[d1,d2,if_true,if_false,or_true,true_or,or_false,or_self,reduceIte])
  have d2:(tt.t=[115,117,98,115,116,114])=False:=eq_false c2
  by_cases c3:tt.t=[115,112,108,105,116]
  ·have d3:(tt.t=[115,112,108,105,116])=True:=eq_true c3;obtain⟨rs,hrs⟩:∃rs,rs=r.wrong tt.a (l.length<2∨3<l.length∨(l.getD 1 .zero).op≠[118,97,114]) 9:=⟨_,rfl⟩
   by_cases n2:l.length<2∨3<l.length
   ·have ne:=Jq (s:=r) (q:=l.length<2∨3<l.length∨(l.getD 1 .zero).op≠[118,97,114]) (by rcases n2 with e|e;exact .inl e;exact .inr (.inl e)) tt.a 9 (by decide);rw[← hrs]at ne;have tail:∀(h8:H),PAt (hset h6 p none) h8 p tb T rs→True:=fun _ _=>trivial
    by_cases n2':l.length<2
    ·refine W8 t1 t2 t3 r1 r3' ll d1 (An2 d2 d3) ?_;refine bQ A7'.re r1 r3c (Ne.symm n1) (Ne.symm n3) _ 9 (q:=l.length<2∨3<l.length∨(l.getD 1 .zero).op≠[118,97,114]) (by simp[n2']) fun h8 A8=>?_;rw[← hrs]at A8;have r1x:=A8.keep (Ne.symm n1) r1;have hp8:=A8.obj;unfold psC at hp8;have r3:=A8.keep (Ne.symm n3) r3';have r8:=A8.keep (Ne.symm n8) r8';refine W6 t1 t2 t3 r1x hp8 r3 ?_;refine aQ [98,117,105,108,116,105,110] tt vf ?_;refine W3 t2 r8 vf ?_;exact fin _ _ _ _ (A7'.back A8) (keepK A8) (by simp only[d1,d2,d3,if_true,if_false,or_true,true_or,or_false,or_self,reduceIte];rw[← hrs,if_neg ne])
    ·have n3l:3<l.length:=by omega
     refine W8 t1 t2 t3 r1 r3' ll d1 (An2 d2 d3) ?_;refine bQ A7'.re r1 r3c (Ne.symm n1) (Ne.symm n3) _ 9 (q:=l.length<2∨3<l.length∨(l.getD 1 .zero).op≠[118,97,114]) (by simp[n3l]) fun h8 A8=>?_;rw[← hrs]at A8;have r1x:=A8.keep (Ne.symm n1) r1;have hp8:=A8.obj;unfold psC at hp8;have r3:=A8.keep (Ne.symm n3) r3';have r8:=A8.keep (Ne.symm n8) r8';refine W6 t1 t2 t3 r1x hp8 r3 ?_;refine aQ [98,117,105,108,116,105,110] tt vf ?_;refine W3 t2 r8 vf ?_;exact fin _ _ _ _ (A7'.back A8) (keepK A8) (by simp only[d1,d2,d3,if_true,if_false,or_true,true_or,or_false,or_self,reduceIte];rw[← hrs,if_neg ne])
   obtain⟨b,x0,x1,rest,k0,k1,cs,el,zb,nb,ev,hb,kk0,kk1,kr⟩:=sl0.two (by omega);have kf0:=kk0.flat;have kf1:=kk1.flat;have nb8:=(ax zb).1;have zb0:=(ax zb).2;have e1:(l.getD 1 .zero).op=x1.op:=by rw[el];rfl
   have hb3:b≠b3:=fun e=>by rw[e,r3c]at hb;simp[bC]at hb
   have hb1:b≠b1:=fun e=>by rw[e,r1]at hb;simp at hb
   refine W8 t1 t2 t3 r1 r3' ll d1 (An2 d2 (An2 d3 (An2 ev hb))) ?_;refine bQ A7'.re r1 r3c (Ne.symm n1) (Ne.symm n3) _ 9 (q:=l.length<2∨3<l.length∨(l.getD 1 .zero).op≠[118,97,114]) (by rw[e1];simp only[n2,decide_eq_true_iff];constructor;(intro h;exact .inr (.inr h));(rintro(h|h|h);omega;omega;exact h)) fun h8 A8=>?_;rw[← hrs]at A8;have r1x:=A8.keep (Ne.symm n1) r1;have hp8:=A8.obj;unfold psC at hp8;have r3:=A8.keep (Ne.symm n3) r3';have r8:=A8.keep (Ne.symm n8) r8';have hb':=A8.keep nb hb
   by_cases ne:rs.err=0
   ·refine W8 t1 t2 t3 r1x hp8 r3 ev hb' ?_;refine aQ [98,117,105,108,116,105,110] tt rfl ?_;refine W2 t2 r8 ?_;have kk0':=kk0.keep A8;have kk1':=kk1.keep A8;have kr':=kr.keep A8;refine fin _ rs (x0::x1.withOp [110,97,109,101]::rest) _ ((A7'.back A8).over zb0 nb) ?_ (by simp only[d1,d2,d3,if_true,if_false,or_true,true_or,or_false,or_self,reduceIte];rw[← hrs,if_pos ne,el];rfl);have ll':(x0::x1.withOp [110,97,109,101]::rest).length=l.length:=by rw[el];rfl
    rw[← ll'];have mv:∀(o':AObj) (ll:List Tree) (vv:V),KidsV (hadd (hadd h0 b8 (.cells Z4 false)) b (.cells [] false)) h8 p ll vv→KidsV (hadd h0 b8 (.cells Z4 false)) (hadd h8 b o') p ll vv:=fun o' ll vv k =>
     KidsV.move (fun x o z nx hx=>⟨(ax z).2,by rw[ae (ax z).1];exact hx⟩) k
    cases x0;cases x1;exact .sl (by simp) zb nb ah (.cons (mv _ _ _ kk0') (.cons (mv _ _ _ kk1') (CellsV.move (fun x o z nx hx=>⟨(ax z).2,by rw[ae (ax z).1];exact hx⟩) kr')))
   ·refine W6 t1 t2 t3 r1x hp8 r3 ?_;refine aQ [98,117,105,108,116,105,110] tt rfl ?_;refine W3 t2 r8 vf ?_;exact fin _ _ _ _ (A7'.back A8) (ev ▸ keepK A8) (by simp only[d1,d2,d3,if_true,if_false,or_true,true_or,or_false,or_self,reduceIte];rw[← hrs,if_neg ne])
  have d3:(tt.t=[115,112,108,105,116])=False:=eq_false c3
  by_cases c4:tt.t=[115,117,98]
  ·have d4:(tt.t=[115,117,98])=True:=eq_true c4
   by_cases n2:l.length<2∨3<l.length
   ·by_cases n2':l.length<2
    ·refine W8 t1 t2 t3 r1 r3' ll d1 (An2 d2 (An2 d3 d4)) ?_;refine bQ A7'.re r1 r3c (Ne.symm n1) (Ne.symm n3) _ 9 (q:=l.length<2∨3<l.length∨l.length=3∧(l.getD 2 .zero).isPlace=false) (by simp[n2']) fun h8 A8=>?_;have r3:=A8.keep (Ne.symm n3) r3';have r8:=A8.keep (Ne.symm n8) r8';refine W4 t1 t2 t3 r3 ?_;refine aQ [98,117,105,108,116,105,110] tt vf ?_;refine W3 t2 r8 vf ?_;exact fin _ _ _ _ (A7'.back A8) (keepK A8) (by simp only[d1,d2,d3,d4,if_true,if_false,or_true,true_or,or_false,or_self,reduceIte];rw[if_neg (by omega)])
    ·have n3l:3<l.length:=by omega
     refine W8 t1 t2 t3 r1 r3' ll d1 (An2 d2 (An2 d3 d4)) ?_;refine bQ A7'.re r1 r3c (Ne.symm n1) (Ne.symm n3) _ 9 (q:=l.length<2∨3<l.length∨l.length=3∧(l.getD 2 .zero).isPlace=false) (by simp[n3l]) fun h8 A8=>?_;have r3:=A8.keep (Ne.symm n3) r3';have r8:=A8.keep (Ne.symm n8) r8';refine W4 t1 t2 t3 r3 ?_;refine aQ [98,117,105,108,116,105,110] tt vf ?_;refine W3 t2 r8 vf ?_;exact fin _ _ _ _ (A7'.back A8) (keepK A8) (by simp only[d1,d2,d3,d4,if_true,if_false,or_true,true_or,or_false,or_self,reduceIte];rw[if_neg (by omega)])
   obtain⟨b,x0,x1,rest,k0,k1,cs,el,zb,nb,ev,hb,kk0,kk1,kr⟩:=sl0.two (by omega);have kf0:=kk0.flat;have kf1:=kk1.flat;have nb8:=(ax zb).1;have zb0:=(ax zb).2;have hb3:b≠b3:=fun e=>by rw[e,r3c]at hb;simp[bC]at hb
   have hb1:b≠b1:=fun e=>by rw[e,r1]at hb;simp at hb
   have vf':(V.sl b 0 4 l.length).flat=true:=rfl
   by_cases n3l:l.length=3
   ·have:∃x2,rest=[x2]:=by
     rw[el]at n3l
     match rest,n3l with
     |[x2],_=>exact⟨x2,rfl⟩
    obtain⟨x2,rfl⟩:=this;cases kr with
    |cons k2 kn =>
      cases kn;have kf2:=k2.flat;refine W8 t1 t2 t3 r1 r3' ll d1 (An2 d2 (An2 d3 (An2 d4 (An2 ev hb)))) ?_;refine xE _ _ _ [] kf2 ?_;refine W8 t1 t2 t3 r1 r3' ll d1 (An2 d2 (An2 d3 d4)) ?_;refine bQ A7'.re r1 r3c (Ne.symm n1) (Ne.symm n3) _ 9 (q:=l.length<2∨3<l.length∨l.length=3∧(l.getD 2 .zero).isPlace=false) (by rw[el];simp;rfl) fun h8 A8=>?_;have r3:=A8.keep (Ne.symm n3) r3';have r8:=A8.keep (Ne.symm n8) r8';refine W4 t1 t2 t3 r3 ?_;refine aQ [98,117,105,108,116,105,110] tt vf' ?_;refine W2 t2 r8 ?_;exact fin _ _ _ _ (A7'.back A8) (ev ▸ keepK A8) (by simp only[d1,d2,d3,d4,if_true,if_false,or_true,true_or,or_false,or_self,reduceIte];rw[if_neg (by omega)])
   ·have n2l:l.length=2:=by omega
    have:rest=[]:=by
     rw[el]at n2l
     match rest,n2l with
     |[],_=>rfl
    subst this;cases kr;refine W8 t1 t2 t3 r1 r3' ll d1 (An2 d2 (An2 d3 (An2 d4 (An2 ev hb)))) ?_;refine bQ A7'.re r1 r3c (Ne.symm n1) (Ne.symm n3) _ 9 (q:=l.length<2∨3<l.length∨l.length=3∧(l.getD 2 .zero).isPlace=false) (by simp[n2,n3l]) fun h8 A8=>?_;have r3:=A8.keep (Ne.symm n3) r3';have r8:=A8.keep (Ne.symm n8) r8';have hb':=A8.keep nb hb;have A8g:=(A7'.back A8).more r8 (Ne.symm n8) z8;refine W4 t1 t2 t3 r3 ?_;intro bx hbx;have nbx:=af hbx hb';refine W4 t1 t2 t3 r3 ?_;refine aS [102,105,101,108,100] (l:=[]) rfl ?_;refine W4 t1 t2 t3 r3 ?_;intro by' hby;have nbx8:=af hbx r8;have nbx3:=af hbx r3;have nby8:b8≠by':=fun e=>by rw[← e,ae nbx8,r8]at hby;cases hby
    have nby3:b3≠by':=fun e=>by rw[← e,ae nbx3,r3]at hby;cases hby
    have nby:b≠by':=fun e=>by rw[← e,ae nbx,hb']at hby;cases hby
    refine W7 t1 t2 t3 r3 ev hb' n2l ?_;intro ba nab hba;have ha0:hadd h8 bx (.cells [V.str [110,117,109],V.str [48],V.int IntKind.i64 ↑tt.a,V.nilsl] false) ba=none:=by
     have n:ba≠by':=fun e=>by rw[e,ah]at hba;cases hba
     rw[ae n]at hba;exact hba
    have nba8:b8≠ba:=fun e=>by rw[← e,ae nbx8,r8]at ha0;cases ha0
    have nba3:b3≠ba:=fun e=>by rw[← e,ae nbx3,r3]at ha0;cases ha0
    have kt:CellsV (hadd (hadd h0 b8 (.cells Z4 false)) b (.cells [] false)) (hadd h8 bx (.cells [V.str [110,117,109],V.str [48],V.int IntKind.i64 ↑tt.a,V.nilsl] false)) p [nodeM [102,105,101,108,100] [.nd [110,117,109] [48] tt.a []]] [V.str [102,105,101,108,100],V.str [],V.int IntKind.i64 0,V.sl bx 0 4 1]:=
     .cons (.sl (by simp) (by rw[ae (Ne.symm nbx),ae (Ne.symm nbx8)];exact(A7'.back A8).new hbx) (Ne.symm ((A7'.back A8).ne hbx)) ah (.cons .nil .nil)) .nil
    have kc:CellsV (hadd (hadd h0 b8 (.cells Z4 false)) b (.cells [] false)) (hadd h8 bx (.cells [V.str [110,117,109],V.str [48],V.int IntKind.i64 ↑tt.a,V.nilsl] false)) p [x0,x1] (nodeC x0 k0++nodeC x1 k1):=
     (CellsV.one (NodeV.of ((kk0.keep A8).put hbx))).app (CellsV.one (NodeV.of ((kk1.keep A8).put hbx)))
    have S9:=SlAt.more (A8g.put hbx) (by simp) kc hby nab hba kt;have A9:=((((A7'.back A8).put hbx).put hby).lose zb0 nb).put (o:=.cells (nodeC x0 k0++nodeC x1 k1++[V.str [102,105,101,108,100],V.str [],V.int IntKind.i64 0,V.sl bx 0 4 1]) false) (b:=ba) (by unfold hset;rw[if_neg nab];exact hba);refine W6 t1 t2 t3 r3 ev n2l ?_;refine aQ [98,117,105,108,116,105,110] tt rfl ?_;refine W2 t2 r8 ?_;exact fin _ _ _ _ A9 S9.kids (by simp only[d1,d2,d3,d4,if_true,if_false,or_true,true_or,or_false,or_self,reduceIte];rw[if_pos (by omega),el])
  have d4:(tt.t=[115,117,98])=False:=eq_false c4
  by_cases c5:tt.t=[103,115,117,98]
  ·have d5:(tt.t=[103,115,117,98])=True:=eq_true c5
   by_cases n2:l.length<2∨3<l.length
   ·by_cases n2':l.length<2
    ·refine W8 t1 t2 t3 r1 r3' ll d1 (An2 d2 (An2 d3 (An2 d4 d5))) ?_;refine bQ A7'.re r1 r3c (Ne.symm n1) (Ne.symm n3) _ 9 (q:=l.length<2∨3<l.length∨l.length=3∧(l.getD 2 .zero).isPlace=false) (by simp[n2']) fun h8 A8=>?_;have r3:=A8.keep (Ne.symm n3) r3';have r8:=A8.keep (Ne.symm n8) r8';refine W4 t1 t2 t3 r3 ?_;refine aQ [98,117,105,108,116,105,110] tt vf ?_;refine W3 t2 r8 vf ?_;exact fin _ _ _ _ (A7'.back A8) (keepK A8) (by simp only[d1,d2,d3,d4,d5,if_true,if_false,or_true,true_or,or_false,or_self,reduceIte];rw[if_neg (by omega)])
    ·have n3l:3<l.length:=by omega
     refine W8 t1 t2 t3 r1 r3' ll d1 (An2 d2 (An2 d3 (An2 d4 d5))) ?_;refine bQ A7'.re r1 r3c (Ne.symm n1) (Ne.symm n3) _ 9 (q:=l.length<2∨3<l.length∨l.length=3∧(l.getD 2 .zero).isPlace=false) (by simp[n3l]) fun h8 A8=>?_;have r3:=A8.keep (Ne.symm n3) r3';have r8:=A8.keep (Ne.symm n8) r8';refine W4 t1 t2 t3 r3 ?_;refine aQ [98,117,105,108,116,105,110] tt vf ?_;refine W3 t2 r8 vf ?_;exact fin _ _ _ _ (A7'.back A8) (keepK A8) (by simp only[d1,d2,d3,d4,d5,if_true,if_false,or_true,true_or,or_false,or_self,reduceIte];rw[if_neg (by omega)])
   obtain⟨b,x0,x1,rest,k0,k1,cs,el,zb,nb,ev,hb,kk0,kk1,kr⟩:=sl0.two (by omega);have kf0:=kk0.flat;have kf1:=kk1.flat;have nb8:=(ax zb).1;have zb0:=(ax zb).2;have hb3:b≠b3:=fun e=>by rw[e,r3c]at hb;simp[bC]at hb
   have hb1:b≠b1:=fun e=>by rw[e,r1]at hb;simp at hb
   have vf':(V.sl b 0 4 l.length).flat=true:=rfl
   by_cases n3l:l.length=3
   ·have:∃x2,rest=[x2]:=by
     rw[el]at n3l
     match rest,n3l with
     |[x2],_=>exact⟨x2,rfl⟩
    obtain⟨x2,rfl⟩:=this;cases kr with
    |cons k2 kn =>
      cases kn;have kf2:=k2.flat;refine W8 t1 t2 t3 r1 r3' ll d1 (An2 d2 (An2 d3 (An2 d4 (An2 d5 (An2 ev hb))))) ?_;refine xE _ _ _ [] kf2 ?_;refine W8 t1 t2 t3 r1 r3' ll d1 (An2 d2 (An2 d3 (An2 d4 d5))) ?_;refine bQ A7'.re r1 r3c (Ne.symm n1) (Ne.symm n3) _ 9 (q:=l.length<2∨3<l.length∨l.length=3∧(l.getD 2 .zero).isPlace=false) (by rw[el];simp;rfl) fun h8 A8=>?_;have r3:=A8.keep (Ne.symm n3) r3';have r8:=A8.keep (Ne.symm n8) r8';refine W4 t1 t2 t3 r3 ?_;refine aQ [98,117,105,108,116,105,110] tt vf' ?_;refine W2 t2 r8 ?_;exact fin _ _ _ _ (A7'.back A8) (ev ▸ keepK A8) (by simp only[d1,d2,d3,d4,d5,if_true,if_false,or_true,true_or,or_false,or_self,reduceIte];rw[if_neg (by omega)])
   ·have n2l:l.length=2:=by omega
    have:rest=[]:=by
     rw[el]at n2l
     match rest,n2l with
     |[],_=>rfl
    subst this;cases kr;refine W8 t1 t2 t3 r1 r3' ll d1 (An2 d2 (An2 d3 (An2 d4 (An2 d5 (An2 ev hb))))) ?_;refine bQ A7'.re r1 r3c (Ne.symm n1) (Ne.symm n3) _ 9 (q:=l.length<2∨3<l.length∨l.length=3∧(l.getD 2 .zero).isPlace=false) (by simp[n2,n3l]) fun h8 A8=>?_;have r3:=A8.keep (Ne.symm n3) r3';have r8:=A8.keep (Ne.symm n8) r8';have hb':=A8.keep nb hb;have A8g:=(A7'.back A8).more r8 (Ne.symm n8) z8;refine W4 t1 t2 t3 r3 ?_;intro bx hbx;have nbx:=af hbx hb';refine W4 t1 t2 t3 r3 ?_;refine aS [102,105,101,108,100] (l:=[]) rfl ?_;refine W4 t1 t2 t3 r3 ?_;intro by' hby;have nbx8:=af hbx r8;have nbx3:=af hbx r3;have nby8:b8≠by':=fun e=>by rw[← e,ae nbx8,r8]at hby;cases hby
    have nby3:b3≠by':=fun e=>by rw[← e,ae nbx3,r3]at hby;cases hby
    have nby:b≠by':=fun e=>by rw[← e,ae nbx,hb']at hby;cases hby
    refine W7 t1 t2 t3 r3 ev hb' n2l ?_;intro ba nab hba;have ha0:hadd h8 bx (.cells [V.str [110,117,109],V.str [48],V.int IntKind.i64 ↑tt.a,V.nilsl] false) ba=none:=by
     have n:ba≠by':=fun e=>by rw[e,ah]at hba;cases hba
     rw[ae n]at hba;exact hba
    have nba8:b8≠ba:=fun e=>by rw[← e,ae nbx8,r8]at ha0;cases ha0
    have nba3:b3≠ba:=fun e=>by rw[← e,ae nbx3,r3]at ha0;cases ha0
    have kt:CellsV (hadd (hadd h0 b8 (.cells Z4 false)) b (.cells [] false)) (hadd h8 bx (.cells [V.str [110,117,109],V.str [48],V.int IntKind.i64 ↑tt.a,V.nilsl] false)) p [nodeM [102,105,101,108,100] [.nd [110,117,109] [48] tt.a []]] [V.str [102,105,101,108,100],V.str [],V.int IntKind.i64 0,V.sl bx 0 4 1]:=
     .cons (.sl (by simp) (by rw[ae (Ne.symm nbx),ae (Ne.symm nbx8)];exact(A7'.back A8).new hbx) (Ne.symm ((A7'.back A8).ne hbx)) ah (.cons .nil .nil)) .nil
    have kc:CellsV (hadd (hadd h0 b8 (.cells Z4 false)) b (.cells [] false)) (hadd h8 bx (.cells [V.str [110,117,109],V.str [48],V.int IntKind.i64 ↑tt.a,V.nilsl] false)) p [x0,x1] (nodeC x0 k0++nodeC x1 k1):=
     (CellsV.one (NodeV.of ((kk0.keep A8).put hbx))).app (CellsV.one (NodeV.of ((kk1.keep A8).put hbx)))
    have S9:=SlAt.more (A8g.put hbx) (by simp) kc hby nab hba kt;have A9:=((((A7'.back A8).put hbx).put hby).lose zb0 nb).put (o:=.cells (nodeC x0 k0++nodeC x1 k1++[V.str [102,105,101,108,100],V.str [],V.int IntKind.i64 0,V.sl bx 0 4 1]) false) (b:=ba) (by unfold hset;rw[if_neg nab];exact hba);refine W6 t1 t2 t3 r3 ev n2l ?_;refine aQ [98,117,105,108,116,105,110] tt rfl ?_;refine W2 t2 r8 ?_;exact fin _ _ _ _ A9 S9.kids (by simp only[d1,d2,d3,d4,d5,if_true,if_false,or_true,true_or,or_false,or_self,reduceIte];rw[if_pos (by omega),el])
  have d5:(tt.t=[103,115,117,98])=False:=eq_false c5
  by_cases c6:tt.t=[105,110,100,101,120]
  ·have d6:(tt.t=[105,110,100,101,120])=True:=eq_true c6;refine W8 t1 t2 t3 r1 r3' ll d1 (An2 d2 (An2 d3 (An2 d4 (An2 d5 d6)))) ?_;refine bQ A7'.re r1 r3c (Ne.symm n1) (Ne.symm n3) _ 9 (q:=l.length≠2) (by rw[decide_eq_true_iff];omega) fun h8 A8=>?_;have r3:=A8.keep (Ne.symm n3) r3';have r8:=A8.keep (Ne.symm n8) r8';refine W4 t1 t2 t3 r3 ?_;refine aQ [98,117,105,108,116,105,110] tt vf ?_;refine W3 t2 r8 vf ?_;exact fin _ _ _ _ (A7'.back A8) (keepK A8) (by simp only[d1,d2,d3,d4,d5,d6,if_true,if_false,or_true,true_or,or_false,or_self,reduceIte])
  have d6:(tt.t=[105,110,100,101,120])=False:=eq_false c6
  by_cases c7:tt.t=[109,97,116,99,104]
  ·have d7:(tt.t=[109,97,116,99,104])=True:=eq_true c7;refine W8 t1 t2 t3 r1 r3' ll d1 (An2 d2 (An2 d3 (An2 d4 (An2 d5 (An2 d6 d7))))) ?_;refine bQ A7'.re r1 r3c (Ne.symm n1) (Ne.symm n3) _ 9 (q:=l.length≠2) (by rw[decide_eq_true_iff];omega) fun h8 A8=>?_;have r3:=A8.keep (Ne.symm n3) r3';have r8:=A8.keep (Ne.symm n8) r8';refine W4 t1 t2 t3 r3 ?_;refine aQ [98,117,105,108,116,105,110] tt vf ?_;refine W3 t2 r8 vf ?_;exact fin _ _ _ _ (A7'.back A8) (keepK A8) (by simp only[d1,d2,d3,d4,d5,d6,d7,if_true,if_false,or_true,true_or,or_false,or_self,reduceIte])
  have d7:(tt.t=[109,97,116,99,104])=False:=eq_false c7
  by_cases c8:tt.t=[115,112,114,105,110,116,102]
  ·have d8:(tt.t=[115,112,114,105,110,116,102])=True:=eq_true c8;refine W8 t1 t2 t3 r1 r3' ll d1 (An2 d2 (An2 d3 (An2 d4 (An2 d5 (An2 d6 (An2 d7 d8)))))) ?_;refine bQ A7'.re r1 r3c (Ne.symm n1) (Ne.symm n3) _ 9 (q:=l.length<1) (by rw[decide_eq_true_iff];omega) fun h8 A8=>?_;have r3:=A8.keep (Ne.symm n3) r3';have r8:=A8.keep (Ne.symm n8) r8';refine W4 t1 t2 t3 r3 ?_;refine aQ [98,117,105,108,116,105,110] tt vf ?_;refine W3 t2 r8 vf ?_;exact fin _ _ _ _ (A7'.back A8) (keepK A8) (by simp only[d1,d2,d3,d4,d5,d6,d7,d8,if_true,if_false,or_true,true_or,or_false,or_self,reduceIte])
  have d8:(tt.t=[115,112,114,105,110,116,102])=False:=eq_false c8
  by_cases c9:tt.t=[114,97,110,100]
  ·have d9:(tt.t=[114,97,110,100])=True:=eq_true c9;refine W8 t1 t2 t3 r1 r3' ll d1 (An2 d2 (An2 d3 (An2 d4 (An2 d5 (An2 d6 (An2 d7 (An2 d8 d9))))))) ?_;refine bQ A7'.re r1 r3c (Ne.symm n1) (Ne.symm n3) _ 9 (q:=l.length≠0) (by rw[decide_eq_true_iff];omega) fun h8 A8=>?_;have r3:=A8.keep (Ne.symm n3) r3';have r8:=A8.keep (Ne.symm n8) r8';refine W4 t1 t2 t3 r3 ?_;refine aQ [98,117,105,108,116,105,110] tt vf ?_;refine W3 t2 r8 vf ?_;exact fin _ _ _ _ (A7'.back A8) (keepK A8) (by simp only[d1,d2,d3,d4,d5,d6,d7,d8,d9,if_true,if_false,or_true,true_or,or_false,or_self,reduceIte])
  have d9:(tt.t=[114,97,110,100])=False:=eq_false c9
  by_cases c10:tt.t=[115,114,97,110,100]
  ·have d10:(tt.t=[115,114,97,110,100])=True:=eq_true c10;refine W8 t1 t2 t3 r1 r3' ll d1 (An2 d2 (An2 d3 (An2 d4 (An2 d5 (An2 d6 (An2 d7 (An2 d8 (An2 d9 d10)))))))) ?_;refine bQ A7'.re r1 r3c (Ne.symm n1) (Ne.symm n3) _ 10 (q:=l.length=0) (by rw[decide_eq_true_iff];omega) fun h8 A8=>?_;have r1x:=A8.keep (Ne.symm n1) r1;have r3x:=A8.keep (Ne.symm n3) r3c;refine W3 t1 t2 t3 ?_;refine bQ (A7'.back A8).re r1x r3x (Ne.symm n1) (Ne.symm n3) _ 9 (q:=l.length≠1) (by rw[decide_eq_true_iff];omega) fun h9 A9=>?_;have r3:=A9.keep (Ne.symm n3) (A8.keep (Ne.symm n3) r3');have r8:=A9.keep (Ne.symm n8) (A8.keep (Ne.symm n8) r8');refine W4 t1 t2 t3 r3 ?_;refine aQ [98,117,105,108,116,105,110] tt vf ?_;refine W3 t2 r8 vf ?_;exact fin _ _ _ _ ((A7'.back A8).back A9) ((keepK A8).keep A9) (by simp only[d1,d2,d3,d4,d5,d6,d7,d8,d9,d10,if_true,if_false,or_true,true_or,or_false,or_self,reduceIte])
  have d10:(tt.t=[115,114,97,110,100])=False:=eq_false c10;refine W8 t1 t2 t3 r1 r3' ll d1 (An2 d2 (An2 d3 (An2 d4 (An2 d5 (An2 d6 (An2 d7 (An2 d8 (An2 d9 d10)))))))) ?_;refine bQ A7'.re r1 r3c (Ne.symm n1) (Ne.symm n3) _ 9 (q:=l.length≠1) (by rw[decide_eq_true_iff];omega) fun h8 A8=>?_;have r3:=A8.keep (Ne.symm n3) r3';have r8:=A8.keep (Ne.symm n8) r8';refine W4 t1 t2 t3 r3 ?_;refine aQ [98,117,105,108,116,105,110] tt vf ?_;refine W3 t2 r8 vf ?_;exact fin _ _ _ _ (A7'.back A8) (keepK A8) (by simp only[d1,d2,d3,d4,d5,d6,d7,d8,d9,d10,if_true,if_false,or_true,true_or,or_false,or_self,reduceIte])
end
section
open Mir
variable{h:H}{Q:V→H→Prop}{h0 h1 h':H}{p tb:Nat}{T:List Tokn}{s s':PS}{N n c:Nat}
theorem PAt.ext(A:PAt h0 h p tb T s)(x:Sub h h'):PAt h0 h' p tb T s:=⟨x _ _ A.obj,A.toks,A.glob,A.base,fun b o hb=>x _ _ (A.sub _ _ hb),A.small,A.lt,A.deep⟩
theorem lvl.down(W:TkOk T N)(hs:SOk T N s)(l:lvl (n+1) c s):lvl n (c+1) (s.down T):=by
 obtain⟨d1,d2,d3,d4,d5⟩:=dZ W hs;exact⟨fun h=>by have:=l.1 (d5 h);omega,by have:=l.2;omega⟩
theorem oh{b8:Nat}(B:PAt h0 h p tb T s)(hb8:h b8=some (.cells Z4 false)){bs:Nat}(hbs:h bs=none){m:Tree}{kv:V}(k:KidsV (hadd h0 b8 (.cells Z4 false)) h p m.kids kv):
  KidsV (hadd h0 b8 (.cells Z4 false)) (hadd h bs (.cells (nodeC m kv) false)) p [m] (.sl bs 0 4 1):=
 .sl (by simp) (by rw[ae (af hbs hb8).symm];exact B.new hbs) (Ne.symm (B.ne hbs)) ah (CellsV.one (NodeV.of (k.put hbs)))
theorem zy(W:TkOk T N){E P R:PF}(CE:FC T N (n+1) c 46 E)(CP:FC T N n (c+1) 127 P)(CR:FC T N n (c+1) 128 R)(hs:SOk T N s)(hl:lvl (n+1) c s):
  Fwd T N s (primM T E P R s).2∧Adv s (primM T E P R s).2:=by
 have f1:=ak W hs;have nk:∀k,(s.cur T).k=k→k≠0→Adv s (s.step T):=fun k e h=>jJ W hs (by omega);unfold primM;dsimp only;split
 ·exact⟨f1,nk 2 (by assumption) (by decide)⟩
 split
 ·exact⟨f1,nk 3 (by assumption) (by decide)⟩
 split
 ·have e4:(s.cur T).k=4:=by assumption
  by_cases c:uK (s.cur T).t≠0
  ·rw[if_pos c];have g:=dR W hs;exact⟨g.trans (ak W g.ok),Adv.left (fun _=>.inr (nz W hs)) (ak W g.ok)⟩
  ·rw[if_neg c];exact⟨f1,nk 4 e4 (by decide)⟩
 split
 ·have e5:=nk 5 (by assumption) (by decide);split
  ·have f2:=f1.trans (ak W f1.ok);have f3:=eY W CE.fwd [93] f2.ok (hl.fwd f2);exact⟨f2.trans f3,e5.left ((ak W f1.ok).trans f3)⟩
  ·exact⟨f1,e5⟩
 split
 ·have e6:=nk 6 (by assumption) (by decide);have f2:=ay W f1.ok [40];have f3:=oU W CE.fwd [41] (f1.trans f2).ok (hl.fwd (f1.trans f2));exact⟨(f1.trans f2).trans f3,e6.left (f2.trans f3)⟩
 split
 ·have e9:(s.cur T).k=9:=by assumption
  have:=Ac W CE.fwd hs hl;exact⟨this.1,this.2 (by omega)⟩
 split
 ·rename_i e;have f3:=eY W CE.fwd [41] f1.ok (hl.fwd f1);exact⟨f1.trans f3,(gU W hs e).left f3⟩
 split
 ·rename_i e;obtain⟨d1,d2,d3,d4,d5⟩:=dZ W f1.ok;have ld:=lvl.down W f1.ok (hl.fwd f1);have g:Fwd T N ((s.step T).down T) (if((s.step T).down T).isAt T [[43,43],[45,45]]=true then P ((s.step T).down T)else R ((s.step T).down T)).2:=by
   split
   ·exact CP.fwd _ d1 ld
   ·exact CR.fwd _ d1 ld
  have:=BQ W f1.ok g;exact⟨f1.trans this,(gU W hs e).left this⟩
 ·exact⟨dR W hs,fun _=>.inr (nz W hs)⟩
theorem Qe(W:TkOk T N)(hc:c<900){E P R:PF}(CE:FC T N (n+1) c 46 E)(CP:FC T N n (c+1) 127 P)(CR:FC T N n (c+1) 128 R):FC T N (n+1) c 128 (primM T E P R):=by
 refine⟨fun h0 h p tb s Q A hs hl hq=>?_,fun s hs hl=>(zy W CE CP CR hs hl).1,fun s hs hl=>(zy W CE CP CR hs hl).2⟩;unfold primM at hq;dsimp only at hq;have f1:=ak W hs;refine AC.fn' (g:=Dq) rfl (by simp only[List.length_cons,List.length_nil,Dq];decide) ?_;simp only[Dq,Mir.Ab.all];refine W0 ?_;intro b8 hb8;have A1:=A.put (o:=.cells Z4 false) hb8;have n8:=A.ne hb8;have z8:=A.new hb8;refine W0 ?_;refine dL A1 ?_;have st:=Ui W (s:=s);obtain⟨tt,ht⟩:∃tt,tt=s.cur T:=⟨_,rfl⟩;rw[← ht]at hq st⊢;rw[jd];refine W0 ?_;intro b3 hb3;have n3:=A1.ne hb3;have n83:b8≠b3:=fun e=>by rw[← e]at hb3;simp[hadd,hset]at hb3
 have A3:=A1.put (o:=.cells (bC tt) false) hb3;have r8:hadd (hadd h b8 (.cells Z4 false)) b3 (.cells (bC tt) false) b8=some (.cells Z4 false):=by rw[ae n83];exact ah
 have r3:hadd (hadd h b8 (.cells Z4 false)) b3 (.cells (bC tt) false) b3=some (.cells (bC tt) false):=ah;unfold bC at A3 r8 r3;unfold Z4 at A3 r8 r3;refine W0 ?_;generalize hadd (hadd h b8 _) b3 _=h2 at A3 r8 r3⊢;have fin:∀(h7:H) (m:Tree) (s7:PS) (kv:V) (o:AObj),PAt h0 h7 p tb T s7→KidsV (hadd h0 b8 (.cells Z4 false)) h7 p m.kids kv→(∀h' v,PAt h0 h' p tb T s7→NodeV h0 h' p m v→Q v h')→∃h3,Mir.Sub h3 (hadd h7 b8 o)∧Q (.agg (nodeC m kv)) h3:=fun h7 m s7 kv o B k hq' =>
  ⟨_,Sub.refl,hq' _ _ (B.over z8 (Ne.symm n8)) (NodeV.of (KidsV.move (fun x o z nx hx=>⟨(ax z).2,by rw[ae (ax z).1];exact hx⟩) k))⟩
 have bk:∀{h5 h6:H} {s5:PS} {l:List Tree} {v:V},PAt h0 h5 p tb T s5→h5 b8=some (.cells Z4 false)→KidsV (hset h5 p none) h6 p l v→KidsV (hadd h0 b8 (.cells Z4 false)) h6 p l v:=fun {h5 h6 s5 l v} B hb k =>
  KidsV.move (fun x o z nx hx=>⟨by
   rw[show hset h5 p none x=h5 x from if_neg nx]at z;rw[ae (af z hb).symm];exact B.new z,hx⟩) k
 by_cases k2:tt.k=2
 ·rw[if_pos k2]at hq;refine W1 r3 ?_;refine aZ A3.re fun h3 A4=>?_;have r3:=A4.keep (Ne.symm n3) r3;have r8:=A4.keep (Ne.symm n8) r8;refine W1 r3 ?_;refine aQ [110,117,109] tt rfl ?_;refine W1 r8 ?_;exact fin _ (aN [110,117,109] tt []) _ _ _ (A3.back A4) .nil hq
 rw[if_neg k2]at hq
 by_cases k3:tt.k=3
 ·rw[if_pos k3]at hq;refine W1 r3 ?_;refine aZ A3.re fun h3 A4=>?_;have r3:=A4.keep (Ne.symm n3) r3;have r8:=A4.keep (Ne.symm n8) r8;refine W1 r3 ?_;refine aQ [115,116,114] tt rfl ?_;refine W1 r8 ?_;exact fin _ (aN [115,116,114] tt []) _ _ _ (A3.back A4) .nil hq
 rw[if_neg k3]at hq
 by_cases k4:tt.k=4
 ·rw[if_pos k4]at hq;refine W1 r3 ?_;refine F6 tt.t st fun h3 v a x3 hv=>?_;have A4:=A3.ext x3;have r3:=x3 _ _ r3;have r8:=x3 _ _ r8;obtain⟨v1,v2,v3,v4,v5,v6,rfl,w1,w2,w3,w4,w5,w6⟩:=hv;refine W6 w1 w2 w3 w4 w5 w6 ?_;intro b4 hb4;have A5:=A4.put (o:=.cells [v1,v2,v3,v4,v5,v6] false) hb4;have n34:=af hb4 r3;have n84:=af hb4 r8;have r3:hadd h3 b4 (.cells [v1,v2,v3,v4,v5,v6] false) b3=_:=(ae n34).trans r3;have r8:hadd h3 b4 (.cells [v1,v2,v3,v4,v5,v6] false) b8=_:=(ae n84).trans r8;refine W6 w1 w2 w3 w4 w5 w6 ?_;generalize hadd h3 b4 _=h4 at A5 r3 r8⊢
  by_cases ce:uK tt.t=0
  ·rw[if_neg (by omega)]at hq;refine W0 ?_;refine aZ A5.re fun h5 A6=>?_;have r3:=A6.keep (Ne.symm n3) r3;have r8:=A6.keep (Ne.symm n8) r8;refine W1 r3 ?_;refine aQ [114,101] tt rfl ?_;refine W1 r8 ?_;exact fin _ (aN [114,101] tt []) _ _ _ (A5.back A6) .nil hq
  ·rw[if_pos ce]at hq;refine W0 ?_;refine gX A5.re fun h5 A6=>?_;have A6':=A5.back A6;have r3:=A6.keep (Ne.symm n3) r3;have r8:=A6.keep (Ne.symm n8) r8;refine W0 ?_;refine aZ A6'.re fun h5 A7=>?_;have r3:=A7.keep (Ne.symm n3) r3;have r8:=A7.keep (Ne.symm n8) r8;refine W1 r3 ?_;refine aQ [114,101] tt rfl ?_;refine W1 r8 ?_;exact fin _ (aN [114,101] tt []) _ _ _ (A6'.back A7) .nil hq
 rw[if_neg k4]at hq
 by_cases k5:tt.k=5
 ·rw[if_pos k5]at hq;refine W1 r3 ?_;refine aZ A3.re fun h3 A4=>?_;have A4':=A3.back A4;have r3:=A4.keep (Ne.symm n3) r3;have r8:=A4.keep (Ne.symm n8) r8;refine W0 ?_;refine aO A4'.re [91] fun h4 A5=>?_;have A5':=A4'.back A5;have r3:=A5.keep (Ne.symm n3) r3;have r8:=A5.keep (Ne.symm n8) r8;cases e:(s.step T).isAt T [[91]]
  ·simp only[e,if_false,Bool.false_eq_true]at hq A5';refine W1 r3 ?_;refine aQ [118,97,114] tt rfl ?_;refine W1 r8 ?_;exact fin _ (aN [118,97,114] tt []) _ _ _ A5' .nil hq
  ·simp only[e,if_true]at hq A5';have f2:=f1.trans (ak W f1.ok);refine W1 r3 ?_;refine kH W CE [93] A5'.re f2.ok (hl.fwd f2) fun h5 v A6 k6=>?_;obtain⟨kv,rfl,kb⟩:=k6.inv;have kf:=kb.flat;have A6':=A5'.back A6;have r3':=A6.keep (Ne.symm n3) r3;have r8':=A6.keep (Ne.symm n8) r8;refine W2 r3' kf ?_;intro bs hbs;have kb':=oh A6' r8' hbs (bk A5' r8 kb);have A7:=A6'.put (o:=.cells (nodeC (insideM T E [93] ((s.step T).step T)).1 kv) false) hbs;have n8s:=af hbs r8';have n3s:=af hbs r3';refine W2 r3' kf ?_;refine aQ [105,110,100,101,120] tt rfl ?_;refine W2 r3' r8' ?_;exact fin _ (aN [105,110,100,101,120] tt [(insideM T E [93] ((s.step T).step T)).1]) _ _ _ A7 kb' hq
 rw[if_neg k5]at hq
 by_cases k6:tt.k=6
 ·rw[if_pos k6]at hq;refine W1 r3 ?_;refine aZ A3.re fun h3 A4=>?_;have A4':=A3.back A4;have r3:=A4.keep (Ne.symm n3) r3;have r8:=A4.keep (Ne.symm n8) r8;refine W0 ?_;refine bT A4'.re [40] fun h4 A5=>?_;have A5':=A4'.back A5;have r3:=A5.keep (Ne.symm n3) r3;have r8:=A5.keep (Ne.symm n8) r8;have f2:=f1.trans (ay W f1.ok [40]);refine W1 r3 ?_;refine Bo W CE [41] A5'.re f2.ok (hl.fwd f2) fun h5 v A6 S6=>?_;have A6':=A5'.back A6;have r3':=A6.keep (Ne.symm n3) r3;have r8':=A6.keep (Ne.symm n8) r8;have vf:=S6.kids.flat;refine W1 r3' ?_;refine aQ [99,97,108,108] tt vf ?_;refine W3 r3' r8' vf ?_;exact fin _ (aN [99,97,108,108] tt (listM T E [41] ((s.step T).expect T [40])).1) _ _ _ A6' (bk A5' r8 S6.kids) hq
 rw[if_neg k6]at hq
 by_cases k9:tt.k=9
 ·rw[if_pos k9]at hq;refine W1 r3 ?_;refine EK W CE A3.re hs hl fun h5 v A6 kn=>?_;obtain⟨kv,rfl,kb⟩:=kn.inv;have kf:=kb.flat;have r8':=A6.keep (Ne.symm n8) r8;refine W2 r8' kf ?_;exact fin _ (builtinM T E s).1 _ _ _ (A3.back A6) (bk A3 r8 kb) hq
 rw[if_neg k9]at hq;refine W1 r3 ?_;refine aO A3.re [40] fun h4 A5=>?_;have A5':=A3.back A5;have r3:=A5.keep (Ne.symm n3) r3;have r8:=A5.keep (Ne.symm n8) r8;cases e1:s.isAt T [[40]]
 case true =>
  simp only[e1,if_true]at hq A5';refine W0 ?_;refine kH W CE [41] A5'.re f1.ok (hl.fwd f1) fun h5 v A6 k6=>?_;obtain⟨kv,rfl,kb⟩:=k6.inv;have kf:=kb.flat;have r8':=A6.keep (Ne.symm n8) r8;refine W2 r8' kf ?_;exact fin _ (insideM T E [41] (s.step T)).1 _ _ _ (A5'.back A6) (bk A5' r8 kb) hq
 simp only[e1,if_false,Bool.false_eq_true]at hq A5';refine W0 ?_;refine aO A5'.re [36] fun h4 A6=>?_;have A6':=A5'.back A6;have r8:=A6.keep (Ne.symm n8) r8;cases e2:s.isAt T [[36]]
 case true =>
  simp only[e2,if_true]at hq A6';obtain⟨d1,d2,d3,d4,d5⟩:=dZ W f1.ok;have ld:=lvl.down W f1.ok (hl.fwd f1);have dl:=hl.2;have df:=f1.deep;refine W0 ?_;refine ve A6'.re (by omega) fun h5 A7=>?_;have A7':=A6'.back A7;have r8:=A7.keep (Ne.symm n8) r8;refine W0 ?_;intro b9 hb9;have n89:=af hb9 r8;have A8:=A7'.put (o:=.cells [.str [43,43],.str [45,45]] false) hb9;have r8':hadd h5 b9 (.cells [.str [43,43],.str [45,45]] false) b8=_:=(ae n89).trans r8;refine W0 ?_;refine gu (ss:=[[43,43],[45,45]]) A8.re ah (by decide) ?_;cases e3:((s.step T).down T).isAt T [[43,43],[45,45]]
  ·simp only[e3,if_false,Bool.false_eq_true]at hq;refine W0 ?_;refine CR.run _ _ _ _ _ _ A8.re d1 ld fun h6 v A9 k9=>?_;generalize hx:R ((s.step T).down T)=x at hq A9 k9;have g:Fwd T N ((s.step T).down T) x.2:=by rw[← hx];exact CR.fwd _ d1 ld
   have A9':=A8.back A9;obtain⟨kv,rfl,kb⟩:=k9.inv;have kf:=kb.flat;have r8x:=A9.keep (Ne.symm n8) r8';have kg:=bk A8 r8' kb;refine W1 kf ?_;intro bs hbs;have n8s:=af hbs r8x;refine W1 kf ?_;refine aS [102,105,101,108,100] (l:=[]) rfl ?_;have kr:=oh A9' r8x hbs kg;have A10:=A9'.put (o:=.cells (nodeC x.1 kv) false) hbs;refine W2 r8x n8s ?_;have A11:=A10.over (o:=.cells (nodeC (nodeM [102,105,101,108,100] [x.1]) (.sl bs 0 4 1)) false) z8 (Ne.symm n8);have kn:NodeV h0 (hadd (hadd h6 bs (.cells (nodeC x.1 kv) false)) b8 (.cells (nodeC (nodeM [102,105,101,108,100] [x.1]) (.sl bs 0 4 1)) false)) p (nodeM [102,105,101,108,100] [x.1]) (.agg (nodeC (nodeM [102,105,101,108,100] [x.1]) (.sl bs 0 4 1))):=
    NodeV.of (KidsV.move (fun y o z nx hx=>⟨(ax z).2,by rw[ae (ax z).1];exact hx⟩) kr)
   refine Et A11.re (by rw[g.deep,d3];omega) fun h8 A12=>?_;have c8:=A12.keep (Ne.symm n8) ah;refine W1 c8 ?_;exact⟨_,Sub.refl,hq _ _ (A11.back A12) (kn.keep A12)⟩
  ·simp only[e3,if_true]at hq;refine W0 ?_;refine CP.run _ _ _ _ _ _ A8.re d1 ld fun h6 v A9 k9=>?_;generalize hx:P ((s.step T).down T)=x at hq A9 k9;have g:Fwd T N ((s.step T).down T) x.2:=by rw[← hx];exact CP.fwd _ d1 ld
   have A9':=A8.back A9;obtain⟨kv,rfl,kb⟩:=k9.inv;have kf:=kb.flat;have r8x:=A9.keep (Ne.symm n8) r8';have kg:=bk A8 r8' kb;refine W1 kf ?_;intro bs hbs;have n8s:=af hbs r8x;refine W1 kf ?_;refine aS [102,105,101,108,100] (l:=[]) rfl ?_;have kr:=oh A9' r8x hbs kg;have A10:=A9'.put (o:=.cells (nodeC x.1 kv) false) hbs;refine W2 r8x n8s ?_;have A11:=A10.over (o:=.cells (nodeC (nodeM [102,105,101,108,100] [x.1]) (.sl bs 0 4 1)) false) z8 (Ne.symm n8);have kn:NodeV h0 (hadd (hadd h6 bs (.cells (nodeC x.1 kv) false)) b8 (.cells (nodeC (nodeM [102,105,101,108,100] [x.1]) (.sl bs 0 4 1)) false)) p (nodeM [102,105,101,108,100] [x.1]) (.agg (nodeC (nodeM [102,105,101,108,100] [x.1]) (.sl bs 0 4 1))):=
    NodeV.of (KidsV.move (fun y o z nx hx=>⟨(ax z).2,by rw[ae (ax z).1];exact hx⟩) kr)
   refine Et A11.re (by rw[g.deep,d3];omega) fun h8 A12=>?_;have c8:=A12.keep (Ne.symm n8) ah;refine W1 c8 ?_;exact⟨_,Sub.refl,hq _ _ (A11.back A12) (kn.keep A12)⟩
 simp only[e2,if_false,Bool.false_eq_true]at hq A6';refine W0 ?_;refine gX A6'.re fun h5 A7=>?_;have r8:=A7.keep (Ne.symm n8) r8;refine W1 r8 ?_;exact fin _ .zero _ _ _ (A6'.back A7) .nil hq
end
section
open Mir
variable{h:H}{Q:V→H→Prop}{h0 h1 h':H}{p tb:Nat}{T:List Tokn}{s s':PS}{N n c:Nat}
theorem zx(W:TkOk T N){R:PF}(hf:∀s,SOk T N s→lvl n c s→Fwd T N s (R s).2)(ha:∀s,SOk T N s→lvl n c s→Adv s (R s).2)(hs:SOk T N s)(hl:lvl n c s):Fwd T N s (postM T R s).2∧Adv s (postM T R s).2:=by
 have f1:=ak W hs;have g1:=hf s hs hl;have b1:=ha s hs hl;have g2:=f1.trans (hf _ f1.ok (hl.fwd f1));unfold postM;dsimp only;split
 ·rename_i e;have a1:=(gU W hs e).left (hf _ f1.ok (hl.fwd f1));split
  ·exact⟨g2,a1⟩
  ·exact⟨g2.trans (dR W g2.ok),a1.left (dR W g2.ok)⟩
 split
 ·rename_i e;have a1:=(gU W hs e).left (hf _ f1.ok (hl.fwd f1));split
  ·exact⟨g2,a1⟩
  ·exact⟨g2.trans (dR W g2.ok),a1.left (dR W g2.ok)⟩
 split
 ·exact⟨g1,b1⟩
 split
 ·exact⟨g1.trans (ak W g1.ok),b1.left (ak W g1.ok)⟩
 split
 ·exact⟨g1.trans (ak W g1.ok),b1.left (ak W g1.ok)⟩
 ·exact⟨g1,b1⟩
theorem pq{m:Tree}{kv:V}(hk:kv.flat=true)(hq:Q (.bool m.isPlace) h):AC pg (.fn 74) [.agg (nodeC m kv)] h Q:=by
 cases m with|nd o t a l=>exact xE o t a l hk hq
theorem G7(W:TkOk T N){R:PF}(C:FC T N n c 128 R):FC T N n c 127 (postM T R):=by
 refine⟨fun h0 h p tb s Q A hs hl hq=>?_,fun s hs hl=>(zx W C.fwd C.adv hs hl).1,fun s hs hl=>(zx W C.fwd C.adv hs hl).2⟩;unfold postM at hq;dsimp only at hq;have f1:=ak W hs;refine AC.fn' (g:=KY) rfl (by simp only[List.length_cons,List.length_nil,KY];decide) ?_;simp only[KY,Mir.Ab.all];refine W0 ?_;intro b8 hb8;have A1:=A.put (o:=.cells Z4 false) hb8;have n8:=A.ne hb8;have z8:=A.new hb8;refine W0 ?_;intro b7 hb7;have n87:b8≠b7:=fun e=>by rw[← e]at hb7;simp[hadd,hset]at hb7
 have n7:=A1.ne hb7;have A2:=A1.put (o:=.cells [.str [43,43],.str [45,45]] false) hb7;have r8:hadd (hadd h b8 (.cells Z4 false)) b7 (.cells [.str [43,43],.str [45,45]] false) b8=some (.cells Z4 false):=by rw[ae n87];exact ah
 have r7:hadd (hadd h b8 (.cells Z4 false)) b7 (.cells [.str [43,43],.str [45,45]] false) b7=some (.cells [.str [43,43],.str [45,45]] false):=ah;unfold Z4 at A2 r8 r7;refine W0 ?_;generalize hadd (hadd h b8 _) b7 _=h2 at A2 r8 r7⊢;have fin:∀(h7:H) (m:Tree) (s7:PS) (kv:V) (o:AObj),PAt h0 h7 p tb T s7→KidsV (hadd h0 b8 (.cells Z4 false)) h7 p m.kids kv→(∀h' v,PAt h0 h' p tb T s7→NodeV h0 h' p m v→Q v h')→∃h3,Mir.Sub h3 (hadd h7 b8 o)∧Q (.agg (nodeC m kv)) h3:=fun h7 m s7 kv o B k hq' =>
  ⟨_,Sub.refl,hq' _ _ (B.over z8 (Ne.symm n8)) (NodeV.of (KidsV.move (fun x o z nx hx=>⟨(ax z).2,by rw[ae (ax z).1];exact hx⟩) k))⟩
 have bk:∀{h5 h6:H} {s5:PS} {l:List Tree} {v:V},PAt h0 h5 p tb T s5→h5 b8=some (.cells Z4 false)→KidsV (hset h5 p none) h6 p l v→KidsV (hadd h0 b8 (.cells Z4 false)) h6 p l v:=fun {h5 h6 s5 l v} B hb k =>
  KidsV.move (fun x o z nx hx=>⟨by
   rw[show hset h5 p none x=h5 x from if_neg nx]at z;rw[ae (af z hb).symm];exact B.new z,hx⟩) k
 refine E.cut AC.mono (fun ex a' h'=>(ex=.exit 0∧a'.d=[]∧a'.t 0=.ptr p 0∧a'.t 2=.ptr b8 0∧PAt h0 h' p tb T s∧h' b8=some (.cells Z4 false)∧s.isAt T [[43,43]]=false∧s.isAt T [[45,45]]=false)∨(ex=.ret∧EX (AC pg) [Res.cell 2 4 true] Q ex a' h')) ?_ ?_
 ·refine E.loopX AC.mono (fun(i:Nat) a' h'=>i≤2∧(1≤i→s.isAt T [[43,43]]=false)∧(2≤i→s.isAt T [[45,45]]=false)∧PAt h0 h' p tb T s∧h' b8=some (.cells Z4 false)∧h' b7=some (.cells [.str [43,43],.str [45,45]] false)∧a'.d=[]∧a'.t 0=.ptr p 0∧a'.t 2=.ptr b8 0∧a'.t 7=.sl b7 0 1 2∧a'.t 8=.int .i64 2∧a'.t 9=.int .i64 i) (fun i=>2-i) 0 ?_ ?_
  ·exact⟨by omega,fun h=>by omega,fun h=>by omega,A2,r8,r7,rfl,rfl,rfl,rfl,rfl,rfl⟩
  ·rintro i ⟨t,ds⟩ h3 ⟨hi,i1,i2,A3,r8,r7,hd,t0,t2,t7,t8,t9⟩;simp only at hd t0 t2 t7 t8 t9;subst hd;have ci:i=0∨i=1∨i=2:=by omega
   rcases ci with rfl|rfl|rfl
   ·refine W6 t0 t2 t7 t8 t9 r7 ?_;refine aO A3.re [43,43] fun h4 A4=>?_;have A4':=A3.back A4;have r8:=A4.keep (Ne.symm n8) r8;have r7:=A4.keep (Ne.symm n7) r7;cases e:s.isAt T [[43,43]]
    ·simp only[e,if_false,Bool.false_eq_true]at A4';refine W5 t0 t2 t7 t8 t9 ?_;exact⟨1,by omega,by omega,fun _=>(by first|exact e|trivial),fun h=>(by first|exact e|trivial|omega),A4',r8,r7,rfl⟩
    ·simp only[e,if_true,if_false,Bool.false_eq_true]at A4' hq;refine W5 t0 t2 t7 t8 t9 ?_;refine C.run _ _ _ _ _ _ A4'.re f1.ok (hl.fwd f1) fun h5 v A5 k5=>?_;have g2:=f1.trans (C.fwd _ f1.ok (hl.fwd f1));generalize R (s.step T)=x at hq A5 k5 g2;obtain⟨m,r⟩:=x;simp only at hq A5 k5 g2;obtain⟨kv,rfl,kb⟩:=k5.inv;have kf:=kb.flat;have A5':=A4'.back A5;have kg:=bk A4' r8 kb;have r8:=A5.keep (Ne.symm n8) r8;refine W1 kf ?_;intro b9 hb9;have n89:=af hb9 r8;have A6:=A5'.put (o:=.cells (nodeC m kv) false) hb9;have r8':hadd h5 b9 (.cells (nodeC m kv) false) b8=_:=(ae n89).trans r8;have kg':=kg.put (o:=.cells (nodeC m kv) false) hb9;have r9:hadd h5 b9 (.cells (nodeC m kv) false) b9=_:=ah;refine W1 kf ?_;refine pq kf ?_;cases ep:m.isPlace
     ·simp only[ep,if_false,Bool.false_eq_true]at hq;refine W2 t0 t2 ?_;refine gX A6.re fun h6 A7=>?_;have r8:=A7.keep (Ne.symm n8) r8';refine W3 t0 t2 r8 ?_;exact .inr (fin _ .zero _ _ _ (A6.back A7) .nil hq)
     ·simp only[ep,if_true]at hq;have m0:aK (KC.one EqC.str) (V.str [43,43]) []=some none:=rfl;have m1:aK (KC.one EqC.str) (V.str [45,45]) [(V.str [43,43],V.str [112,114,101,105,110,99],0)]=some none:=rfl;refine W0 ?_;intro bm hbm;have n8m:=af hbm r8';have n9m:=af hbm r9;have hfk:aK (KC.one EqC.str) (V.str [43,43]) (aI [([43,43],[112,114,101,105,110,99]),([45,45],[112,114,101,100,101,99])] 0)=some (some (V.str [112,114,101,105,110,99],0)):=rfl;have A7:=A6.put (o:=.map (aI [([43,43],[112,114,101,105,110,99]),([45,45],[112,114,101,100,101,99])] 0) 2) hbm;have r8m:hadd (hadd h5 b9 (.cells (nodeC m kv) false)) bm (.map (aI [([43,43],[112,114,101,105,110,99]),([45,45],[112,114,101,100,101,99])] 0) 2) b8=_:=(ae n8m).trans r8';have r9m:hadd (hadd h5 b9 (.cells (nodeC m kv) false)) bm (.map (aI [([43,43],[112,114,101,105,110,99]),([45,45],[112,114,101,100,101,99])] 0) 2) b9=_:=(ae n9m).trans r9;have kgm:=kg'.put (o:=.map (aI [([43,43],[112,114,101,105,110,99]),([45,45],[112,114,101,100,101,99])] 0) 2) hbm;unfold aI aI aI at hfk A7 r8m r9m kgm;refine W4 m0 m1 hfk kf ?_;intro bs hbs;have n8s:=af hbs r8m;have n9s:=af hbs r9m;refine W1 kf ?_;refine aS [112,114,101,105,110,99] (l:=[]) rfl ?_;have kr:=oh A7 r8m hbs kgm;have A8:=A7.put (o:=.cells (nodeC m kv) false) hbs;refine W3 t0 t2 r8 ?_;exact .inr (fin _ (nodeM [112,114,101,105,110,99] [m]) _ _ _ A8 kr hq)
   ·have i1:=i1 (Nat.le_refl _);refine W6 t0 t2 t7 t8 t9 r7 ?_;refine aO A3.re [45,45] fun h4 A4=>?_;have A4':=A3.back A4;have r8:=A4.keep (Ne.symm n8) r8;have r7:=A4.keep (Ne.symm n7) r7;cases e:s.isAt T [[45,45]]
    ·simp only[e,if_false,Bool.false_eq_true]at A4';refine W5 t0 t2 t7 t8 t9 ?_;exact⟨2,by omega,by omega,fun _=>(by first|exact i1|trivial),fun h=>(by first|exact e|trivial|omega),A4',r8,r7,rfl⟩
    ·simp only[i1,e,if_true,if_false,Bool.false_eq_true]at A4' hq;refine W5 t0 t2 t7 t8 t9 ?_;refine C.run _ _ _ _ _ _ A4'.re f1.ok (hl.fwd f1) fun h5 v A5 k5=>?_;have g2:=f1.trans (C.fwd _ f1.ok (hl.fwd f1));generalize R (s.step T)=x at hq A5 k5 g2;obtain⟨m,r⟩:=x;simp only at hq A5 k5 g2;obtain⟨kv,rfl,kb⟩:=k5.inv;have kf:=kb.flat;have A5':=A4'.back A5;have kg:=bk A4' r8 kb;have r8:=A5.keep (Ne.symm n8) r8;refine W1 kf ?_;intro b9 hb9;have n89:=af hb9 r8;have A6:=A5'.put (o:=.cells (nodeC m kv) false) hb9;have r8':hadd h5 b9 (.cells (nodeC m kv) false) b8=_:=(ae n89).trans r8;have kg':=kg.put (o:=.cells (nodeC m kv) false) hb9;have r9:hadd h5 b9 (.cells (nodeC m kv) false) b9=_:=ah;refine W1 kf ?_;refine pq kf ?_;cases ep:m.isPlace
     ·simp only[ep,if_false,Bool.false_eq_true]at hq;refine W2 t0 t2 ?_;refine gX A6.re fun h6 A7=>?_;have r8:=A7.keep (Ne.symm n8) r8';refine W3 t0 t2 r8 ?_;exact .inr (fin _ .zero _ _ _ (A6.back A7) .nil hq)
     ·simp only[ep,if_true]at hq;have m0:aK (KC.one EqC.str) (V.str [43,43]) []=some none:=rfl;have m1:aK (KC.one EqC.str) (V.str [45,45]) [(V.str [43,43],V.str [112,114,101,105,110,99],0)]=some none:=rfl;refine W0 ?_;intro bm hbm;have n8m:=af hbm r8';have n9m:=af hbm r9;have hfk:aK (KC.one EqC.str) (V.str [45,45]) (aI [([43,43],[112,114,101,105,110,99]),([45,45],[112,114,101,100,101,99])] 0)=some (some (V.str [112,114,101,100,101,99],1)):=rfl;have A7:=A6.put (o:=.map (aI [([43,43],[112,114,101,105,110,99]),([45,45],[112,114,101,100,101,99])] 0) 2) hbm;have r8m:hadd (hadd h5 b9 (.cells (nodeC m kv) false)) bm (.map (aI [([43,43],[112,114,101,105,110,99]),([45,45],[112,114,101,100,101,99])] 0) 2) b8=_:=(ae n8m).trans r8';have r9m:hadd (hadd h5 b9 (.cells (nodeC m kv) false)) bm (.map (aI [([43,43],[112,114,101,105,110,99]),([45,45],[112,114,101,100,101,99])] 0) 2) b9=_:=(ae n9m).trans r9;have kgm:=kg'.put (o:=.map (aI [([43,43],[112,114,101,105,110,99]),([45,45],[112,114,101,100,101,99])] 0) 2) hbm;unfold aI aI aI at hfk A7 r8m r9m kgm;refine W4 m0 m1 hfk kf ?_;intro bs hbs;have n8s:=af hbs r8m;have n9s:=af hbs r9m;refine W1 kf ?_;refine aS [112,114,101,100,101,99] (l:=[]) rfl ?_;have kr:=oh A7 r8m hbs kgm;have A8:=A7.put (o:=.cells (nodeC m kv) false) hbs;refine W3 t0 t2 r8 ?_;exact .inr (fin _ (nodeM [112,114,101,100,101,99] [m]) _ _ _ A8 kr hq)
   ·have i1:=i1 (by omega);have i2:=i2 (Nat.le_refl _);refine W6 t0 t2 t7 t8 t9 r7 ?_;exact .inl ⟨A3,r8,i1,i2⟩
 ·rintro ex ⟨t,ds⟩ h3 (⟨rfl,hd,t0,t2,A3,r8,e1,e2⟩|⟨rfl,q⟩)
  ·simp only at hd t0 t2;subst hd;simp only[e1,e2,if_false,Bool.false_eq_true]at hq;refine W2 t0 t2 ?_;refine C.run _ _ _ _ _ _ A3.re hs hl fun h5 v A5 k5=>?_;generalize R s=x at hq A5 k5;obtain⟨m,r⟩:=x;simp only at hq A5 k5;obtain⟨kv,rfl,kb⟩:=k5.inv;have kf:=kb.flat;have A5':=A3.back A5;have kg:=bk A3 r8 kb;have r8:=A5.keep (Ne.symm n8) r8;refine W1 kf ?_;intro b9 hb9;have n89:=af hb9 r8;have n9:=A5'.ne hb9;have A6:=A5'.put (o:=.cells (nodeC m kv) false) hb9;have r8':hadd h5 b9 (.cells (nodeC m kv) false) b8=_:=(ae n89).trans r8;have kg':=kg.put (o:=.cells (nodeC m kv) false) hb9;have r9:hadd h5 b9 (.cells (nodeC m kv) false) b9=_:=ah;refine W1 kf ?_;refine pq kf ?_;cases ep:m.isPlace
   ·simp only[ep,if_true]at hq;refine W4 t0 t2 r8 kf ?_;exact fin _ m _ _ _ A6 kg' hq
   simp only[ep,if_false,Bool.true_eq_false]at hq;refine W2 t0 t2 ?_;refine aO A6.re [43,43] fun h6 A7=>?_;have A7':=A6.back A7;have s8:=A7.keep (Ne.symm n8) r8';have s9:=A7.keep (Ne.symm n9) r9;have kg7:=kg'.keep A7;cases ea:r.isAt T [[43,43]]
   case true =>
    simp only[ea,if_true]at hq A7';refine W4 t0 t2 s9 kf ?_;intro bs hbs;have n8s:=af hbs s8;refine W1 kf ?_;refine aS [112,111,115,116,105,110,99] (l:=[]) rfl ?_;have kr:=oh A7' s8 hbs kg7;have A8:=A7'.put (o:=.cells (nodeC m kv) false) hbs;refine W3 t0 t2 s8 ?_;exact fin _ (nodeM [112,111,115,116,105,110,99] [m]) _ _ _ A8 kr hq
   simp only[ea,if_false,Bool.false_eq_true]at hq A7';refine W2 t0 t2 ?_;refine aO A7'.re [45,45] fun h7 A8=>?_;have A8':=A7'.back A8;have s8:=A8.keep (Ne.symm n8) s8;have s9:=A8.keep (Ne.symm n9) s9;have kg8:=kg7.keep A8;cases eb:r.isAt T [[45,45]]
   case true =>
    simp only[eb,if_true]at hq A8';refine W4 t0 t2 s9 kf ?_;intro bs hbs;have n8s:=af hbs s8;refine W1 kf ?_;refine aS [112,111,115,116,100,101,99] (l:=[]) rfl ?_;have kr:=oh A8' s8 hbs kg8;have A9:=A8'.put (o:=.cells (nodeC m kv) false) hbs;refine W3 t0 t2 s8 ?_;exact fin _ (nodeM [112,111,115,116,100,101,99] [m]) _ _ _ A9 kr hq
   simp only[eb,if_false,Bool.false_eq_true]at hq A8';refine W5 t0 t2 s8 s9 kf ?_;exact fin _ m _ _ _ A8' kg8 hq
  ·rw[tq]at q;refine W0 ?_;exact q
end
section
open Mir
variable{h:H}{Q:V→H→Prop}{h0 h1 h':H}{p tb:Nat}{T:List Tokn}{s s':PS}{N n c:Nat}
theorem at_one{x y:Txt}(hx:s.isAt T [x]=true)(hne:x≠y):s.isAt T [y]=false:=by
 unfold PS.isAt at *;simp only[Bool.and_eq_true,decide_eq_true_eq,List.mem_singleton]at hx;have:¬(s.cur T).t=y:=fun e=>hne (hx.2.symm.trans e);simp[this]
theorem yg(W:TkOk T N){U P:PF}(low:s.err=0→(Fwd T N ((s.step T).down T) (U ((s.step T).down T)).2))(hp:Fwd T N s (P s).2∧Adv s (P s).2)(hs:SOk T N s):Fwd T N s (unaryM T U P s).2∧Adv s (unaryM T U P s).2:=by
 have f1:=ak W hs;unfold unaryM;dsimp only;have key:∀x,s.isAt T [x]=true→Fwd T N s (U ((s.step T).down T)).2.up∧Adv s (U ((s.step T).down T)).2.up:=fun x e=>by
  have:=BQ W f1.ok (low (iF e));exact⟨f1.trans this,(gU W hs e).left this⟩
 split
 ·exact key _ (by assumption)
 split
 ·exact key _ (by assumption)
 split
 ·exact key _ (by assumption)
 ·exact hp
def qM:Ents:=aI [([33],[110,111,116]),([45],[110,101,103]),([43],[112,108,117,115])] 0
theorem Jo{U P:PF}{x op:Txt}(hx:(x,op)∈[([33],[110,111,116]),([45],[110,101,103]),([43],[112,108,117,115])])(e:s.isAt T [x]=true):unaryM T U P s=(nodeM op [(U ((s.step T).down T)).1],(U ((s.step T).down T)).2.up):=by
 simp only[List.mem_cons,Prod.mk.injEq,List.not_mem_nil,or_false]at hx;unfold unaryM;rcases hx with⟨rfl,rfl⟩|⟨rfl,rfl⟩|⟨rfl,rfl⟩
 ·rw[if_pos e]
 ·rw[if_neg (by rw[at_one e (by decide)];decide),if_pos e]
 ·rw[if_neg (by rw[at_one e (by decide)];decide),if_neg (by rw[at_one e (by decide)];decide),if_pos e]
theorem zM(W:TkOk T N)(hc:c<900){U P:PF}(low:∀s:PS,SOk T N s→lvl n c s→s.err=0→∃m,n=m+1∧FC T N m (c+1) 126 U)(C:FC T N n c 127 P):FC T N n c 126 (unaryM T U P):=by
 have lowf:∀s,SOk T N s→lvl n c s→s.err=0→Fwd T N ((s.step T).down T) (U ((s.step T).down T)).2:=fun s hs hl e=>by
  obtain⟨m,rfl,L⟩:=low s hs hl e;have f1:=ak W hs;exact L.fwd _ (dZ W f1.ok).1 (lvl.down W f1.ok (hl.fwd f1))
 refine⟨fun h0 h p tb s Q A hs hl hq=>?_,fun s hs hl=>(yg W (lowf s hs hl) ⟨C.fwd s hs hl,C.adv s hs hl⟩ hs).1,fun s hs hl=>(yg W (lowf s hs hl) ⟨C.fwd s hs hl,C.adv s hs hl⟩ hs).2⟩;have f1:=ak W hs;refine AC.fn' (g:=KX) rfl (by simp only[List.length_cons,List.length_nil,KX];decide) ?_;simp only[KX,Mir.Ab.all];refine W0 ?_;intro b8 hb8;have A1:=A.put (o:=.cells Z4 false) hb8;have n8:=A.ne hb8;have z8:=A.new hb8;have m0:aK (KC.one EqC.str) (V.str [33]) []=some none:=rfl;have m1:aK (KC.one EqC.str) (V.str [45]) [(V.str [33],V.str [110,111,116],0)]=some none:=rfl;have m2:aK (KC.one EqC.str) (V.str [43]) [(V.str [33],V.str [110,111,116],0),(V.str [45],V.str [110,101,103],1)]=some none:=rfl;refine W0 ?_;intro bm hbm;have nm:=A1.ne hbm;have n8m:b8≠bm:=fun e=>by rw[← e]at hbm;simp[hadd,hset]at hbm
 have A2:=A1.put (o:=.map qM 3) hbm;have r8:hadd (hadd h b8 (.cells Z4 false)) bm (.map qM 3) b8=some (.cells Z4 false):=by rw[ae n8m];exact ah
 have rm:hadd (hadd h b8 (.cells Z4 false)) bm (.map qM 3) bm=some (.map qM 3):=ah;unfold qM aI aI aI aI at A2 r8 rm;refine W3 m0 m1 m2 ?_;intro bi hbi;have ni:=A2.ne hbi;have n8i:=af hbi r8;have nmi:=af hbi rm;have A3:=A2.put (o:=.iter (some bm) 3 [] 3) hbi;refine W0 ?_;have hA3:PAt h0 (hadd (hadd (hadd h b8 (.cells Z4 false)) bm (.map qM 3)) bi (.iter (some bm) 3 [] 3)) p tb T s:=A3;have r8:hadd (hadd (hadd h b8 (.cells Z4 false)) bm (.map qM 3)) bi (.iter (some bm) 3 [] 3) b8=some (.cells Z4 false):=(ae n8i).trans r8;have rm:hadd (hadd (hadd h b8 (.cells Z4 false)) bm (.map qM 3)) bi (.iter (some bm) 3 [] 3) bm=some (.map qM 3):=(ae nmi).trans rm;refine E.cut AC.mono (fun ex a' h'=>(ex=.exit 0∧a'.d=[]∧a'.t 0=.ptr p 0∧a'.t 2=.ptr b8 0∧PAt h0 h' p tb T s∧h' b8=some (.cells Z4 false)∧s.isAt T [[33]]=false∧s.isAt T [[45]]=false∧s.isAt T [[43]]=false)∨(ex=.ret∧EX (AC pg) [Res.cell 2 4 true] Q ex a' h')) ?_ ?_
 ·refine E.loopX AC.mono (fun(x:Ents × Ents) a' h'=>Half qM 3 (x.1.map fun e=>e.2.2) x.1 x.2∧(∀e∈x.1,∀k,e.1=.str k→s.isAt T [k]=false)∧PAt h0 h' p tb T s∧h' b8=some (.cells Z4 false)∧h' bm=some (.map qM 3)∧h' bi=some (.iter (some bm) 3 (x.1.map fun e=>e.2.2) 3)∧a'.d=[]∧a'.t 0=.ptr p 0∧a'.t 2=.ptr b8 0∧a'.t 7=.ptr bi 0) (fun x=>x.2.length) ([],qM) ?_ ?_
  ·exact⟨Half.start (by decide) (by decide),fun e he=>by simp at he,hA3,r8,rm,ah,rfl,rfl,rfl,rfl⟩
  ·rintro⟨done,rest⟩ ⟨t,ds⟩ h3 ⟨H,hno,A4,r8,rm,ri,hd,t0,t2,t7⟩;simp only at H hno A4 r8 rm ri hd t0 t2 t7;subst hd;simp only;refine W5 t0 t2 t7 ri rm ?_;refine wJ H (fun hr=>?_) (fun e r1 r2 hr he H'=>?_)
   ·have hp:=H.perm;rw[hr,List.append_nil]at hp;have all:∀e∈qM,∀k,e.1=.str k→s.isAt T [k]=false:=fun e he=>hno e (hp.mem_iff.2 he);refine W3 t0 t2 t7 ?_;exact .inl ⟨A4,r8,all _ (List.mem_cons_self ..) _ rfl,all _ (List.mem_cons_of_mem _ (List.mem_cons_self ..)) _ rfl,all _ (List.mem_cons_of_mem _ (List.mem_cons_of_mem _ (List.mem_cons_self ..))) _ rfl⟩
   ·obtain⟨x,op,i,hmem,rfl⟩:∃x op i,(x,op)∈[([33],[110,111,116]),([45],[110,101,103]),([43],[112,108,117,115])]∧e=(.str x,.str op,i):=by
     simp only[qM,aI,List.mem_cons,List.not_mem_nil,or_false]at he;rcases he with rfl|rfl|rfl
     ·exact⟨_,_,_,by simp,rfl⟩
     ·exact⟨_,_,_,by simp,rfl⟩
     ·exact⟨_,_,_,by simp,rfl⟩
    have hfb:=rD (es:=qM) (by decide) he;simp only at hfb;have A5:PAt h0 (hadd h3 bi (.iter (some bm) 3 (done.map (fun e=>e.2.2)++[i]) 3)) p tb T s:=A4.over (A2.new hbi) (Ne.symm ni);have r8':hadd h3 bi (.iter (some bm) 3 (done.map (fun e=>e.2.2)++[i]) 3) b8=_:=(ae n8i).trans r8;have rm':hadd h3 bi (.iter (some bm) 3 (done.map (fun e=>e.2.2)++[i]) 3) bm=_:=(ae nmi).trans rm;have ri':hadd h3 bi (.iter (some bm) 3 (done.map (fun e=>e.2.2)++[i]) 3) bi=_:=ah;refine W5 t0 t2 t7 hfb rm ?_;refine aO A5.re x fun h4 A6=>?_;have A6':=A5.back A6;have r8:=A6.keep (Ne.symm n8) r8';have rm:=A6.keep (Ne.symm nm) rm';have ri:=A6.keep (Ne.symm ni) ri';cases e:s.isAt T [x]
    ·simp only[e,if_false,Bool.false_eq_true]at A6';refine W3 t0 t2 t7 ?_;refine⟨(done++[(.str x,.str op,i)],r1++r2),by rw[hr];simp,by rw[List.map_append];exact H',fun e' he' k hk=>?_,A6',r8,rm,by rw[List.map_append];exact ri⟩;rcases List.mem_append.1 he' with d|d
     ·exact hno e' d k hk
     ·simp only[List.mem_singleton]at d;subst d;simp only[V.str.injEq]at hk;subst hk;exact e
    ·simp only[e,if_true]at A6';obtain⟨m,rfl,L⟩:=low s hs hl (iF e);rw[Jo hmem e]at hq;obtain⟨d1,d2,d3,d4,d5⟩:=dZ W f1.ok;have ld:=lvl.down W f1.ok (hl.fwd f1);have dl:=hl.2;have df:=f1.deep;refine W3 t0 t2 t7 ?_;refine ve A6'.re (by omega) fun h5 A7=>?_;have A8:=A6'.back A7;have r8':=A7.keep (Ne.symm n8) r8;refine W3 t0 t2 t7 ?_;refine L.run _ _ _ _ _ _ A8.re d1 ld fun h6 v A9 k9=>?_;have g:=L.fwd _ d1 ld;generalize U ((s.step T).down T)=y at hq A9 k9 g;have A9':=A8.back A9;obtain⟨kv,rfl,kb⟩:=k9.inv;have kf:=kb.flat;have r8x:=A9.keep (Ne.symm n8) r8';have kg:KidsV (hadd h0 b8 (.cells Z4 false)) h6 p y.1.kids kv:=KidsV.move (fun x o z nx hx=>⟨by
      rw[show hset h5 p none x=h5 x from if_neg nx]at z;rw[ae (af z r8').symm];exact A8.new z,hx⟩) kb
     refine W3 kf t0 t2 ?_;intro bs hbs;have n8s:=af hbs r8x;refine W3 kf t0 t2 ?_;refine aS op (l:=[]) rfl ?_;have kr:=oh A9' r8x hbs kg;have A10:=A9'.put (o:=.cells (nodeC y.1 kv) false) hbs;refine W4 r8x n8s t0 t2 ?_;have A11:=A10.over (o:=.cells (nodeC (nodeM op [y.1]) (.sl bs 0 4 1)) false) z8 (Ne.symm n8);have kn:NodeV h0 (hadd (hadd h6 bs (.cells (nodeC y.1 kv) false)) b8 (.cells (nodeC (nodeM op [y.1]) (.sl bs 0 4 1)) false)) p (nodeM op [y.1]) (.agg (nodeC (nodeM op [y.1]) (.sl bs 0 4 1))):=
      NodeV.of (KidsV.move (fun y o z nx hx=>⟨(ax z).2,by rw[ae (ax z).1];exact hx⟩) kr)
     refine .inr (Et A11.re (by rw[g.deep,d3];omega) fun h8 A12=>?_);have c8:=A12.keep (Ne.symm n8) ah;refine W2 c8 t2 ?_;exact⟨_,Sub.refl,hq _ _ (A11.back A12) (kn.keep A12)⟩
 ·rintro ex ⟨t,ds⟩ h3 (⟨rfl,hd,t0,t2,A4,r8,e1,e2,e3⟩|⟨rfl,q⟩)
  ·simp only at hd t0 t2;subst hd;have em:unaryM T U P s=P s:=by unfold unaryM;simp only[e1,e2,e3,if_false,Bool.false_eq_true]
   rw[em]at hq;refine W2 t0 t2 ?_;refine C.run _ _ _ _ _ _ A4.re hs hl fun h5 v A5 k5=>?_;obtain⟨kv,rfl,kb⟩:=k5.inv;obtain⟨A6,k6⟩:=jI A4 A5 r8 (Ne.symm n8) z8 k5 (.cells (nodeC (P s).1 kv) false);have kf:=kb.flat;have r8':=A5.keep (Ne.symm n8) r8;refine W3 r8' kf t2 ?_;exact⟨_,Sub.refl,hq _ _ A6 k6⟩
  ·rw[tq]at q;refine W0 ?_;exact q
end
section
open Mir
variable{h:H}{Q:V→H→Prop}{h0 h1 h':H}{p tb:Nat}{T:List Tokn}{s s':PS}{N n c m:Nat}
def exprStep(T:List Tokn)(E:PF)(x:Tree × PS):Tree × PS:=
 if x.2.isAt T [[63]]=true then
  let a:=E ((x.2.step T).lines T)
  let b:=E ((((a.2.lines T).expect T [58])).lines T)
  (nodeM [99,111,110,100] [x.1,a.1,b.1],b.2)
 else if x.1.isPlace=true∧(x.2.cur T).k=8∧(x.2.cur T).t∈assignOps then
  let a:=E ((x.2.step T).lines T)
  (.nd [97,115,115,105,103,110] (x.2.cur T).t 0 [x.1,a.1],a.2)
 else x
theorem jD(E U:PF)(s:PS):ny T E U s=((exprStep T E (orM T U (s.down T))).1,(exprStep T E (orM T U (s.down T))).2.up):=by
 unfold ny exprStep;dsimp only;split
 ·rfl
 ·split<;>rfl
theorem ru(W:TkOk T N){E:PF}{x:Tree × PS}(low:x.2.err=0→∀s,SOk T N s→lvl m c s→Fwd T N s (E s).2)(hs:SOk T N x.2)(hl:lvl m c x.2):Fwd T N x.2 (exprStep T E x).2:=by
 unfold exprStep;dsimp only;have f1:=ak W hs;have f2:=f1.trans (aA W f1.ok);split
 ·rename_i e;have L:=low (iF e);have f3:=f2.trans (L _ f2.ok (hl.fwd f2));have f4:=f3.trans (aA W f3.ok);have f5:=f4.trans (ay W f4.ok [58]);have f6:=f5.trans (aA W f5.ok);exact f6.trans (L _ f6.ok (hl.fwd f6))
 split
 ·rename_i e;have L:=low (iM (T:=T) (by omega));exact f2.trans (L _ f2.ok (hl.fwd f2))
 ·exact Fwd.refl hs
theorem Di(W:TkOk T N)(hc:c<900){E U:PF}(hd:∀s,SOk T N s→lvl n c s→lvl m (c+1) (s.down T))(CO:FC T N m (c+1) 73 (orM T U))
  (low:∀s,SOk T N s→lvl n c s→s.err=0→FC T N m (c+1) 46 E):FC T N n c 46 (ny T E U):=by
 have FA:∀s,SOk T N s→lvl n c s→Fwd T N s (ny T E U s).2∧Adv s (ny T E U s).2:=fun s hs hl=>by
  rw[jD];obtain⟨d1,d2,d3,d4,d5⟩:=dZ W hs;have l1:=hd s hs hl;have g1:=CO.fwd _ d1 l1;have g2:=ru W (E:=E) (x:=orM T U (s.down T)) (fun e=>(low s hs hl (d5 (g1.err e))).fwd) g1.ok (l1.fwd g1);exact⟨BQ W hs (g1.trans g2),Oh W hs (g1.trans g2) ((CO.adv _ d1 l1).left g2)⟩
 refine⟨fun h0 h p tb s Q A hs hl hq=>?_,fun s hs hl=>(FA s hs hl).1,fun s hs hl=>(FA s hs hl).2⟩;rw[jD]at hq;obtain⟨d1,d2,d3,d4,d5⟩:=dZ W hs;have l1:=hd s hs hl;have g1:=CO.fwd _ d1 l1;have L:=fun e=>low s hs hl (d5 (g1.err e));have g2:=ru W (E:=E) (x:=orM T U (s.down T)) (fun e=>(L e).fwd) g1.ok (l1.fwd g1);have dl:=hl.2;refine AC.fn' (g:=g46) rfl (by simp only[List.length_cons,List.length_nil,g46];decide) ?_;simp only[g46,Mir.Ab.all];refine W0 ?_;intro b8 hb8;have A1:=A.put (o:=.cells Z4 false) hb8;have n8:=A.ne hb8;have z8:=A.new hb8;refine W0 ?_;refine ve A1.re (by omega) fun h2 A2=>?_;have A3:=A1.back A2;have r8:=A2.keep (Ne.symm n8) (b:=b8) (o:=.cells Z4 false) ah;refine W0 ?_;refine CO.run _ _ _ _ _ _ A3.re d1 l1 fun h3 v A4 k4=>?_;generalize orM T U (s.down T)=x at hq A4 k4 g1 g2 L;obtain⟨m1,r⟩:=x;simp only at hq A4 k4 g1 g2 L;have lr:=l1.fwd g1;obtain⟨kv,rfl,kb⟩:=k4.inv;have kf:=kb.flat;have A4':=A3.back A4;have bk:∀{h5 h6:H} {s5:PS} {l:List Tree} {v:V},PAt h0 h5 p tb T s5→h5 b8=some (.cells Z4 false)→KidsV (hset h5 p none) h6 p l v→KidsV (hadd h0 b8 (.cells Z4 false)) h6 p l v:=fun {h5 h6 s5 l v} B hb k =>
  KidsV.move (fun x o z nx hx=>⟨by
   rw[show hset h5 p none x=h5 x from if_neg nx]at z;rw[ae (af z hb).symm];exact B.new z,hx⟩) k
 have kg:=bk A3 r8 kb;have r8:=A4.keep (Ne.symm n8) r8;refine W1 kf ?_;intro b9 hb9;have n89:=af hb9 r8;have n9:=A4'.ne hb9;have A5:=A4'.put (o:=.cells (nodeC m1 kv) false) hb9;have r8':hadd h3 b9 (.cells (nodeC m1 kv) false) b8=_:=(ae n89).trans r8;have kg':=kg.put (o:=.cells (nodeC m1 kv) false) hb9;have r9:hadd h3 b9 (.cells (nodeC m1 kv) false) b9=_:=ah;refine W1 kf ?_;generalize hadd h3 b9 _=h4 at A5 r8' kg' r9⊢;have fin:∀(h7:H) (m:Tree) (s7:PS) (kv:V),PAt h0 h7 p tb T s7→1≤s7.deep→KidsV (hadd h0 b8 (.cells Z4 false)) h7 p m.kids kv→(∀h' v,PAt h0 h' p tb T s7.up→NodeV h0 h' p m v→Q v h') →
   ∀(Q':V→H→Prop),(∀h8 x,h8 b8=some (.cells (nodeC m kv) false)→Q (.agg (nodeC m kv)) h8→Q' x h8)→AC pg (.fn 72) [.ptr p 0] (hadd h7 b8 (.cells (nodeC m kv) false)) Q':=fun h7 m s7 kv B hd k hq' Q' hQ=>by
  have A11:=B.over (o:=.cells (nodeC m kv) false) z8 (Ne.symm n8);have kn:NodeV h0 (hadd h7 b8 (.cells (nodeC m kv) false)) p m (.agg (nodeC m kv)):=
   NodeV.of (KidsV.move (fun y o z nx hx=>⟨(ax z).2,by rw[ae (ax z).1];exact hx⟩) k)
  exact Et A11.re hd fun h8 A12=>hQ _ _ (A12.keep (Ne.symm n8) ah) (hq' _ _ (A11.back A12) (kn.keep A12))
 refine aO A5.re [63] fun h5 A6=>?_;have A6':=A5.back A6;have s8:=A6.keep (Ne.symm n8) r8';have s9:=A6.keep (Ne.symm n9) r9;have kg6:=kg'.keep A6;unfold exprStep at hq g2;dsimp only at hq g2;cases ea:r.isAt T [[63]]
 case true =>
  simp only[ea,if_true]at hq g2 A6';have L:=L (iF ea);have f1:=ak W g1.ok;have f2:=f1.trans (aA W f1.ok);refine W0 ?_;refine bI A6'.re W.last fun h6 A7=>?_;have A7':=A6'.back A7;have s8:=A7.keep (Ne.symm n8) s8;have s9:=A7.keep (Ne.symm n9) s9;have kg7:=kg6.keep A7;refine W0 ?_;refine L.run _ _ _ _ _ _ A7'.re f2.ok (lr.fwd f2) fun h7 v A8 k8=>?_;have f3:=f2.trans (L.fwd _ f2.ok (lr.fwd f2));generalize E ((r.step T).lines T)=a at hq g2 A8 k8 f3;obtain⟨m2,r2⟩:=a;simp only at hq g2 A8 k8 f3;obtain⟨kv2,rfl,kb2⟩:=k8.inv;have kf2:=kb2.flat;have A8':=A7'.back A8;have kh:=bk A7' s8 kb2;have s8:=A8.keep (Ne.symm n8) s8;have s9:=A8.keep (Ne.symm n9) s9;have kg8:=kg7.keep A8;refine W1 kf2 ?_;intro b10 hb10;have n10:=A8'.ne hb10;have n810:=af hb10 s8;have n910:=af hb10 s9;have A9:=A8'.put (o:=.cells (nodeC m2 kv2) false) hb10;have u8:hadd h7 b10 (.cells (nodeC m2 kv2) false) b8=_:=(ae n810).trans s8;have u9:hadd h7 b10 (.cells (nodeC m2 kv2) false) b9=_:=(ae n910).trans s9;have u10:hadd h7 b10 (.cells (nodeC m2 kv2) false) b10=_:=ah;have kg9:=kg8.put (o:=.cells (nodeC m2 kv2) false) hb10;have kh9:=kh.put (o:=.cells (nodeC m2 kv2) false) hb10;refine W1 kf2 ?_;generalize hadd h7 b10 _=h8 at A9 u8 u9 u10 kg9 kh9⊢;refine bI A9.re W.last fun h9 A10=>?_;have A10':=A9.back A10;have f4:=f3.trans (aA W f3.ok);refine W0 ?_;refine bT A10'.re [58] fun h10 A11=>?_;have A11':=A10'.back A11;have f5:=f4.trans (ay W f4.ok [58]);refine W0 ?_;refine bI A11'.re W.last fun h11 A12=>?_;have A12':=A11'.back A12;have f6:=f5.trans (aA W f5.ok);have u8:=A12.keep (Ne.symm n8) (A11.keep (Ne.symm n8) (A10.keep (Ne.symm n8) u8));have u9:=A12.keep (Ne.symm n9) (A11.keep (Ne.symm n9) (A10.keep (Ne.symm n9) u9));have u10:=A12.keep (Ne.symm n10) (A11.keep (Ne.symm n10) (A10.keep (Ne.symm n10) u10));have kg12:=((kg9.keep A10).keep A11).keep A12;have kh12:=((kh9.keep A10).keep A11).keep A12;refine W4 u9 u10 kf kf2 ?_;refine L.run _ _ _ _ _ _ A12'.re f6.ok (lr.fwd f6) fun h12 v A13 k13=>?_;have f7:=f6.trans (L.fwd _ f6.ok (lr.fwd f6));generalize E ((((r2.lines T).expect T [58])).lines T)=bb at hq g2 A13 k13 f7;obtain⟨m3,r3⟩:=bb;simp only at hq g2 A13 k13 f7;obtain⟨kv3,rfl,kb3⟩:=k13.inv;have kf3:=kb3.flat;have A13':=A12'.back A13;have ki:=bk A12' u8 kb3;have u8:=A13.keep (Ne.symm n8) u8;have u9:=A13.keep (Ne.symm n9) u9;have u10:=A13.keep (Ne.symm n10) u10;have kg13:=kg12.keep A13;have kh13:=kh12.keep A13;refine W5 u9 u10 kf kf2 kf3 ?_;intro bs hbs;have n8s:=af hbs u8;have n9s:=af hbs u9;have n10s:=af hbs u10;refine W5 u9 u10 kf kf2 kf3 ?_;refine aS [99,111,110,100] (l:=[]) rfl ?_;have A14:=A13'.put (o:=.cells (nodeC m1 kv++(nodeC m2 kv2++nodeC m3 kv3)) false) hbs;have kr:KidsV (hadd h0 b8 (.cells Z4 false)) (hadd h12 bs (.cells (nodeC m1 kv++(nodeC m2 kv2++nodeC m3 kv3)) false)) p [m1,m2,m3] (.sl bs 0 4 3):=
   .sl (by simp) (by rw[ae (af hbs u8).symm];exact A13'.new hbs) (Ne.symm (A13'.ne hbs)) ah ((CellsV.one (NodeV.of (kg13.put hbs))).app ((CellsV.one (NodeV.of (kh13.put hbs))).app (CellsV.one (NodeV.of (ki.put hbs)))))
  refine W3 u8 u9 u10 ?_;refine fin _ (nodeM [99,111,110,100] [m1,m2,m3]) r3 _ A14 (by rw[f7.deep,g1.deep,d3];omega) kr hq _ fun h8 x e q=>?_;refine W1 e ?_;exact⟨_,Sub.refl,q⟩
 simp only[ea,if_false,Bool.false_eq_true]at hq g2 A6';refine W0 ?_;refine dL A6' ?_;obtain⟨tt,ht⟩:∃tt,tt=r.cur T:=⟨_,rfl⟩;rw[← ht]at hq g2⊢;rw[jd];refine W0 ?_;intro b5 hb5;have n5:=A6'.ne hb5;have n85:=af hb5 s8;have n95:=af hb5 s9;have A7:=A6'.put (o:=.cells (bC tt) false) hb5;have u8:hadd h5 b5 (.cells (bC tt) false) b8=_:=(ae n85).trans s8;have u9:hadd h5 b5 (.cells (bC tt) false) b9=_:=(ae n95).trans s9;have u5:hadd h5 b5 (.cells (bC tt) false) b5=_:=ah;have kg7:=kg6.put (o:=.cells (bC tt) false) hb5;unfold bC at A7 u8 u9 u5 kg7;refine W2 s9 kf ?_;generalize hadd h5 b5 _=h6 at A7 u8 u9 u5 kg7⊢;refine pq kf ?_;have plain:(if m1.isPlace=true∧tt.k=8∧tt.t∈assignOps then((.nd [97,115,115,105,103,110] tt.t 0 [m1,(E ((r.step T).lines T)).1],(E ((r.step T).lines T)).2):Tree × PS)else(m1,r))=(m1,r) →
   ∀(h7:H),PAt h0 h7 p tb T r→KidsV (hadd h0 b8 (.cells Z4 false)) h7 p m1.kids kv→∀(Q':V→H→Prop),(∀h8 x,h8 b8=some (.cells (nodeC m1 kv) false)→Q (.agg (nodeC m1 kv)) h8→Q' x h8)→AC pg (.fn 72) [.ptr p 0] (hadd h7 b8 (.cells (nodeC m1 kv) false)) Q':=fun e h7 B k Q' hQ=>by
  rw[e]at hq;exact fin _ m1 r _ B (by rw[g1.deep,d3];omega) k hq Q' hQ
 cases ep:m1.isPlace
 ·have e:=plain (by rw[if_neg (by simp[ep])]);refine W3 u8 u9 kf ?_;refine e _ A7 kg7 _ fun h8 x e q=>?_;refine W1 e ?_;exact⟨_,Sub.refl,q⟩
 by_cases k8:tt.k=8
 ·refine W1 u5 ?_;intro b6 hb6;have n86:=af hb6 u8;have n96:=af hb6 u9;have n56:=af hb6 u5;have A8:=A7.put (o:=.cells (assignOps.map V.str) false) hb6;have v8:hadd h6 b6 (.cells (assignOps.map V.str) false) b8=_:=(ae n86).trans u8;have v9:hadd h6 b6 (.cells (assignOps.map V.str) false) b9=_:=(ae n96).trans u9;have v5:hadd h6 b6 (.cells (assignOps.map V.str) false) b5=_:=(ae n56).trans u5;have kg8:=kg7.put (o:=.cells (assignOps.map V.str) false) hb6;refine W1 u5 ?_;refine bU (ss:=assignOps) (ro:=false) ah (by decide) _ ?_
  by_cases ka:tt.t∈assignOps
  ·rw[if_pos ⟨ep,k8,ka⟩]at hq g2;have L:=L (iM (T:=T) (by rw[← ht];omega));have f1:=ak W g1.ok;have f2:=f1.trans (aA W f1.ok);simp only[ka,decide_true];refine W0 ?_;refine aZ A8.re fun h9 A9=>?_;have A9':=A8.back A9;refine W0 ?_;refine bI A9'.re W.last fun h10 A10=>?_;have A10':=A9'.back A10;have v8:=A10.keep (Ne.symm n8) (A9.keep (Ne.symm n8) v8);have v9:=A10.keep (Ne.symm n9) (A9.keep (Ne.symm n9) v9);have v5:=A10.keep (Ne.symm n5) (A9.keep (Ne.symm n5) v5);have kg10:=(kg8.keep A9).keep A10;refine W3 v9 v5 kf ?_;refine L.run _ _ _ _ _ _ A10'.re f2.ok (lr.fwd f2) fun h11 v A11 k11=>?_;have f3:=f2.trans (L.fwd _ f2.ok (lr.fwd f2));generalize E ((r.step T).lines T)=a at hq g2 A11 k11 f3 plain;obtain⟨m2,r2⟩:=a;simp only at hq g2 A11 k11 f3;obtain⟨kv2,rfl,kb2⟩:=k11.inv;have kf2:=kb2.flat;have A11':=A10'.back A11;have kh:=bk A10' v8 kb2;have v8:=A11.keep (Ne.symm n8) v8;have v9:=A11.keep (Ne.symm n9) v9;have v5:=A11.keep (Ne.symm n5) v5;have kg11:=kg10.keep A11;refine W4 v9 v5 kf kf2 ?_;intro bs hbs;have n8s:=af hbs v8;have n9s:=af hbs v9;have n5s:=af hbs v5;have A12:=A11'.put (o:=.cells (nodeC m1 kv++nodeC m2 kv2) false) hbs;have kr:KidsV (hadd h0 b8 (.cells Z4 false)) (hadd h11 bs (.cells (nodeC m1 kv++nodeC m2 kv2) false)) p [m1,m2] (.sl bs 0 4 2):=
    .sl (by simp) (by rw[ae (af hbs v8).symm];exact A11'.new hbs) (Ne.symm (A11'.ne hbs)) ah ((CellsV.one (NodeV.of (kg11.put hbs))).app (CellsV.one (NodeV.of (kh.put hbs))))
   refine W5 v8 v9 v5 kf kf2 ?_;refine fin _ (.nd [97,115,115,105,103,110] tt.t 0 [m1,m2]) r2 _ A12 (by rw[f3.deep,g1.deep,d3];omega) kr hq _ fun h8 x e q=>?_;refine W1 e ?_;exact⟨_,Sub.refl,q⟩
  ·have e:=plain (by rw[if_neg (by simp[ka])]);simp only[ka,decide_false];refine W3 v8 v9 kf ?_;refine e _ A8 kg8 _ fun h8 x e q=>?_;refine W1 e ?_;exact⟨_,Sub.refl,q⟩
 ·have e:=plain (by rw[if_neg (by simp[k8])]);refine W4 u8 u9 u5 kf ?_;refine e _ A7 kg7 _ fun h8 x e q=>?_;refine W1 e ?_;exact⟨_,Sub.refl,q⟩
end
section
open Mir
variable{h:H}{Q:V→H→Prop}{h0 h1 h':H}{p tb:Nat}{T:List Tokn}{s s':PS}{N n c m:Nat}
theorem QL(W:TkOk T N){U:PF}(C:FC T N n c 126 U):FC T N n c 73 (orM T U):=
 UB W (Q3 W (Uw W (MJ W (TE W (JU W (Ju W (MN W C)))))))
theorem JV(W:TkOk T N){U:PF}(C:FC T N n c 126 U):FC T N n c 106 (aX T U):=JU W (Ju W (MN W C))
theorem FC.congr{f:Nat}{M M':PF}(C:FC T N n c f M)(e:∀s,SOk T N s→lvl n c s→M s=M' s):FC T N n c f M' :=
 ⟨fun h0 h p tb s Q A hs hl hq=>C.run h0 h p tb s Q A hs hl (by rw[e s hs hl];exact hq),fun s hs hl=>by rw[← e s hs hl];exact C.fwd s hs hl,fun s hs hl=>by rw[← e s hs hl];exact C.adv s hs hl⟩
def dX:PF:=fun s=>(.zero,s)
theorem wX(hs:SOk T N s)(hl:lvl 0 c s):s.err≠0:=fun e=>by have:=hl.1 e;have:=hs.low e;omega
theorem qP(h:s.err≠0)(l:List Txt):s.isAt T l=false:=by unfold PS.isAt;rw[iD h];rfl
theorem QN:FC T N 0 c 128 dX:=by
 refine⟨fun h0 h p tb s Q A hs hl hq=>?_,fun s hs hl=>Fwd.refl hs,fun s hs hl e=>absurd e (wX hs hl)⟩;have ne:=wX hs hl;refine AC.fn' (g:=Dq) rfl (by simp only[List.length_cons,List.length_nil,Dq];decide) ?_;simp only[Dq,Mir.Ab.all];refine W0 ?_;intro b8 hb8;have A1:=A.put (o:=.cells Z4 false) hb8;have n8:=A.ne hb8;have z8:=A.new hb8;refine W0 ?_;refine dL A1 ?_;rw[iD ne];unfold bC tkz;refine W0 ?_;intro b3 hb3;have n83:b8≠b3:=fun e=>by rw[← e]at hb3;simp[hadd,hset]at hb3
 have A3:=A1.put (o:=.cells [.int .i64 0,.str [],.int .i64 0] false) hb3;have r8:hadd (hadd h b8 (.cells Z4 false)) b3 (.cells [.int .i64 0,.str [],.int .i64 0] false) b8=some (.cells Z4 false):=by rw[ae n83];exact ah
 refine W0 ?_;refine aO A3.re [40] fun h4 A5=>?_;simp only[qP ne,if_false,Bool.false_eq_true]at A5⊢;have A5':=A3.back A5;have r8:=A5.keep (Ne.symm n8) r8;refine W0 ?_;refine aO A5'.re [36] fun h4 A6=>?_;simp only[qP ne,if_false,Bool.false_eq_true]at A6⊢;have A6':=A5'.back A6;have r8:=A6.keep (Ne.symm n8) r8;refine W0 ?_;refine gX A6'.re fun h5 A7=>?_;rw[show s.fail T=s from if_pos ne]at A7;have r8:=A7.keep (Ne.symm n8) r8;refine W1 r8 ?_;exact⟨_,Sub.refl,hq _ _ ((A6'.back A7).over z8 (Ne.symm n8)) (.mk .nil)⟩
theorem qV(h:s.err≠0){M:PF}(hM:M s=(.zero,s))(ln:Bool)(ops:List (Txt × Txt)):dO T M ln ops s=(.zero,s):=by
 unfold dO;rw[hM];simp only[chainN,iD h];rfl
theorem Vj(h:s.err≠0):orM T dX s=(.zero,s):=by
 have c0:aX T dX s=(.zero,s):=by
  have a:gI T dX s=(.zero,s):=qV h (qV h rfl _ _) _ _;unfold aX;rw[a];simp only[catN,iD h,qP h,tkz];rfl
 have r0:uY T dX s=(.zero,s):=by
  unfold uY;rw[c0];simp only[iD h,tkz];rfl
 have i0:inM T dX s=(.zero,s):=by
  unfold inM;rw[show fB T dX s=(.zero,s)from qV h r0 _ _];simp only[inN,qP h];rfl
 exact qV h (qV h i0 _ _) _ _
theorem QM(W:TkOk T N):FC T N 0 c 127 dX:=(G7 W QN).congr fun s hs hl=>by
 unfold postM dX;simp only[qP (wX hs hl)];rfl
theorem Gi(W:TkOk T N)(hc:c<900):FC T N 0 c 126 dX:=
 (zM W hc (U:=dX) (fun s hs hl e=>absurd e (wX hs hl)) (QM W)).congr fun s hs hl=>by
  unfold unaryM;simp only[qP (wX hs hl)];rfl
theorem QF(W:TkOk T N)(hc:c<800):FC T N 0 c 46 dX:=
 (Di W (by omega) (m:=0) (E:=dX) (U:=dX) (fun s hs hl=>by
  obtain⟨d1,d2,d3,d4,d5⟩:=dZ W hs;exact⟨fun e=>absurd (d5 e) (wX hs hl),by have:=hl.2;omega⟩) (QL W (Gi W (by omega))) (fun s hs hl e=>absurd e (wX hs hl))).congr fun s hs hl=>by
  have ne:=wX hs hl;obtain⟨d1,d2,d3,d4,d5⟩:=dZ W hs;have nd:(s.down T).err≠0:=fun e=>ne (d5 e);have e:exprStep T dX (.zero,s.down T)=(.zero,s.down T):=by
   unfold exprStep;rw[if_neg (by rw[qP nd];decide),if_neg (fun h=>absurd h.1 (show ¬Tree.zero.isPlace=true by decide))]
  have hu:(s.down T).up=s:=by
   unfold PS.down;rw[if_neg (by simp[ne])];rfl
  rw[jD,Vj nd,e]
  show(Tree.zero,(s.down T).up)=(Tree.zero,s)
  rw[hu]
structure Good(T:List Tokn)(N n c:Nat):Prop where
 expr:FC T N n c 46 (lev T n).expr
 unary:FC T N n c 126 (lev T n).unary
 post:FC T N n c 127 (lev T n).post
 prim:FC T N n c 128 (lev T n).prim
theorem nR:(lev T (n+1)).expr=ny T (lev T n).expr (lev T n).unary:=by rw[lev]
theorem nT:(lev T (n+1)).prim=primM T (lev T (n+1)).expr (lev T n).post (lev T n).prim:=by rw[lev]
theorem nS:(lev T (n+1)).post=postM T (lev T (n+1)).prim:=by rw[lev]
theorem kJ:(lev T (n+1)).unary=unaryM T (lev T n).unary (lev T (n+1)).post:=by rw[lev]
theorem UA:lev T 0=⟨dX,dX,dX,dX⟩:=by rw[lev];rfl
theorem good(W:TkOk T N):∀n c,c+n<800→Good T N n c:=by
 intro n;induction n with
 |zero =>
   intro c hc;refine⟨?_,?_,?_,?_⟩
   all_goals rw[UA]
   ·exact QF W (by omega)
   ·exact Gi W (by omega)
   ·exact QM W
   ·exact QN
 |succ n ih =>
   intro c hc;have G:=ih (c+1) (by omega);have X:FC T N (n+1) c 46 (lev T (n+1)).expr:=by
    rw[nR];exact Di W (by omega) (fun s hs hl=>lvl.down W hs hl) (QL W G.unary) fun _ _ _ _=>G.expr
   have R:FC T N (n+1) c 128 (lev T (n+1)).prim:=by
    rw[nT];exact Qe W (by omega) X G.post G.prim
   have P:FC T N (n+1) c 127 (lev T (n+1)).post:=by
    rw[nS];exact G7 W R
   have V:FC T N (n+1) c 126 (lev T (n+1)).unary:=by
    rw[kJ];exact zM W (by omega) (fun _ _ _ _=>⟨n,rfl,G.unary⟩) P
   exact⟨X,V,P,R⟩
end
section
open Mir
variable{h:H}{Q:V→H→Prop}{h0 h1 h':H}{p tb:Nat}{T:List Tokn}{s s':PS}{N n c m:Nat}
theorem BC(A:PAt h0 h p tb T s)(hq:Q (.bool (s.over T)) h):AC pg (.fn 97) [.ptr p 0] h Q:=by
 unfold PS.over at hq;refine AC.fn' (g:=g97) rfl (by simp only[List.length_cons,List.length_nil,g97];decide) ?_;simp only[g97,Mir.Ab.all];refine W0 ?_;intro b1 hb1;have A1:=A.put (o:=.cells [.str [59],.str [125],.str [41]] false) hb1;refine W0 ?_;refine gu (ss:=[[59],[125],[41]]) A1 ah (by decide) ?_;cases e:s.isAt T [[59],[125],[41]]
 ·rw[e]at hq;refine W0 ?_;refine dL A1 ?_;rw[jd]
  by_cases k1:(s.cur T).k=1
  ·simp only[k1,decide_true,Bool.false_or,Bool.true_or]at hq;refine W0 ?_;exact⟨h,(fun x o hx=>by repeat (first|exact hx|rw[ae (af hb1 hx)])),hq⟩
  ·simp only[k1,decide_false,Bool.false_or]at hq;refine W0 ?_;refine dL A1 ?_;rw[jd];refine W0 ?_;refine⟨h,(fun x o hx=>by repeat (first|exact hx|rw[ae (af hb1 hx)])),?_⟩
   by_cases k0:(s.cur T).k=0
   ·simpa[k0]using hq
   ·simpa[k0]using hq
 ·rw[e]at hq;refine W0 ?_;exact⟨h,(fun x o hx=>by repeat (first|exact hx|rw[ae (af hb1 hx)])),hq⟩
theorem Gv(W:TkOk T N)(hs:SOk T N s):Fwd T N s (s.fin T):=by
 unfold PS.fin;split
 ·exact ak W hs
 split
 ·exact Fwd.refl hs
 split
 ·exact ak W hs
 ·exact dR W hs
theorem Rn(A:PAt h0 h p tb T s)(hq:∀h',PAt h0 h' p tb T (s.fin T)→Q (.tup []) h'):AC pg (.fn 88) [.ptr p 0] h Q:=by
 unfold PS.fin at hq;refine AC.fn' (g:=g88) rfl (by simp only[List.length_cons,List.length_nil,g88];decide) ?_;simp only[g88,Mir.Ab.all];refine W0 ?_;refine aO A [59] fun h1 A1=>?_;cases e:s.isAt T [[59]]
 ·simp only[e,if_false,Bool.false_eq_true]at A1 hq;refine W0 ?_;intro b1 hb1;have A2:=A1.put (o:=.cells [.str [125]] false) hb1;refine W0 ?_;refine gu (ss:=[[125]]) A2 ah (by decide) ?_;cases e2:s.isAt T [[125]]
  ·simp only[e2,if_false,Bool.false_eq_true]at hq;refine W0 ?_;refine dL A2 ?_;rw[jd]
   by_cases k1:(s.cur T).k=1
   ·rw[if_pos k1]at hq;refine W0 ?_;refine aZ A2 fun h3 A3=>?_;refine W0 ?_;exact⟨_,Sub.refl,hq _ A3⟩
   ·rw[if_neg k1]at hq;refine W0 ?_;refine gX A2 fun h3 A3=>?_;refine W0 ?_;exact⟨_,Sub.refl,hq _ A3⟩
  ·simp only[e2,if_true]at hq;refine W0 ?_;exact⟨_,Sub.refl,hq _ A2⟩
 ·simp only[e,if_true]at A1 hq;refine W0 ?_;exact⟨_,Sub.refl,hq _ A1⟩
theorem IG(A:PAt h0 h p tb T s)(st:∀i,(T.getD i tkz).t.length<1000000)(hq:Q (.bool (s.listed T)) h):AC pg (.fn 104) [.ptr p 0] h Q:=by
 unfold PS.listed at hq;have hp:=A.obj;unfold psC at hp;refine AC.fn' (g:=KL) rfl (by simp only[List.length_cons,List.length_nil,KL];decide) ?_;simp only[KL,Mir.Ab.all];refine W0 ?_;intro b1 hb1;have np:=A.ne hb1;have A1:=A.put (o:=.cells [.str [40]] false) hb1;refine W0 ?_;refine gu (ss:=[[40]]) A1 ah (by decide) ?_;cases e:s.isAt T [[40]]
 ·rw[e]at hq;refine W0 ?_;exact⟨h,(fun x o hx=>by repeat (first|exact hx|rw[ae (af hb1 hx)])),hq⟩
 rw[e]at hq;simp only[Bool.true_and]at hq;refine W1 hp ?_;refine E.loopX AC.mono (fun(x:Nat × Nat × Int) a' h'=>lG T x.1 x.2.1 x.2.2=lG T (T.length+1) s.i 0∧T.length<x.2.1+x.1∧x.2.1≤T.length ∧ -(x.2.1:Int)≤x.2.2∧x.2.2≤x.2.1∧PAt h0 h' p tb T s∧Sub h h'∧a'.d=[]∧a'.t 0=.ptr p 0∧a'.t 3=.int .i64 x.2.2∧a'.t 4=.int .i64 x.2.1) (fun x=>x.1) (T.length+1,s.i,0) ?_ ?_
 ·have:=A.lt;exact⟨rfl,by show T.length<s.i+(T.length+1);omega,by show s.i≤T.length;omega,by show -(s.i:Int)≤0;omega,by show(0:Int)≤s.i;omega,A1,Sub.refl.put hb1,rfl,rfl,rfl,rfl⟩
 ·rintro⟨k,i,d⟩ ⟨t,ds⟩ h2 ⟨hk,hf,hi,d1,d2,A2,s2,hd,t0,t3,t4⟩;simp only at hk hf hi d1 d2 hd t0 t3 t4;subst hd;have hp2:=A2.obj;have ht:=A2.tk;have fl:=jE T;have sm:=A2.small;unfold psC at hp2;obtain⟨k,rfl⟩:∃k',k=k'+1:=⟨k-1,by omega⟩;rw[lG]at hk
  by_cases c:T.length≤i
  ·rw[if_pos c]at hk;rw[← hk]at hq;refine W4 t0 t3 t4 hp2 ?_;exact⟨h,s2,hq⟩
  rw[if_neg c]at hk;have e:=rH T i (by omega);obtain⟨tt,htt⟩:∃tt,tt=T.getD i tkz:=⟨_,rfl⟩;rw[← htt]at e hk;dsimp only at hk;refine W8 t0 t3 t4 hp2 ht fl e jd ?_;intro b5 hb5;have n5:=A2.ne hb5;have nt5:=af hb5 ht;have A3:=A2.put (o:=.cells (bC tt) false) hb5;have s3:Sub h (hadd h2 b5 (.cells (bC tt) false)):=fun x o hx=>by rw[ae (af hb5 (s2 _ _ hx))];exact s2 _ _ hx
  obtain⟨dd,hdd⟩:∃dd,dd=if tt.k=8∧tt.t=[40]then d+1 else if tt.k=8∧tt.t=[41]then d-1 else d:=⟨_,rfl⟩
  rw[← hdd]at hk;have ddb:-((i:Int)+1)≤dd∧dd≤(i:Int)+1:=by rw[hdd];split<;>(try split)<;>omega
  have cs:(tt.k=8∧(tt.t=[40])=True∧dd=d+1)∨(tt.k=8∧(tt.t=[40])=False∧(tt.t=[41])=True∧dd=d-1)∨(tt.k=8∧(tt.t=[40])=False∧(tt.t=[41])=False∧dd=d)∨(tt.k≠8∧dd=d):=by
   by_cases c8:tt.k=8
   ·by_cases c1:tt.t=[40]
    ·exact .inl ⟨c8,eq_true c1,by rw[hdd,if_pos ⟨c8,c1⟩]⟩
    ·by_cases c2:tt.t=[41]
     ·exact .inr (.inl ⟨c8,eq_false c1,eq_true c2,by rw[hdd,if_neg (by simp[c1]),if_pos ⟨c8,c2⟩]⟩)
     ·exact .inr (.inr (.inl ⟨c8,eq_false c1,eq_false c2,by rw[hdd,if_neg (by simp[c1]),if_neg (by simp[c2])]⟩))
   ·exact .inr (.inr (.inr ⟨c8,by rw[hdd,if_neg (by simp[c8]),if_neg (by simp[c8])]⟩))
  have q1:(tt.t=[40])=(tt.t=[40]):=rfl
  by_cases dz:dd=0
  ·rw[if_pos dz]at hk;obtain⟨j,hj⟩:∃j,j=min (i+1) (T.length-1):=⟨_,rfl⟩;obtain⟨xx,hxx⟩:∃xx,xx=T.getD j tkz:=⟨_,rfl⟩;rw[← hj,← hxx]at hk;have ej:=rH T j (by omega);rw[← hxx]at ej;have hm:(min ((i:Int)+1) ((T.length:Int)-1)).toNat=j:=by omega
   unfold bC at A3;rcases cs with⟨c8,c1,cd⟩|⟨c8,c1,c2,cd⟩|⟨c8,c1,c2,cd⟩|⟨c8,cd⟩
   ·rw[cd]at dz;refine W6 t0 t3 t4 c1 hp2 ht ?_;intro b6 hb6;have n56:b5≠b6:=fun e=>by rw[← e,ah]at hb6;cases hb6
    have s4:∀o,Sub h (hadd (hadd h2 b5 (.cells (bC tt) false)) b6 o):=fun o x o' hx=>by rw[ae (af hb6 (s3 _ _ hx))];exact s3 _ _ hx
    have A4:=A3.put (o:=.cells [.int .i64 xx.k,.str xx.t,.int .i64 xx.a] false) hb6;refine W3 hm ej jd ?_;rw[← hk]at hq
    by_cases k0:xx.k=0
    ·rw[k0]at hq;refine W0 ?_;exact⟨h,s4 _,hq⟩
    by_cases k1:xx.k=1
    ·rw[k1]at hq;refine W0 ?_;exact⟨h,s4 _,hq⟩
    by_cases k8:xx.k=8
    ·rw[k8]at hq;have sx:=st j;rw[← hxx]at sx;refine W0 ?_;obtain⟨mm,hM⟩:=A4.glob;refine iU [32,59,32,125,32,62,32,62,62,32] (32::(xx.t++[32])) (by decide) (by simp) (by simp;omega) (A4.sub _ _ hM) ?_;refine W0 ?_;exact⟨h,s4 _,by simpa using hq⟩
    ·refine W0 ?_;exact⟨h,s4 _,by simpa[k0,k1,k8]using hq⟩
   ·rw[cd]at dz;refine W7 t0 t3 t4 c1 c2 hp2 ht ?_;intro b6 hb6;have n56:b5≠b6:=fun e=>by rw[← e,ah]at hb6;cases hb6
    have s4:∀o,Sub h (hadd (hadd h2 b5 (.cells (bC tt) false)) b6 o):=fun o x o' hx=>by rw[ae (af hb6 (s3 _ _ hx))];exact s3 _ _ hx
    have A4:=A3.put (o:=.cells [.int .i64 xx.k,.str xx.t,.int .i64 xx.a] false) hb6;refine W3 hm ej jd ?_;rw[← hk]at hq
    by_cases k0:xx.k=0
    ·rw[k0]at hq;refine W0 ?_;exact⟨h,s4 _,hq⟩
    by_cases k1:xx.k=1
    ·rw[k1]at hq;refine W0 ?_;exact⟨h,s4 _,hq⟩
    by_cases k8:xx.k=8
    ·rw[k8]at hq;have sx:=st j;rw[← hxx]at sx;refine W0 ?_;obtain⟨mm,hM⟩:=A4.glob;refine iU [32,59,32,125,32,62,32,62,62,32] (32::(xx.t++[32])) (by decide) (by simp) (by simp;omega) (A4.sub _ _ hM) ?_;refine W0 ?_;exact⟨h,s4 _,by simpa using hq⟩
    ·refine W0 ?_;exact⟨h,s4 _,by simpa[k0,k1,k8]using hq⟩
   ·rw[cd]at dz;refine W7 t0 t3 t4 c1 c2 hp2 ht ?_;intro b6 hb6;have n56:b5≠b6:=fun e=>by rw[← e,ah]at hb6;cases hb6
    have s4:∀o,Sub h (hadd (hadd h2 b5 (.cells (bC tt) false)) b6 o):=fun o x o' hx=>by rw[ae (af hb6 (s3 _ _ hx))];exact s3 _ _ hx
    have A4:=A3.put (o:=.cells [.int .i64 xx.k,.str xx.t,.int .i64 xx.a] false) hb6;refine W3 hm ej jd ?_;rw[← hk]at hq
    by_cases k0:xx.k=0
    ·rw[k0]at hq;refine W0 ?_;exact⟨h,s4 _,hq⟩
    by_cases k1:xx.k=1
    ·rw[k1]at hq;refine W0 ?_;exact⟨h,s4 _,hq⟩
    by_cases k8:xx.k=8
    ·rw[k8]at hq;have sx:=st j;rw[← hxx]at sx;refine W0 ?_;obtain⟨mm,hM⟩:=A4.glob;refine iU [32,59,32,125,32,62,32,62,62,32] (32::(xx.t++[32])) (by decide) (by simp) (by simp;omega) (A4.sub _ _ hM) ?_;refine W0 ?_;exact⟨h,s4 _,by simpa using hq⟩
    ·refine W0 ?_;exact⟨h,s4 _,by simpa[k0,k1,k8]using hq⟩
   ·rw[cd]at dz;refine W5 t0 t3 t4 hp2 ht ?_;intro b6 hb6;have n56:b5≠b6:=fun e=>by rw[← e,ah]at hb6;cases hb6
    have s4:∀o,Sub h (hadd (hadd h2 b5 (.cells (bC tt) false)) b6 o):=fun o x o' hx=>by rw[ae (af hb6 (s3 _ _ hx))];exact s3 _ _ hx
    have A4:=A3.put (o:=.cells [.int .i64 xx.k,.str xx.t,.int .i64 xx.a] false) hb6;refine W3 hm ej jd ?_;rw[← hk]at hq
    by_cases k0:xx.k=0
    ·rw[k0]at hq;refine W0 ?_;exact⟨h,s4 _,hq⟩
    by_cases k1:xx.k=1
    ·rw[k1]at hq;refine W0 ?_;exact⟨h,s4 _,hq⟩
    by_cases k8:xx.k=8
    ·rw[k8]at hq;have sx:=st j;rw[← hxx]at sx;refine W0 ?_;obtain⟨mm,hM⟩:=A4.glob;refine iU [32,59,32,125,32,62,32,62,62,32] (32::(xx.t++[32])) (by decide) (by simp) (by simp;omega) (A4.sub _ _ hM) ?_;refine W0 ?_;exact⟨h,s4 _,by simpa using hq⟩
    ·refine W0 ?_;exact⟨h,s4 _,by simpa[k0,k1,k8]using hq⟩
  ·rw[if_neg dz]at hk;have fin:∃x':Nat × Nat × Int,x'.1<k+1∧lG T x'.1 x'.2.1 x'.2.2=lG T (T.length+1) s.i 0∧T.length<x'.2.1+x'.1∧x'.2.1≤T.length ∧ -(x'.2.1:Int)≤x'.2.2∧x'.2.2≤x'.2.1∧PAt h0 (hadd h2 b5 (.cells (bC tt) false)) p tb T s∧Sub h (hadd h2 b5 (.cells (bC tt) false))∧(V.int .i64 dd)=.int .i64 x'.2.2∧(V.int .i64 ((i:Int)+1))=.int .i64 x'.2.1:=
    ⟨(k,i+1,dd),by show k<k+1;omega,hk,by show T.length<i+1+k;omega,by show i+1≤T.length;omega,by show -((i+1:Nat):Int)≤dd;omega,by show dd≤((i+1:Nat):Int);omega,A3,s3,rfl,by show V.int .i64 _=.int .i64 ((i+1:Nat):Int);congr 1⟩
   rcases cs with⟨c8,c1,cd⟩|⟨c8,c1,c2,cd⟩|⟨c8,c1,c2,cd⟩|⟨c8,cd⟩
   ·rw[cd]at fin dz;refine W4 t0 t3 t4 c1 ?_;exact fin
   ·rw[cd]at fin dz;refine W5 t0 t3 t4 c1 c2 ?_;exact fin
   ·rw[cd]at fin dz;refine W5 t0 t3 t4 c1 c2 ?_;exact fin
   ·rw[cd]at fin dz;refine W3 t0 t3 t4 ?_;exact fin
end
section
open Mir
variable{h:H}{Q:V→H→Prop}{h0 h1 h':H}{p tb:Nat}{T:List Tokn}{s s':PS}{N n c m:Nat}
theorem D5(W:TkOk T N){M:PF}(hf:∀s,SOk T N s→lvl n c s→Fwd T N s (M s).2):∀(k:Nat) {l:List Tree} {s:PS},SOk T N s→lvl n c s→Fwd T N s (outN T M k l s).2
 |0,_,_,hs,_=>Fwd.refl hs
 |k+1,l,s,hs,hl=>by
   unfold outN;split
   ·have f1:Fwd T N s (if l=[]then s else(s.expect T [44]).lines T):=by
     split
     ·exact Fwd.refl hs
     ·exact(ay W hs _).trans (aA W (ay W hs _).ok)
    have f2:=f1.trans (hf _ f1.ok (hl.fwd f1));exact f2.trans (D5 W hf k f2.ok (hl.fwd f2))
   ·exact Fwd.refl hs
def outArgs(T:List Tokn)(E:PF)(s0:PS):List Tree × PS:=if s0.listed T=true then listM T E [41] (s0.step T)else outN T E (T.length+1) [] s0
def outTo(T:List Tokn)(C:PF)(r:PS):Tree × PS:=if r.isAt T [[62]]=true then(nodeM [116,111] [(C (r.step T)).1],(C (r.step T)).2)
    else if r.isAt T [[62,62]]=true then(nodeM [97,112,112,101,110,100] [(C (r.step T)).1],(C (r.step T)).2)else(nodeM [110,111,110,101] [],r)
def outEnd(T:List Tokn)(op:Txt)(l:List Tree)(r:PS):PS:=if op=[112,114,105,110,116,102]∧l=[]then PS.fail T {r with flat:=false} else {r with flat:=false}
theorem jH(E U:PF)(op:Txt)(s:PS):outputM T E U op s=(nodeM op ((outTo T (aX T U) (outArgs T E {s with flat:=true}).2).1::(outArgs T E {s with flat:=true}).1),outEnd T op (outArgs T E {s with flat:=true}).1 (outTo T (aX T U) (outArgs T E {s with flat:=true}).2).2):=by
 unfold outputM outArgs outTo outEnd;rfl
theorem uF(W:TkOk T N){E:PF}(hf:∀s,SOk T N s→lvl n c s→Fwd T N s (E s).2)(hs:SOk T N s)(hl:lvl n c s):Fwd T N s (outArgs T E s).2:=by
 unfold outArgs;split
 ·have f1:=ak W hs;exact f1.trans (oU W hf _ f1.ok (hl.fwd f1))
 ·exact D5 W hf _ hs hl
theorem zq(W:TkOk T N){C:PF}(hf:∀s,SOk T N s→lvl n c s→Fwd T N s (C s).2)(hs:SOk T N s)(hl:lvl n c s):Fwd T N s (outTo T C s).2:=by
 have f1:=ak W hs;unfold outTo;split
 ·exact f1.trans (hf _ f1.ok (hl.fwd f1))
 split
 ·exact f1.trans (hf _ f1.ok (hl.fwd f1))
 ·exact Fwd.refl hs
theorem D7(W:TkOk T N){E U:PF}(he:∀s,SOk T N s→lvl n c s→Fwd T N s (E s).2)(hf:∀s,SOk T N s→lvl n c s→Fwd T N s (aX T U s).2)(op:Txt)(hs:SOk T N s)(hl:lvl n c s):Fwd T N s (outputM T E U op s).2:=by
 rw[jH];have f1:=eX hs true;have f2:=f1.trans (uF W he f1.ok (hl.fwd f1));have f3:=f2.trans (zq W hf f2.ok (hl.fwd f2));have f4:=f3.trans (eX f3.ok false);refine f3.trans ?_;unfold outEnd;split
 ·exact(eX f3.ok false).trans (dR W f4.ok)
 ·exact eX f3.ok false
theorem PAt.less{b:Nat}{o:AObj}(A:PAt (hadd h0 b o) h p tb T s)(B:PAt h0 h1 p tb T s')(z:h0 b=none):PAt h0 h p tb T s:=
 ⟨A.obj,B.toks,B.glob,B.base,fun x o' hx=>A.sub _ _ (by rw[ae (af z hx)];exact hx),A.small,A.lt,A.deep⟩
theorem SlAt.move{g0 g1:H}{l:List Tree}{v:V}(hm:∀c o,g0 c=none→c≠p→h c=some o→g1 c=none∧h' c=some o)(k:SlAt g0 h p l v):SlAt g1 h' p l v:=by
 rcases k with k|⟨b,cs,h1,h2,h3,h4,h5,h6⟩
 ·exact .inl k
 ·exact .inr ⟨b,cs,h1,(hm _ _ h2 h3 h5).1,h3,h4,(hm _ _ h2 h3 h5).2,CellsV.move (fun x o z nx hx=>⟨by rw[ae (ax z).1];exact(hm _ _ (ax z).2 nx hx).1,(hm _ _ (ax z).2 nx hx).2⟩) h6⟩
theorem y9(M:PF)(e:Txt):∀(k:Nat) (l:List Tree) (s:PS),(listN T M e k l s).1.length≤l.length+k
 |0,_,_=>Nat.le_refl _
 |k+1,l,s=>by
   unfold listN;split
   ·have:=y9 M e k (l++[(M (if l=[]then s else(s.expect T [44]).lines T)).1]) ((M (if l=[]then s else(s.expect T [44]).lines T)).2.lines T);simp only[List.length_append,List.length_cons,List.length_nil]at this;dsimp only;omega
   ·dsimp only;omega
theorem D6(M:PF):∀(k:Nat) (l:List Tree) (s:PS),(outN T M k l s).1.length≤l.length+k
 |0,_,_=>Nat.le_refl _
 |k+1,l,s=>by
   unfold outN;split
   ·have:=D6 M k (l++[(M (if l=[]then s else(s.expect T [44]).lines T)).1]) (M (if l=[]then s else(s.expect T [44]).lines T)).2;simp only[List.length_append,List.length_cons,List.length_nil]at this;dsimp only;omega
   ·dsimp only;omega
theorem DZ(M:PF)(s:PS):(outArgs T M s).1.length≤T.length+1:=by
 unfold outArgs;split
 ·have:=y9 (T:=T) M [41] (T.length+1) [] (PS.lines T {s.step T with flat:=false});simp only[List.length_nil,Nat.zero_add]at this;exact this
 ·have:=D6 (T:=T) M (T.length+1) [] s;simp only[List.length_nil,Nat.zero_add]at this;exact this
theorem zt(W:TkOk T N){M U:PF}(CE:FC T N n c 46 M)(CC:FC T N n c 106 (aX T U))(op:Txt)(A:PAt h0 h p tb T s)(hs:SOk T N s)(hl:lvl n c s)
  (hq:∀h' v,PAt h0 h' p tb T (outputM T M U op s).2→NodeV h0 h' p (outputM T M U op s).1 v→Q v h'):AC pg (.fn 98) [.ptr p 0,.str op] h Q:=by
 rw[jH]at hq;have f1:=eX hs true;have hp:=A.obj;unfold psC at hp;refine AC.fn' (g:=g98) rfl (by simp only[List.length_cons,List.length_nil,g98];decide) ?_;simp only[g98,Mir.Ab.all];refine W0 ?_;intro b8 hb8;have n8:=A.ne hb8;have z8:=A.new hb8;have A1:=(A.put (o:=.cells Z4 false) hb8).setF true;have r8:hadd (hadd h b8 (.cells Z4 false)) p (.cells [.sl tb 0 3 T.length,.int .i64 s.i,.int .i64 s.deep,.bool true,.int .i64 s.err,.int .i64 s.bad] false) b8=some (.cells Z4 false):=by rw[ae (Ne.symm n8)];exact ah
 refine W1 hp ?_;unfold Z4 at A1 r8;generalize hadd (hadd h b8 _) p _=h2 at A1 r8⊢;refine IG A1 W.short ?_;obtain⟨s0,hs0⟩:∃s0:PS,s0={s with flat:=true}:=⟨_,rfl⟩;rw[← hs0]at hq A1 f1⊢;have l0:=hl.fwd f1;have g:=uF W CE.fwd f1.ok l0;have hx:outArgs T M s0=if s0.listed T=true then listM T M [41] (s0.step T)else outN T M (T.length+1) [] s0:=rfl
 have xl:=DZ (T:=T) M s0;generalize outArgs T M s0=x at hq hx g xl;refine W0 ?_;have A1g:=A1.more r8 (Ne.symm n8) z8;obtain⟨g0,hg0⟩:∃g0:H,g0=hadd h0 b8 (.cells Z4 false):=⟨_,rfl⟩;have g08:g0 b8=some (.cells Z4 false):=by rw[hg0];exact ah
 have A1g:PAt g0 h2 p tb T s0:=by rw[hg0];exact A1g
 refine dn AC.mono (fun ex a' h'=>ex=.nm∧a'.d=[]∧a'.t 0=.ptr p 0∧a'.t 1=.str op∧a'.t 4=.ptr b8 0∧PAt g0 h' p tb T x.2∧SlAt g0 h' p x.1 (a'.t 5)) ?_ ?_
 ·cases el:s0.listed T
  ·simp only[el,if_false,Bool.false_eq_true]at hx;refine W0 ?_;refine E.cut AC.mono (fun ex a' h'=>ex=.exit 0∧a'.d=[]∧a'.t 0=.ptr p 0∧a'.t 1=.str op∧a'.t 4=.ptr b8 0∧PAt g0 h' p tb T x.2∧SlAt g0 h' p x.1 (a'.t 5)) ?_ ?_
   ·refine E.loopX AC.mono (fun(y:Nat × List Tree × PS) a' h'=>outN T M y.1 y.2.1 y.2.2=x∧(y.2.2.err=0→T.length<y.2.2.i+y.1∧y.2.1.length≤y.2.2.i)∧SOk T N y.2.2∧lvl n c y.2.2∧PAt g0 h' p tb T y.2.2∧SlAt g0 h' p y.2.1 (a'.t 5)∧a'.d=[]∧a'.t 0=.ptr p 0∧a'.t 1=.str op∧a'.t 4=.ptr b8 0) (fun y=>y.1) (T.length+1,[],s0) ?_ ?_
    ·exact⟨hx.symm,fun _=>⟨by show T.length<s0.i+(T.length+1);omega,Nat.zero_le _⟩,f1.ok,l0,A1g,.inl ⟨rfl,rfl⟩,rfl,rfl,rfl,rfl⟩
    ·rintro⟨k,l,r⟩ ⟨t,ds⟩ h2 ⟨hk,hr,sr,lr,A3,S3,hd,t0,t1,t4⟩;simp only at hk hr sr lr A3 S3 hd t0 t1 t4;subst hd;have hp3:=A3.obj;unfold psC at hp3;have hlt:=A3.lt;have sm:=A3.small
     by_cases e0:r.err=0
     ·obtain⟨hr1,hr2⟩:=hr e0;obtain⟨k,rfl⟩:∃k',k=k'+1:=⟨k-1,by omega⟩;refine W4 t0 t1 t4 hp3 ?_;refine BC A3 ?_;cases eo:r.over T
      case true =>
       have fin:(l,r)=x:=by rw[← hk,outN,if_neg (by simp[eo])]
       rw[← fin];refine W3 t0 t1 t4 ?_;exact⟨A3,S3⟩
      refine W4 t0 t1 t4 hp3 ?_;intro ba hba;refine W4 t0 t1 t4 hp3 ?_;refine gu (ss:=[[62],[62,62]]) (A3.put hba) ah (by decide) ?_;cases ea:r.isAt T [[62],[62,62]]
      ·rw[outN,if_pos ⟨e0,eo,ea⟩]at hk;simp only at hk;have A4:=A3.put (o:=.cells [.str [62],.str [62,62]] false) hba;have S4:=S3.put (o:=.cells [.str [62],.str [62,62]] false) hba;have ll:=S3.ll;refine W4 t0 t1 t4 ll ?_;generalize hr1:(if l=[]then r else(r.expect T [44]).lines T)=r1 at hk;have g1:Fwd T N r r1:=by
        rw[← hr1];split
        ·exact Fwd.refl sr
        ·exact(ay W sr _).trans (aA W (ay W sr _).ok)
       generalize hv5:t 5=v5 at S4⊢;refine dn AC.mono (fun ex a' h'=>ex=.nm∧a'.d=[]∧a'.t 0=.ptr p 0∧a'.t 1=.str op∧a'.t 4=.ptr b8 0∧a'.t 5=v5∧PAt g0 h' p tb T r1∧SlAt g0 h' p l v5) ?_ ?_
       ·by_cases el:l=[]
        ·rw[if_pos el]at hr1;subst hr1;have:l.length=0:=by rw[el];rfl
         refine W3 t0 t1 t4 ?_;exact⟨hv5,A4,S4⟩
        ·rw[if_neg el]at hr1;subst hr1;have:0<l.length:=List.length_pos_iff.2 el;refine W3 t0 t1 t4 ?_;refine bT A4.re [44] fun h4 A5=>?_;refine W3 t0 t1 t4 ?_;refine bI (A4.back A5).re W.last fun h5 A6=>?_;refine W3 t0 t1 t4 ?_;exact⟨hv5,(A4.back A5).back A6,(S4.keep A5).keep A6⟩
       ·rintro ex ⟨t,ds⟩ h4 ⟨rfl,hd,t0,t1,t4,t5,A5,S5⟩;simp only at hd t0 t1 t4 t5;subst hd;refine W4 t0 t1 t4 t5 ?_;refine CE.run _ _ _ _ _ _ A5.re g1.ok (lr.fwd g1) fun h5 v A6 k6=>?_;have g2:=g1.trans (CE.fwd _ g1.ok (lr.fwd g1));have a2:=Adv.right g1 (CE.adv _ g1.ok (lr.fwd g1)) (CE.fwd _ g1.ok (lr.fwd g1));generalize M r1=y at hk A6 k6 g2 a2;obtain⟨m,r2⟩:=y;simp only at hk A6 k6 g2 a2;have A6':=A5.back A6;obtain⟨kv,rfl,kb⟩:=k6.inv;have kf:=kb.flat;refine W5 t0 t1 t4 t5 kf ?_;intro bn hbn;have bnd:r2.err=0→T.length<r2.i+k∧(l++[m]).length≤r2.i:=fun e1=>by
         rw[List.length_append]
         show _∧l.length+1≤_
         rcases a2 e0 with d|d
         ·omega
         ·exact absurd e1 d
        rcases S5 with⟨el,ev⟩|⟨b,cs,q1,q2,q3,q4,q5,q6⟩
        ·subst el;refine W5 t0 t1 t4 t5 ev ?_;intro ba hba;have S6:=SlAt.first A6' (o:=.cells (nodeC m kv) false) hbn hba (CellsV.wk0 A5 (CellsV.one k6));have A7:=(A6'.put (o:=.cells (nodeC m kv) false) hbn).put (o:=.cells (nodeC m kv) false) hba;refine W5 t0 t1 t4 t5 ev ?_;exact⟨(k,[m],r2),by show k<k+1;omega,hk,bnd,g2.ok,lr.fwd g2,A7,S6⟩
        ·have q5':=A6.keep q3 q5;have cl:=q6.len;have nbn:=af hbn q5';have tk:List.take (l.length*4) cs=cs:=List.take_of_length_le (by omega);refine W7 t0 t1 t4 t5 q4 q5' cl ?_;intro ba nab hba;have S6:=SlAt.more A6' (o:=.cells (nodeC m kv) false) q1 (q6.keep A6) hbn nab hba (CellsV.off A5 q5 (CellsV.one k6));have A7:=((A6'.put (o:=.cells (nodeC m kv) false) hbn).lose q2 q3).put (o:=.cells (cs++nodeC m kv) false) (by unfold hset;rw[if_neg nab];exact hba);refine W6 t0 t1 t4 t5 q4 tk ?_;exact⟨(k,l++[m],r2),by show k<k+1;omega,hk,bnd,g2.ok,lr.fwd g2,A7,S6⟩
      ·have fin:(l,r)=x:=by rw[← hk,outN,if_neg (by simp[ea])]
       rw[← fin];refine W3 t0 t1 t4 ?_;exact⟨A3.put hba,S3.put hba⟩
     ·have fin:(l,r)=x:=by
       rw[← hk];cases k with
       |zero=>rfl
       |succ k=>rw[outN,if_neg (by simp[e0])]
      rw[← fin];refine W4 t0 t1 t4 hp3 ?_;exact⟨A3,S3⟩
   ·rintro ex ⟨t,ds⟩ h3 ⟨rfl,hd,t0,t1,t4,A3,S3⟩;simp only at hd t0 t1 t4 S3;subst hd;refine W3 t0 t1 t4 ?_;exact⟨A3,S3⟩
  ·simp only[el,if_true]at hx;refine W0 ?_;refine aZ A1g.re fun h3 A2=>?_;have A2':=A1g.back A2;refine W0 ?_;have f2:=ak W f1.ok;refine Bo W CE [41] A2' f2.ok (l0.fwd f2) fun h4 v A3 S3=>?_;rw[← hx]at A3 S3;refine W0 ?_;exact⟨A3,S3⟩
 ·rintro ex ⟨t,ds⟩ h3 ⟨rfl,hd,t0,t1,t4,A3,S3⟩;simp only at hd t0 t1 t4 S3;subst hd;obtain⟨l,r⟩:=x;simp only at hq g A3 S3 xl;have lr:=l0.fwd g;have smT:=A3.small;have vf:=S3.kids.flat;generalize ht5:t 5=v at S3 vf;refine W4 t0 t1 t4 ht5 ?_;refine aS [110,111,110,101] (l:=[]) rfl ?_;refine W4 t0 t1 t4 ht5 ?_;intro b6 hb6;have n6:=A3.ne hb6;have z6:=A3.new hb6;have A4:=A3.put (o:=.cells [.str [110,111,110,101],.str [],.int .i64 0,.nilsl] false) hb6;have S4:SlAt (hadd g0 b6 (.cells [] false)) (hadd h3 b6 (.cells [.str [110,111,110,101],.str [],.int .i64 0,.nilsl] false)) p l v:=SlAt.move (fun x o z nx hx=>by
   have nx6:=af hb6 hx;exact⟨by rw[ae nx6];exact z,by rw[ae nx6];exact hx⟩) S3
  have r6:hadd h3 b6 (.cells [.str [110,111,110,101],.str [],.int .i64 0,.nilsl] false) b6=_:=ah;have m0:aK (KC.one EqC.str) (V.str [62]) []=some none:=rfl;have m1:aK (KC.one EqC.str) (V.str [62,62]) [(V.str [62],V.str [116,111],0)]=some none:=rfl;refine W4 t0 t1 t4 ht5 ?_;generalize hadd h3 b6 _=h4 at A4 S4 r6⊢;intro bm hbm;have nm:=A4.ne hbm;have n6m:=af hbm r6;have A5:=A4.put (o:=.map (aI [([62],[116,111]),([62,62],[97,112,112,101,110,100])] 0) 2) hbm;have S5:=S4.put (o:=.map (aI [([62],[116,111]),([62,62],[97,112,112,101,110,100])] 0) 2) hbm;have r6m:hadd h4 bm (.map (aI [([62],[116,111]),([62,62],[97,112,112,101,110,100])] 0) 2) b6=_:=(ae n6m).trans r6;have rm:hadd h4 bm (.map (aI [([62],[116,111]),([62,62],[97,112,112,101,110,100])] 0) 2) bm=_:=ah;unfold aI aI aI at A5 S5 r6m rm;refine W6 m0 m1 t0 t1 t4 ht5 ?_;generalize hadd h4 bm _=h5 at A5 S5 r6m rm⊢;intro bi hbi;have ni:=A5.ne hbi;have n6i:=af hbi r6m;have nmi:=af hbi rm;have zi:=A5.new hbi;have A6:=A5.put (o:=.iter (some bm) 2 [] 2) hbi;have S6:SlAt (hadd (hadd g0 b6 (.cells [] false)) bi (.cells [] false)) (hadd h5 bi (.iter (some bm) 2 [] 2)) p l v:=SlAt.move (fun x o z nx hx=>by
   have nxi:=af hbi hx;exact⟨by rw[ae nxi];exact z,by rw[ae nxi];exact hx⟩) S5
  have r6i:hadd h5 bi (.iter (some bm) 2 [] 2) b6=_:=(ae n6i).trans r6m;have rmi:hadd h5 bi (.iter (some bm) 2 [] 2) bm=some (.map (aI [([62],[116,111]),([62,62],[97,112,112,101,110,100])] 0) 2):=(ae nmi).trans rm;have rii:hadd h5 bi (.iter (some bm) 2 [] 2) bi=_:=ah;obtain⟨es,hes⟩:∃es,es=aI [([62],[116,111]),([62,62],[97,112,112,101,110,100])] 0:=⟨_,rfl⟩;rw[← hes]at rmi;refine W4 t0 t1 t4 ht5 ?_;generalize hadd h5 bi _=h6 at A6 S6 r6i rmi rii⊢;have gT:=zq W CC.fwd g.ok lr;have hy:outTo T (aX T U) r=outTo T (aX T U) r:=rfl;generalize hyy:outTo T (aX T U) r=y at hq gT;clear hy;obtain⟨g6,hg6⟩:∃g6:H,g6=hadd (hadd g0 b6 (.cells [] false)) bi (.cells [] false):=⟨_,rfl⟩;rw[← hg6]at S6;have G6:∀x,g6 x=none→x≠bi∧x≠b6∧g0 x=none:=fun x hx=>by rw[hg6]at hx;exact⟨(ax hx).1,ax (ax hx).2⟩
  have G6':∀x,x≠bi→x≠b6→g0 x=none→g6 x=none:=fun x h0 h1 h2=>by rw[hg6,ae h0,ae h1];exact h2
  refine E.cut AC.mono (fun ex a' h'=>ex=.exit 2∧a'.d=[]∧a'.t 0=.ptr p 0∧a'.t 1=.str op∧a'.t 4=.ptr b8 0∧a'.t 5=v∧a'.t 6=.ptr b6 0∧PAt g0 h' p tb T y.2∧SlAt g6 h' p l v∧∃ky,h' b6=some (.cells (nodeC y.1 ky) false)∧KidsV g6 h' p y.1.kids ky) ?_ ?_
  ·refine E.loopX AC.mono (fun(x:Ents × Ents) a' h'=>Half es 2 (x.1.map fun e=>e.2.2) x.1 x.2∧(∀e∈x.1,∀k,e.1=.str k→r.isAt T [k]=false)∧PAt g0 h' p tb T r∧SlAt g6 h' p l v∧h' b6=some (.cells [.str [110,111,110,101],.str [],.int .i64 0,.nilsl] false)∧h' bm=some (.map es 2)∧h' bi=some (.iter (some bm) 2 (x.1.map fun e=>e.2.2) 2)∧a'.d=[]∧a'.t 0=.ptr p 0∧a'.t 1=.str op∧a'.t 4=.ptr b8 0∧a'.t 5=v∧a'.t 6=.ptr b6 0∧a'.t 49=.ptr bi 0) (fun x=>x.2.length) ([],es) ?_ ?_
   ·exact⟨Half.start (by rw[hes];decide) (by rw[hes];decide),fun e he=>by simp at he,A6,S6,r6i,rmi,rii,rfl,t0,t1,t4,ht5,rfl,rfl⟩
   ·rintro⟨done,rest⟩ ⟨t,ds⟩ h7 ⟨H,hno,A7,S7,r6,rm,ri,hd,t0,t1,t4,t5,t6,t49⟩;simp only at H hno A7 S7 r6 rm ri hd t0 t1 t4 t5 t6 t49;subst hd;simp only;refine W8 t0 t1 t4 t5 t6 t49 ri rm ?_;refine wJ H (fun hr=>?_) (fun e r1 r2 hr he H'=>?_)
    ·have hp:=H.perm;rw[hr,List.append_nil]at hp;have all:∀e∈es,∀k,e.1=.str k→r.isAt T [k]=false:=fun e he=>hno e (hp.mem_iff.2 he);have a1:=all (.str [62],.str [116,111],0) (by rw[hes];exact List.mem_cons_self ..) _ rfl;have a2:=all (.str [62,62],.str [97,112,112,101,110,100],1) (by rw[hes];exact List.mem_cons_of_mem _ (List.mem_cons_self ..)) _ rfl;have:y=(nodeM [110,111,110,101] [],r):=by rw[← hyy];unfold outTo;simp only[a1,a2,if_false,Bool.false_eq_true]
     subst this;refine W6 t0 t1 t4 t5 t6 t49 ?_;exact⟨A7,S7,.nilsl,r6,.nil⟩
    ·obtain⟨x,o2,i,hmem,rfl⟩:∃x o2 i,((x,o2,i)=([62],[116,111],0)∨(x,o2,i)=([62,62],[97,112,112,101,110,100],1))∧e=(.str x,.str o2,i):=by
      rw[hes]at he;simp only[aI,List.mem_cons,List.not_mem_nil,or_false]at he;rcases he with rfl|rfl
      ·exact⟨_,_,_,.inl rfl,rfl⟩
      ·exact⟨_,_,_,.inr rfl,rfl⟩
     have hfb:=rD (es:=es) (by rw[hes];decide) he;simp only at hfb;have nbi6:b6≠bi:=n6i;have A8:PAt g0 (hadd h7 bi (.iter (some bm) 2 (done.map (fun e=>e.2.2)++[i]) 2)) p tb T r:=A7.over zi (Ne.symm ni);have S8:SlAt g6 (hadd h7 bi (.iter (some bm) 2 (done.map (fun e=>e.2.2)++[i]) 2)) p l v:=SlAt.move (fun x o z nx hx=>⟨z,by rw[ae (G6 _ z).1];exact hx⟩) S7;have r6':hadd h7 bi (.iter (some bm) 2 (done.map (fun e=>e.2.2)++[i]) 2) b6=_:=(ae n6i).trans r6;have rm':hadd h7 bi (.iter (some bm) 2 (done.map (fun e=>e.2.2)++[i]) 2) bm=_:=(ae nmi).trans rm;have ri':hadd h7 bi (.iter (some bm) 2 (done.map (fun e=>e.2.2)++[i]) 2) bi=_:=ah;refine W8 t0 t1 t4 t5 t6 t49 hfb rm ?_;refine aO A8.re x fun h9 A9=>?_;have A9':=A8.back A9;have S9:=S8.keep A9;have r6:=A9.keep (Ne.symm n6) r6';have rm:=A9.keep (Ne.symm nm) rm';have ri:=A9.keep (Ne.symm ni) ri';cases e:r.isAt T [x]
     ·simp only[e,if_false,Bool.false_eq_true]at A9';refine W6 t0 t1 t4 t5 t6 t49 ?_;refine⟨(done++[(.str x,.str o2,i)],r1++r2),by rw[hr];simp,by rw[List.map_append];exact H',fun e' he' k hk=>?_,A9',S9,r6,rm,by rw[List.map_append];exact ri⟩;rcases List.mem_append.1 he' with d|d
      ·exact hno e' d k hk
      ·simp only[List.mem_singleton]at d;subst d;simp only[V.str.injEq]at hk;subst hk;exact e
     ·simp only[e,if_true]at A9';have f7:=ak W g.ok;have ey:y=(nodeM o2 [(aX T U (r.step T)).1],(aX T U (r.step T)).2):=by
       rw[← hyy];unfold outTo;rcases hmem with hm|hm
       ·cases hm;rw[if_pos e]
       ·cases hm;rw[if_neg (by rw[at_one e (by decide)];decide),if_pos e]
      refine W6 t0 t1 t4 t5 t6 t49 ?_;refine CC.run _ _ _ _ _ _ A9'.re f7.ok (lr.fwd f7) fun h10 v2 A10 k10=>?_;generalize aX T U (r.step T)=w at ey A10 k10;obtain⟨m,r3⟩:=w;simp only at ey A10 k10;subst ey;obtain⟨kv,rfl,kb⟩:=k10.inv;have kf:=kb.flat;have A10':=A9'.back A10;have S10:=S9.keep A10;have r6':=A10.keep (Ne.symm n6) r6;have kg:KidsV g6 h10 p m.kids kv:=KidsV.move (fun x o z nx hx=>⟨by
       rw[show hset h9 p none x=h9 x from if_neg nx]at z;exact G6' x (af z ri).symm (af z r6).symm (A9'.new z),hx⟩) kb
      refine W7 kf t0 t1 t4 t5 t6 t49 ?_;intro bs hbs;have n6s:=af hbs r6';refine W7 kf t0 t1 t4 t5 t6 t49 ?_;refine aS o2 (l:=[]) rfl ?_;have ri10:=A10.keep (Ne.symm ni) ri;have kr:KidsV g6 (hadd h10 bs (.cells (nodeC m kv) false)) p [m] (.sl bs 0 4 1):=
       .sl (by simp) (G6' bs (af hbs ri10).symm (Ne.symm n6s) (A10'.new hbs)) (Ne.symm (A10'.ne hbs)) ah (CellsV.one (NodeV.of (kg.put hbs)))
      have A11:=(A10'.put (o:=.cells (nodeC m kv) false) hbs).over (o:=.cells (nodeC (nodeM o2 [m]) (.sl bs 0 4 1)) false) z6 (Ne.symm n6);have S11:SlAt g6 (hadd (hadd h10 bs (.cells (nodeC m kv) false)) b6 (.cells (nodeC (nodeM o2 [m]) (.sl bs 0 4 1)) false)) p l v:=SlAt.move (fun x o z nx hx=>⟨z,by rw[ae (G6 _ z).2.1];exact hx⟩) (S10.put (o:=.cells (nodeC m kv) false) hbs);have kr':KidsV g6 (hadd (hadd h10 bs (.cells (nodeC m kv) false)) b6 (.cells (nodeC (nodeM o2 [m]) (.sl bs 0 4 1)) false)) p [m] (.sl bs 0 4 1):=KidsV.move (fun x o z nx hx=>⟨z,by rw[ae (G6 _ z).2.1];exact hx⟩) kr;refine W6 r6' t0 t1 t4 t5 t6 ?_;exact⟨A11,S11,.sl bs 0 4 1,rfl,kr'⟩
  ·rintro ex ⟨t,ds⟩ h7 ⟨rfl,hd,t0,t1,t4,t5,t6,A7,S7,ky,r6,kk⟩;simp only at hd t0 t1 t4 t5 t6;subst hd;have hp7:=A7.obj;unfold psC at hp7;have kf:=kk.flat;have ll:=S7.ll;refine W7 t0 t1 t4 t5 t6 hp7 ll ?_;have A8:=A7.setF false;have S8:SlAt g6 (hadd h7 p (.cells [.sl tb 0 3 T.length,.int .i64 y.2.i,.int .i64 y.2.deep,.bool false,.int .i64 y.2.err,.int .i64 y.2.bad] false)) p l v:=S7.set;have k8:KidsV g6 (hadd h7 p (.cells [.sl tb 0 3 T.length,.int .i64 y.2.i,.int .i64 y.2.deep,.bool false,.int .i64 y.2.err,.int .i64 y.2.bad] false)) p y.1.kids ky:=KidsV.move (fun x o z nx hx=>⟨z,by rw[ae nx];exact hx⟩) kk;have r8:hadd h7 p (.cells [.sl tb 0 3 T.length,.int .i64 y.2.i,.int .i64 y.2.deep,.bool false,.int .i64 y.2.err,.int .i64 y.2.bad] false) b6=_:=(ae (Ne.symm n6)).trans r6;generalize hadd h7 p _=h8 at A8 S8 k8 r8⊢;refine oP AC.mono (fun a' h'=>h'=h8∧a'.d=[]∧a'.t 0=.ptr p 0∧a'.t 1=.str op∧a'.t 4=.ptr b8 0∧a'.t 5=v∧a'.t 6=.ptr b6 0∧a'.t 72=.bool (decide (op=[112,114,105,110,116,102]∧l=[]))) ?_ ?_
   ·by_cases c:op=[112,114,105,110,116,102]
    ·have c':(op=[112,114,105,110,116,102])=True:=eq_true c
     by_cases el:l=[]
     ·have:l.length=0:=by rw[el];rfl
      have d:decide (op=[112,114,105,110,116,102]∧l=[])=true:=decide_eq_true ⟨c,el⟩;rw[d];exact W7 t0 t1 t4 t5 t6 ll c' trivial
     ·have:0<l.length:=List.length_pos_iff.2 el;have d:decide (op=[112,114,105,110,116,102]∧l=[])=false:=decide_eq_false fun x=>el x.2;rw[d];exact W7 t0 t1 t4 t5 t6 ll c' trivial
    ·have c':(op=[112,114,105,110,116,102])=False:=eq_false c;have d:decide (op=[112,114,105,110,116,102]∧l=[])=false:=decide_eq_false fun x=>c x.1;rw[d];exact W7 t0 t1 t4 t5 t6 ll c' trivial
   ·rintro⟨t,ds⟩ h9 ⟨rfl,hd,t0,t1,t4,t5,t6,t72⟩;simp only at hd t0 t1 t4 t5 t6 t72;subst hd;generalize hE:outEnd T op l y.2=rE at hq;refine W1 t72 ?_;refine dn AC.mono (fun ex a' h'=>ex=.nm∧a'.d=[]∧a'.t 0=.ptr p 0∧a'.t 1=.str op∧a'.t 4=.ptr b8 0∧a'.t 5=v∧a'.t 6=.ptr b6 0∧PAt g0 h' p tb T rE∧SlAt g6 h' p l v∧KidsV g6 h' p y.1.kids ky∧h' b6=some (.cells (nodeC y.1 ky) false)) ?_ ?_
    ·unfold outEnd at hE
     by_cases cE:op=[112,114,105,110,116,102]∧l=[]
     ·rw[if_pos cE]at hE;rw[decide_eq_true cE];refine W1 t0 ?_;refine gX A8.re fun h10 A9=>?_;rw[hE]at A9;refine W5 t0 t1 t4 t5 t6 ?_;exact⟨A8.back A9,S8.keep A9,k8.keep A9,A9.keep (Ne.symm n6) r8⟩
     ·rw[if_neg cE]at hE;rw[decide_eq_false cE];subst hE;refine W5 t0 t1 t4 t5 t6 ?_;exact⟨A8,S8,k8,r8⟩
    ·rintro ex ⟨t,ds⟩ h10 ⟨rfl,hd,t0,t1,t4,t5,t6,A9,S9,k9,r9⟩;simp only at hd t0 t1 t4 t5 t6;subst hd;refine W7 t0 t1 t4 t5 t6 r9 kf ?_;intro bs hbs;have n6s:=af hbs r9;have A10:=A9.put (o:=.cells (nodeC y.1 ky) false) hbs;have zs:=A9.new hbs;have h8s:h10 b8=some (.cells Z4 false):=A9.sub _ _ g08;have n8s:=af hbs h8s;rcases S9 with⟨el,ev⟩|⟨b,cs,q1,q2,q3,q4,q5,q6⟩
     ·subst el;refine W6 t0 t1 t4 t5 t6 ev ?_;refine aS op (l:=[]) rfl ?_;have kr:KidsV g0 (hadd h10 bs (.cells (nodeC y.1 ky) false)) p [y.1] (.sl bs 0 4 1):=
       .sl (by simp) zs (Ne.symm (A9.ne hbs)) ah (CellsV.one (NodeV.of (KidsV.move (fun x o z nx hx=>⟨(G6 _ z).2.2,by rw[ae (af hbs hx)];exact hx⟩) k9)))
      have cz:∀x,g0 x=none→x≠b8:=fun x hx e=>by rw[e,g08]at hx;cases hx
      have h0x:∀x,g0 x=none→h0 x=none:=fun x hx=>by rw[hg0]at hx;exact(ax hx).2
      refine W4 t0 t1 t4 h8s ?_;exact⟨_,Sub.refl,hq _ _ (((by rw[hg0]at A10;exact A10.less A1 z8:PAt h0 _ p tb T rE)).over z8 (Ne.symm n8)) (.mk (KidsV.move (fun x o z nx hx=>⟨h0x _ z,by rw[ae (cz _ z)];exact hx⟩) kr))⟩
     ·have nbs:=af hbs q5;have cl:=q6.len;have tk:List.take (l.length*4) cs=cs:=List.take_of_length_le (by omega);have lpos:0<l.length:=List.length_pos_iff.2 q1;refine W8 t0 t1 t4 t5 t6 q4 q5 cl ?_;intro ba nab hba;have hba':h10 ba=none:=by rw[ae nab]at hba;exact hba
      have n8a:=af hba' h8s;refine W4 t0 t1 t4 tk ?_;refine aS op (l:=[]) rfl ?_;have A11:=(A10.lose zs (Ne.symm (A9.ne hbs))).put (o:=.cells (nodeC y.1 ky++cs) false) (b:=ba) (by unfold hset;rw[if_neg nab];exact hba);have kr:KidsV g0 (hadd (hset (hadd h10 bs (.cells (nodeC y.1 ky) false)) bs none) ba (.cells (nodeC y.1 ky++cs) false)) p (y.1::l) (.sl ba 0 4 (y.1::l).length):=by
       have mv:∀x o,x≠p→h10 x=some o→hadd (hset (hadd h10 bs (.cells (nodeC y.1 ky) false)) bs none) ba (.cells (nodeC y.1 ky++cs) false) x=some o:=fun x o nx hx=>by
        rw[ae (af hba' hx)];show hset _ bs none x=_;unfold hset;rw[if_neg (af hbs hx)];show hadd h10 bs _ x=_;rw[ae (af hbs hx)];exact hx
       exact .sl (by simp) (A9.new hba') (Ne.symm (A9.ne hba')) ah ((CellsV.one (NodeV.of (KidsV.move (fun x o z nx hx=>⟨(G6 _ z).2.2,mv x o nx hx⟩) k9))).app (CellsV.move (fun x o z nx hx=>⟨(G6 _ (ax z).2).2.2,mv x o nx hx⟩) q6))
      have cz:∀x,g0 x=none→x≠b8:=fun x hx e=>by rw[e,g08]at hx;cases hx
      have h0x:∀x,g0 x=none→h0 x=none:=fun x hx=>by rw[hg0]at hx;exact(ax hx).2
      refine W4 t0 t1 t4 h8s ?_;have e1:1+l.length=(y.1::l).length:=by rw[List.length_cons];omega
      rw[e1];exact⟨_,Sub.refl,hq _ _ (((by rw[hg0]at A11;exact A11.less A1 z8:PAt h0 _ p tb T rE)).over z8 (Ne.symm n8)) (.mk (KidsV.move (fun x o z nx hx=>⟨h0x _ z,by rw[ae (cz _ z)];exact hx⟩) kr))⟩
end
section
open Mir
variable{h:H}{Q:V→H→Prop}{h0 h1 h':H}{p tb:Nat}{T:List Tokn}{s s':PS}{N n c m:Nat}
theorem oz(W:TkOk T N){E U:PF}(he:∀s,SOk T N s→lvl n c s→Fwd T N s (E s).2)(hea:∀s,SOk T N s→lvl n c s→Adv s (E s).2)(hf:∀s,SOk T N s→lvl n c s→Fwd T N s (aX T U s).2)(hs:SOk T N s)(hl:lvl n c s):Fwd T N s (simpleM T E U s).2∧Adv s (simpleM T E U s).2:=by
 have f1:=ak W hs;have l1:=hl.fwd f1;unfold simpleM;dsimp only;split
 ·exact⟨he _ hs hl,hea _ hs hl⟩
 have k7:(s.cur T).k≠0:=by omega
 have a1:=jJ W hs k7;split
 ·exact⟨f1,a1⟩
 split
 ·split
  ·exact⟨f1,a1⟩
  ·exact⟨f1.trans (he _ f1.ok l1),a1.left (he _ f1.ok l1)⟩
 split
 ·have g:=dU W f1.ok [5];split
  ·have g1:=g.trans (ak W g.ok);have g2:=g1.trans (eY W he [93] g1.ok (l1.fwd g1));exact⟨f1.trans g2,a1.left g2⟩
  ·exact⟨f1.trans g,a1.left g⟩
 split
 ·have g:=D7 W he hf (s.cur T).t f1.ok l1;exact⟨f1.trans g,a1.left g⟩
 ·exact⟨dR W hs,fun _=>.inr (nz W hs)⟩
theorem ug(W:TkOk T N){M U:PF}(CE:FC T N n c 46 M)(CC:FC T N n c 106 (aX T U)):FC T N n c 87 (simpleM T M U):=by
 refine⟨fun h0 h p tb s Q A hs hl hq=>?_,fun s hs hl=>(oz W CE.fwd CE.adv CC.fwd hs hl).1,fun s hs hl=>(oz W CE.fwd CE.adv CC.fwd hs hl).2⟩;unfold simpleM at hq;dsimp only at hq;have f1:=ak W hs;have l1:=hl.fwd f1;refine AC.fn' (g:=g87) rfl (by simp only[List.length_cons,List.length_nil,g87];decide) ?_;simp only[g87,Mir.Ab.all];refine W0 ?_;intro b8 hb8;have A1:=A.put (o:=.cells Z4 false) hb8;have n8:=A.ne hb8;have z8:=A.new hb8;refine W0 ?_;refine dL A1 ?_;obtain⟨tt,ht⟩:∃tt,tt=s.cur T:=⟨_,rfl⟩;rw[← ht]at hq⊢;rw[jd];refine W0 ?_;intro b3 hb3;have n3:=A1.ne hb3;have n83:b8≠b3:=fun e=>by rw[← e]at hb3;simp[hadd,hset]at hb3
 have A3:=A1.put (o:=.cells (bC tt) false) hb3;have r8:hadd (hadd h b8 (.cells Z4 false)) b3 (.cells (bC tt) false) b8=some (.cells Z4 false):=by rw[ae n83];exact ah
 have r3:hadd (hadd h b8 (.cells Z4 false)) b3 (.cells (bC tt) false) b3=some (.cells (bC tt) false):=ah;unfold bC at A3 r8 r3;unfold Z4 at A3 r8 r3;refine W0 ?_;generalize hadd (hadd h b8 _) b3 _=h2 at A3 r8 r3⊢;have fin:∀(h7:H) (m:Tree) (s7:PS) (kv:V) (o:AObj),PAt h0 h7 p tb T s7→KidsV (hadd h0 b8 (.cells Z4 false)) h7 p m.kids kv→(∀h' v,PAt h0 h' p tb T s7→NodeV h0 h' p m v→Q v h')→∃h3,Mir.Sub h3 (hadd h7 b8 o)∧Q (.agg (nodeC m kv)) h3:=fun h7 m s7 kv o B k hq' =>
  ⟨_,Sub.refl,hq' _ _ (B.over z8 (Ne.symm n8)) (NodeV.of (KidsV.move (fun x o z nx hx=>⟨(ax z).2,by rw[ae (ax z).1];exact hx⟩) k))⟩
 have bk:∀{h5 h6:H} {s5:PS} {l:List Tree} {v:V},PAt h0 h5 p tb T s5→h5 b8=some (.cells Z4 false)→KidsV (hset h5 p none) h6 p l v→KidsV (hadd h0 b8 (.cells Z4 false)) h6 p l v:=fun {h5 h6 s5 l v} B hb k =>
  KidsV.move (fun x o z nx hx=>⟨by
   rw[show hset h5 p none x=h5 x from if_neg nx]at z;rw[ae (af z hb).symm];exact B.new z,hx⟩) k
 by_cases k7:tt.k≠7
 ·rw[if_pos k7]at hq;refine W1 r3 ?_;refine CE.run _ _ _ _ _ _ A3.re hs hl fun h4 v A4 k4=>?_;generalize M s=x at hq A4 k4;obtain⟨m,r⟩:=x;simp only at hq A4 k4;obtain⟨kv,rfl,kb⟩:=k4.inv;have kf:=kb.flat;have A4':=A3.back A4;have r8':=A4.keep (Ne.symm n8) r8;refine W1 kf ?_;intro bs hbs;have n8s:=af hbs r8';refine W1 kf ?_;refine aS [101,120,112,114] (l:=[]) rfl ?_;have kr:=oh A4' r8' hbs (bk A3 r8 kb);have A5:=A4'.put (o:=.cells (nodeC m kv) false) hbs;refine W1 r8' ?_;exact fin _ (nodeM [101,120,112,114] [m]) _ _ _ A5 kr hq
 rw[if_neg k7]at hq;have k7:tt.k=7:=by omega
 refine W1 r3 ?_
 by_cases c1:tt.t=[98,114,101,97,107]
 ·have d1:(tt.t=[98,114,101,97,107])=True:=eq_true c1;rw[if_pos (.inl c1)]at hq;refine W1 d1 ?_;refine aZ A3.re fun h3 A4=>?_;have r3:=A4.keep (Ne.symm n3) r3;have r8:=A4.keep (Ne.symm n8) r8;refine W2 r3 r8 ?_;exact fin _ (.nd tt.t [] tt.a []) _ _ _ (A3.back A4) .nil hq
 have d1:(tt.t=[98,114,101,97,107])=False:=eq_false c1
 by_cases c2:tt.t=[99,111,110,116,105,110,117,101]
 ·have d2:(tt.t=[99,111,110,116,105,110,117,101])=True:=eq_true c2;rw[if_pos (.inr (.inl c2))]at hq;refine W2 d1 d2 ?_;refine aZ A3.re fun h3 A4=>?_;have r3:=A4.keep (Ne.symm n3) r3;have r8:=A4.keep (Ne.symm n8) r8;refine W2 r3 r8 ?_;exact fin _ (.nd tt.t [] tt.a []) _ _ _ (A3.back A4) .nil hq
 have d2:(tt.t=[99,111,110,116,105,110,117,101])=False:=eq_false c2
 by_cases c3:tt.t=[110,101,120,116]
 ·have d3:(tt.t=[110,101,120,116])=True:=eq_true c3;rw[if_pos (.inr (.inr c3))]at hq;refine W3 d1 d2 d3 ?_;refine aZ A3.re fun h3 A4=>?_;have r3:=A4.keep (Ne.symm n3) r3;have r8:=A4.keep (Ne.symm n8) r8;refine W2 r3 r8 ?_;exact fin _ (.nd tt.t [] tt.a []) _ _ _ (A3.back A4) .nil hq
 have d3:(tt.t=[110,101,120,116])=False:=eq_false c3
 by_cases c4:tt.t=[101,120,105,116]
 ·have d4:(tt.t=[101,120,105,116])=True:=eq_true c4;rw[if_neg (by simp only[d1,d2,d3];simp),if_pos (.inl c4)]at hq;refine W4 d1 d2 d3 d4 ?_;refine aZ A3.re fun h3 A4=>?_;have A4':=A3.back A4;have r3:=A4.keep (Ne.symm n3) r3;have r8:=A4.keep (Ne.symm n8) r8;refine W2 r3 r8 ?_;intro b4 hb4;have n84:=af hb4 r8;have n4:=A4'.ne hb4;have z4:=A4'.new hb4;have A5:=A4'.put (o:=.cells (nodeC (.nd tt.t [] tt.a []) .nilsl) false) hb4;have r8:hadd h3 b4 (.cells (nodeC (.nd tt.t [] tt.a []) .nilsl) false) b8=_:=(ae n84).trans r8;have r4:hadd h3 b4 (.cells (nodeC (.nd tt.t [] tt.a []) .nilsl) false) b4=_:=ah;unfold nodeC Tree.op Tree.text Tree.at' at A5 r8 r4;refine W0 ?_;generalize hadd h3 b4 _=h4 at A5 r8 r4⊢;refine BC A5 ?_;cases eo:(s.step T).over T
  ·simp only[eo,if_false,Bool.false_eq_true]at hq;refine W0 ?_;refine CE.run _ _ _ _ _ _ A5.re f1.ok l1 fun h5 v A6 k6=>?_;generalize M (s.step T)=x at hq A6 k6;obtain⟨m,r⟩:=x;simp only at hq A6 k6;obtain⟨kv,rfl,kb⟩:=k6.inv;have kf:=kb.flat;have A6':=A5.back A6;have r8':=A6.keep (Ne.symm n8) r8;have r4':=A6.keep (Ne.symm n4) r4;refine W1 kf ?_;intro bs hbs;have n8s:=af hbs r8';have n4s:=af hbs r4';have kr:=oh A6' r8' hbs (bk A5 r8 kb);have A7:=(A6'.put (o:=.cells (nodeC m kv) false) hbs).over (o:=.cells (nodeC (.nd tt.t [] tt.a [m]) (.sl bs 0 4 1)) false) z4 (Ne.symm n4);have kr':KidsV (hadd h0 b8 (.cells Z4 false)) (hadd (hadd h5 bs (.cells (nodeC m kv) false)) b4 (.cells (nodeC (.nd tt.t [] tt.a [m]) (.sl bs 0 4 1)) false)) p [m] (.sl bs 0 4 1):=by
    refine .sl (by simp) (by rw[ae (af hbs r8').symm];exact A6'.new hbs) (Ne.symm (A6'.ne hbs)) (by rw[ae (Ne.symm n4s)];exact ah) (CellsV.one (NodeV.of (KidsV.move (fun x o z nx hx=>⟨by
     rw[show hset h4 p none x=h4 x from if_neg nx]at z;rw[ae (af z r8).symm];exact A5.new z,?_⟩) kb)))
    rw[show hset h4 p none x=h4 x from if_neg nx]at z;rw[ae (af z r4).symm,ae (af hbs hx)];exact hx
   refine W3 r8' r4' kf ?_;exact fin _ (.nd tt.t [] tt.a [m]) _ _ _ A7 kr' hq
  ·simp only[eo,if_true]at hq;refine W2 r4 r8 ?_;exact fin _ (.nd tt.t [] tt.a []) _ _ _ A5 .nil hq
 have d4:(tt.t=[101,120,105,116])=False:=eq_false c4
 by_cases c5:tt.t=[114,101,116,117,114,110]
 ·have d5:(tt.t=[114,101,116,117,114,110])=True:=eq_true c5;rw[if_neg (by simp only[d1,d2,d3];simp),if_pos (.inr c5)]at hq;refine W5 d1 d2 d3 d4 d5 ?_;refine aZ A3.re fun h3 A4=>?_;have A4':=A3.back A4;have r3:=A4.keep (Ne.symm n3) r3;have r8:=A4.keep (Ne.symm n8) r8;refine W2 r3 r8 ?_;intro b4 hb4;have n84:=af hb4 r8;have n4:=A4'.ne hb4;have z4:=A4'.new hb4;have A5:=A4'.put (o:=.cells (nodeC (.nd tt.t [] tt.a []) .nilsl) false) hb4;have r8:hadd h3 b4 (.cells (nodeC (.nd tt.t [] tt.a []) .nilsl) false) b8=_:=(ae n84).trans r8;have r4:hadd h3 b4 (.cells (nodeC (.nd tt.t [] tt.a []) .nilsl) false) b4=_:=ah;unfold nodeC Tree.op Tree.text Tree.at' at A5 r8 r4;refine W0 ?_;generalize hadd h3 b4 _=h4 at A5 r8 r4⊢;refine BC A5 ?_;cases eo:(s.step T).over T
  ·simp only[eo,if_false,Bool.false_eq_true]at hq;refine W0 ?_;refine CE.run _ _ _ _ _ _ A5.re f1.ok l1 fun h5 v A6 k6=>?_;generalize M (s.step T)=x at hq A6 k6;obtain⟨m,r⟩:=x;simp only at hq A6 k6;obtain⟨kv,rfl,kb⟩:=k6.inv;have kf:=kb.flat;have A6':=A5.back A6;have r8':=A6.keep (Ne.symm n8) r8;have r4':=A6.keep (Ne.symm n4) r4;refine W1 kf ?_;intro bs hbs;have n8s:=af hbs r8';have n4s:=af hbs r4';have kr:=oh A6' r8' hbs (bk A5 r8 kb);have A7:=(A6'.put (o:=.cells (nodeC m kv) false) hbs).over (o:=.cells (nodeC (.nd tt.t [] tt.a [m]) (.sl bs 0 4 1)) false) z4 (Ne.symm n4);have kr':KidsV (hadd h0 b8 (.cells Z4 false)) (hadd (hadd h5 bs (.cells (nodeC m kv) false)) b4 (.cells (nodeC (.nd tt.t [] tt.a [m]) (.sl bs 0 4 1)) false)) p [m] (.sl bs 0 4 1):=by
    refine .sl (by simp) (by rw[ae (af hbs r8').symm];exact A6'.new hbs) (Ne.symm (A6'.ne hbs)) (by rw[ae (Ne.symm n4s)];exact ah) (CellsV.one (NodeV.of (KidsV.move (fun x o z nx hx=>⟨by
     rw[show hset h4 p none x=h4 x from if_neg nx]at z;rw[ae (af z r8).symm];exact A5.new z,?_⟩) kb)))
    rw[show hset h4 p none x=h4 x from if_neg nx]at z;rw[ae (af z r4).symm,ae (af hbs hx)];exact hx
   refine W3 r8' r4' kf ?_;exact fin _ (.nd tt.t [] tt.a [m]) _ _ _ A7 kr' hq
  ·simp only[eo,if_true]at hq;refine W2 r4 r8 ?_;exact fin _ (.nd tt.t [] tt.a []) _ _ _ A5 .nil hq
 have d5:(tt.t=[114,101,116,117,114,110])=False:=eq_false c5
 by_cases c6:tt.t=[100,101,108,101,116,101]
 ·have d6:(tt.t=[100,101,108,101,116,101])=True:=eq_true c6;rw[if_neg (by simp only[d1,d2,d3];simp),if_neg (by simp only[d4,d5];simp),if_pos c6]at hq;refine W6 d1 d2 d3 d4 d5 d6 ?_;refine aZ A3.re fun h3 A4=>?_;have A4':=A3.back A4;have r8:=A4.keep (Ne.symm n8) r8;refine W0 ?_;intro b1 hb1;have n81:=af hb1 r8;have A5:=A4'.put (o:=.cells [.int .i64 5] false) hb1;have r8:hadd h3 b1 (.cells [.int .i64 5] false) b8=_:=(ae n81).trans r8;refine W0 ?_;refine oW (ks:=[5]) A5.re ah (by decide) fun h4 A6=>?_;have A6':=A5.back A6;have r8:=A6.keep (Ne.symm n8) r8;have g:=dU W f1.ok [5];generalize PS.name T (s.step T) [5]=x at hq A6 A6' g;obtain⟨nt,r⟩:=x;simp only at hq A6 A6' g;rw[jd];refine W0 ?_;intro b5 hb5;have n85:=af hb5 r8;have n5:=A6'.ne hb5;have A7:=A6'.put (o:=.cells (bC nt) false) hb5;have r8:hadd h4 b5 (.cells (bC nt) false) b8=_:=(ae n85).trans r8;have r5:hadd h4 b5 (.cells (bC nt) false) b5=_:=ah;unfold bC at A7 r8 r5;refine W0 ?_;generalize hadd h4 b5 _=h5 at A7 r8 r5⊢;refine aO A7.re [91] fun h6 A8=>?_;have A8':=A7.back A8;have r8:=A8.keep (Ne.symm n8) r8;have r5:=A8.keep (Ne.symm n5) r5;cases e:r.isAt T [[91]]
  ·simp only[e,if_false,Bool.false_eq_true]at hq A8';refine W1 r5 ?_;refine aQ [110,97,109,101] nt rfl ?_;refine W0 ?_;intro bs hbs;have n8s:=af hbs r8;refine W0 ?_;refine aS [100,101,108,101,116,101] (l:=[]) rfl ?_;have kr:=oh A8' r8 hbs (m:=aN [110,97,109,101] nt []) (kv:=.nilsl) .nil;have A9:=A8'.put (o:=.cells (nodeC (aN [110,97,109,101] nt []) .nilsl) false) hbs;refine W1 r8 ?_;exact fin _ (nodeM [100,101,108,101,116,101] [aN [110,97,109,101] nt []]) _ _ _ A9 kr hq
  ·simp only[e,if_true]at hq A8';have g1:=g.trans (ak W g.ok);refine W1 r5 ?_;refine kH W CE [93] A8'.re g1.ok (l1.fwd g1) fun h7 v A9 k9=>?_;generalize insideM T M [93] (r.step T)=x at hq A9 k9;obtain⟨m,r2⟩:=x;simp only at hq A9 k9;obtain⟨kv,rfl,kb⟩:=k9.inv;have kf:=kb.flat;have A9':=A8'.back A9;have kg:=bk A8' r8 kb;have r8':=A9.keep (Ne.symm n8) r8;have r5':=A9.keep (Ne.symm n5) r5;refine W2 r5' kf ?_;intro bs hbs;have n8s:=af hbs r8';have n5s:=af hbs r5';have kr:=oh A9' r8' hbs kg;have A10:=A9'.put (o:=.cells (nodeC m kv) false) hbs;have u8:hadd h7 bs (.cells (nodeC m kv) false) b8=_:=(ae n8s).trans r8';refine W2 r5' kf ?_;refine aQ [105,110,100,101,120] nt rfl ?_;refine W2 r5' kf ?_;intro bt hbt;have n8t:=af hbt u8;have kr2:=oh A10 u8 hbt (m:=aN [105,110,100,101,120] nt [m]) kr;have A11:=A10.put (o:=.cells (nodeC (aN [105,110,100,101,120] nt [m]) (.sl bs 0 4 1)) false) hbt;refine W0 ?_;refine aS [100,101,108,101,116,101] (l:=[]) rfl ?_;refine W1 r8' ?_;exact fin _ (nodeM [100,101,108,101,116,101] [aN [105,110,100,101,120] nt [m]]) _ _ _ A11 kr2 hq
 have d6:(tt.t=[100,101,108,101,116,101])=False:=eq_false c6
 by_cases c7:tt.t=[112,114,105,110,116]
 ·have d7:(tt.t=[112,114,105,110,116])=True:=eq_true c7;rw[if_neg (by simp only[d1,d2,d3];simp),if_neg (by simp only[d4,d5];simp),if_neg (by simp only[d6];simp),if_pos (.inl c7)]at hq;refine W7 d1 d2 d3 d4 d5 d6 d7 ?_;refine aZ A3.re fun h3 A4=>?_;have A4':=A3.back A4;have r3:=A4.keep (Ne.symm n3) r3;have r8:=A4.keep (Ne.symm n8) r8;refine W1 r3 ?_;refine zt W CE CC tt.t A4'.re f1.ok l1 fun h5 v A5 k5=>?_;generalize outputM T M U tt.t (s.step T)=x at hq A5 k5;obtain⟨m,r⟩:=x;simp only at hq A5 k5;obtain⟨kv,rfl,kb⟩:=k5.inv;have kf:=kb.flat;have r8':=A5.keep (Ne.symm n8) r8;refine W2 r8' kf ?_;exact fin _ m _ _ _ (A4'.back A5) (bk A4' r8 kb) hq
 have d7:(tt.t=[112,114,105,110,116])=False:=eq_false c7
 by_cases c8:tt.t=[112,114,105,110,116,102]
 ·have d8:(tt.t=[112,114,105,110,116,102])=True:=eq_true c8;rw[if_neg (by simp only[d1,d2,d3];simp),if_neg (by simp only[d4,d5];simp),if_neg (by simp only[d6];simp),if_pos (.inr c8)]at hq;refine W8 d1 d2 d3 d4 d5 d6 d7 d8 ?_;refine aZ A3.re fun h3 A4=>?_;have A4':=A3.back A4;have r3:=A4.keep (Ne.symm n3) r3;have r8:=A4.keep (Ne.symm n8) r8;refine W1 r3 ?_;refine zt W CE CC tt.t A4'.re f1.ok l1 fun h5 v A5 k5=>?_;generalize outputM T M U tt.t (s.step T)=x at hq A5 k5;obtain⟨m,r⟩:=x;simp only at hq A5 k5;obtain⟨kv,rfl,kb⟩:=k5.inv;have kf:=kb.flat;have r8':=A5.keep (Ne.symm n8) r8;refine W2 r8' kf ?_;exact fin _ m _ _ _ (A4'.back A5) (bk A4' r8 kb) hq
 have d8:(tt.t=[112,114,105,110,116,102])=False:=eq_false c8;rw[if_neg (by simp only[d1,d2,d3];simp),if_neg (by simp only[d4,d5];simp),if_neg (by simp only[d6];simp),if_neg (by simp only[d7,d8];simp)]at hq;refine W8 d1 d2 d3 d4 d5 d6 d7 d8 ?_;refine gX A3.re fun h5 A7=>?_;have r8:=A7.keep (Ne.symm n8) r8;refine W1 r8 ?_;exact fin _ .zero _ _ _ (A3.back A7) .nil hq
end
section
open Mir
variable{h:H}{Q:V→H→Prop}{h0 h1 h':H}{p tb:Nat}{T:List Tokn}{s s':PS}{N n c m:Nat}
theorem oL(W:TkOk T N){S:PF}(CS:FC T N n c 69 S):FC T N n c 85 (bodyM T S):=by
 refine⟨fun h0 h p tb s Q A hs hl hq=>?_,fun s hs hl=>?_,fun s hs hl=>?_⟩
 ·unfold bodyM at hq;have f1:=aA W hs;refine AC.fn' (g:=g85) rfl (by simp only[List.length_cons,List.length_nil,g85];decide) ?_;simp only[g85,Mir.Ab.all];refine W0 ?_;intro b8 hb8;have A1:=A.put (o:=.cells Z4 false) hb8;have n8:=A.ne hb8;have z8:=A.new hb8;refine W0 ?_;refine bI A1.re W.last fun h2 A2=>?_;have A2':=A1.back A2;have r8:=A2.keep (Ne.symm n8) (b:=b8) (o:=.cells Z4 false) ah;refine W0 ?_;refine CS.run _ _ _ _ _ _ A2'.re f1.ok (hl.fwd f1) fun h3 v A3 k3=>?_;generalize S (s.lines T)=x at hq A3 k3;obtain⟨kv,rfl,kb⟩:=k3.inv;have kf:=kb.flat;have r8':=A3.keep (Ne.symm n8) r8;obtain⟨A4,k4⟩:=jI A2' A3 r8 (Ne.symm n8) z8 k3 (.cells (nodeC x.1 kv) false);refine W2 r8' kf ?_;exact⟨_,Sub.refl,hq _ _ A4 k4⟩
 ·have f1:=aA W hs;exact f1.trans (CS.fwd _ f1.ok (hl.fwd f1))
 ·have f1:=aA W hs;exact Adv.right f1 (CS.adv _ f1.ok (hl.fwd f1)) (CS.fwd _ f1.ok (hl.fwd f1))
theorem SlAt.new{g:H}(hz:∀x,h x=none→g x=none){b:Nat}(hn:h b=none)(nb:b≠p){l:List Tree}{cs:List V}(hl:l≠[])(k:CellsV g h p l cs):SlAt g (hadd h b (.cells cs false)) p l (.sl b 0 4 l.length):=
 .inr ⟨b,cs,hl,hz _ hn,nb,rfl,ah,CellsV.move (fun x o z nx hx=>⟨by rw[ae (af hn hx)];exact z,by rw[ae (af hn hx)];exact hx⟩) k⟩
theorem CW(W:TkOk T N){E S:PF}(he:∀s,SOk T N s→lvl n c s→Fwd T N s (E s).2)(hf:∀s,SOk T N s→lvl n c s→Fwd T N s (bodyM T S s).2)(hs:SOk T N s)(hl:lvl n c s):Fwd T N s (choiceM T E S s).2:=by
 have f1:=ay W hs [40];have f2:=f1.trans (eY W he [41] f1.ok (hl.fwd f1));have f3:=f2.trans (hf _ f2.ok (hl.fwd f2));unfold choiceM;dsimp only;generalize bodyM T S (insideM T E [41] (s.expect T [40])).2=y at f3;have f4:=aA W f3.ok;have f5:Fwd T N y.2 (if(y.2.lines T).isAt T [[59]]=true then((y.2.lines T).step T).lines T else y.2.lines T):=by
  split
  ·have f5:=f4.trans (ak W f4.ok);exact f5.trans (aA W f5.ok)
  ·exact f4
 generalize (if(y.2.lines T).isAt T [[59]]=true then((y.2.lines T).step T).lines T else y.2.lines T)=s2 at f5;split
 ·have f6:=f5.trans (ak W f5.ok);have f7:=f6.trans (hf _ f6.ok ((hl.fwd f3).fwd f6));exact f3.trans f7
 ·split
  ·rename_i e;refine f3.trans ⟨Nat.le_refl _,f5.deep,fun h=>absurd (f5.err e) h,⟨f3.ok.lt,f5.ok.code,f5.ok.bad,f5.ok.low⟩⟩
  ·exact f3.trans f5
theorem H5(W:TkOk T N){M S:PF}(CE:FC T N n c 46 M)(CB:FC T N n c 85 (bodyM T S))(A:PAt h0 h p tb T s)(hs:SOk T N s)(hl:lvl n c s)
  (hq:∀h' v,PAt h0 h' p tb T (choiceM T M S s).2→NodeV h0 h' p (choiceM T M S s).1 v→Q v h'):AC pg (.fn 83) [.ptr p 0] h Q:=by
 have f1:=ay W hs [40];unfold choiceM at hq;dsimp only at hq;refine AC.fn' (g:=g83) rfl (by simp only[List.length_cons,List.length_nil,g83];decide) ?_;simp only[g83,Mir.Ab.all];refine W0 ?_;intro b8 hb8;have n8:=A.ne hb8;have z8:=A.new hb8;obtain⟨g0,hg0⟩:∃g0:H,g0=hadd h0 b8 (.cells Z4 false):=⟨_,rfl⟩;have g08:g0 b8=some (.cells Z4 false):=by rw[hg0];exact ah
 have A0:=A.put (o:=.cells Z4 false) hb8;have A1:PAt g0 (hadd h b8 (.cells Z4 false)) p tb T s:=by rw[hg0];exact A0.more ah (Ne.symm n8) z8
 unfold Z4 at A1;refine W0 ?_;generalize hadd h b8 _=h2 at A1⊢;have fin:∀(h7:H) (m:Tree) (s7:PS) (kv:V) (o:AObj),PAt g0 h7 p tb T s7→KidsV g0 h7 p m.kids kv→(∀h' v,PAt h0 h' p tb T s7→NodeV h0 h' p m v→Q v h')→∃h3,Mir.Sub h3 (hadd h7 b8 o)∧Q (.agg (nodeC m kv)) h3:=fun h7 m s7 kv o B k hq'=>by
  rw[hg0]at B k;exact⟨_,Sub.refl,hq' _ _ ((B.less A z8).over z8 (Ne.symm n8)) (NodeV.of (KidsV.move (fun x o z nx hx=>⟨(ax z).2,by rw[ae (ax z).1];exact hx⟩) k))⟩
 refine bT A1 [40] fun h3 A2=>?_;refine W0 ?_;refine kH W CE [41] A2.re f1.ok (hl.fwd f1) fun h4 v A3 k3=>?_;have f2:=f1.trans (eY W CE.fwd [41] f1.ok (hl.fwd f1));generalize insideM T M [41] (s.expect T [40])=x at hq A3 k3 f2;obtain⟨m1,r1⟩:=x;simp only at hq A3 k3 f2;obtain⟨kv1,rfl,kb1⟩:=k3.inv;have kf1:=kb1.flat;have A3':=A2.back A3;have k1:=NodeV.back A2 k3;refine W0 ?_;refine CB.run _ _ _ _ _ _ A3'.re f2.ok (hl.fwd f2) fun h5 v A4 k4=>?_;have f3:=f2.trans (CB.fwd _ f2.ok (hl.fwd f2));generalize bodyM T S r1=y at hq A4 k4 f3;obtain⟨m2,r2⟩:=y;simp only at hq A4 k4 f3;obtain⟨kv2,rfl,kb2⟩:=k4.inv;have kf2:=kb2.flat;have A4':=A3'.back A4;have k2:=NodeV.back A3' k4;have k1:=k1.keep A4;refine W2 kf1 kf2 ?_;intro b11 hb11;have S5:SlAt g0 (hadd h5 b11 (.cells (nodeC m1 kv1++nodeC m2 kv2) false)) p [m1,m2] (.sl b11 0 4 2):=SlAt.new (g:=g0) (h:=h5) (fun x hx=>A4'.new hx) hb11 (Ne.symm (A4'.ne hb11)) (l:=[m1,m2]) (by simp) ((CellsV.one k1).app (CellsV.one k2));have A5:=A4'.put (o:=.cells (nodeC m1 kv1++nodeC m2 kv2) false) hb11;refine W0 ?_;refine aS [105,102] (l:=[]) rfl ?_;refine W0 ?_;intro b3 hb3;have n3:=A5.ne hb3;have z3:=A5.new hb3;have A6:=A5.put (o:=.cells [.str [105,102],.str [],.int .i64 0,.sl b11 0 4 2] false) hb3;obtain⟨g3,hg3⟩:∃g3:H,g3=hadd g0 b3 (.cells [.str [105,102],.str [],.int .i64 0,.sl b11 0 4 2] false):=⟨_,rfl⟩;have g33:g3 b3=some (.cells [.str [105,102],.str [],.int .i64 0,.sl b11 0 4 2] false):=by rw[hg3];exact ah
 have A6g:PAt g3 (hadd (hadd h5 b11 (.cells (nodeC m1 kv1++nodeC m2 kv2) false)) b3 (.cells [.str [105,102],.str [],.int .i64 0,.sl b11 0 4 2] false)) p tb T r2:=by rw[hg3];exact A6.more ah (Ne.symm n3) z3
 have S6:SlAt g3 (hadd (hadd h5 b11 (.cells (nodeC m1 kv1++nodeC m2 kv2) false)) b3 (.cells [.str [105,102],.str [],.int .i64 0,.sl b11 0 4 2] false)) p [m1,m2] (.sl b11 0 4 2):=by
  rw[hg3];exact SlAt.move (fun x o z nx hx=>⟨by rw[ae (af hb3 hx)];exact z,by rw[ae (af hb3 hx)];exact hx⟩) S5
 have hp4:=A4'.obj;unfold psC at hp4;have n11:=A4'.ne hb11;refine W1 hp4 ?_;obtain⟨s2,hs2⟩:∃s2,s2=if(r2.lines T).isAt T [[59]]=true then((r2.lines T).step T).lines T else r2.lines T:=⟨_,rfl⟩
 rw[← hs2]at hq;have f4:=aA W f3.ok;have f5:Fwd T N r2 s2:=by
  rw[hs2];split
  ·have f5:=f4.trans (ak W f4.ok);exact f5.trans (aA W f5.ok)
  ·exact f4
 refine bI A6g.re W.last fun h7 A7=>?_;have S7:=S6.keep A7;have A7:=A6g.back A7;refine W0 ?_;refine aO A7.re [59] fun h8 A8=>?_;have A8':=A7.back A8;have S8:=S7.keep A8;refine W0 ?_;refine dn AC.mono (fun ex a' h'=>ex=.nm∧a'.d=[]∧a'.t 0=.ptr p 0∧a'.t 2=.ptr b8 0∧a'.t 3=.ptr b3 0∧a'.t 4=.int .i64 r2.i∧PAt g3 h' p tb T s2∧SlAt g3 h' p [m1,m2] (.sl b11 0 4 2)) ?_ ?_
 ·cases e:(r2.lines T).isAt T [[59]]
  ·simp only[e,if_false,Bool.false_eq_true]at hs2 A8';subst hs2;refine W0 ?_;exact⟨A8',S8⟩
  ·simp only[e,if_true]at hs2 A8';subst hs2;refine W0 ?_;refine bI A8'.re W.last fun h9 A9=>?_;refine W0 ?_;exact⟨A8'.back A9,S8.keep A9⟩
 ·rintro ex ⟨t,ds⟩ h9 ⟨rfl,hd,t0,t2,t3,t4,A9,S9⟩;simp only at hd t0 t2 t3 t4;subst hd;refine W4 t0 t2 t3 t4 ?_;refine aO A9.re [101,108,115,101] fun h10 A10=>?_;have A10':=A9.back A10;have S10:=S9.keep A10;have r3:=A10'.sub _ _ g33;have h8:h10 b8=some (.cells Z4 false):=by
   refine A10'.sub _ _ ?_;rw[hg3,ae (fun e=>by rw[← e,g08]at z3;cases z3)];exact g08
  cases e:s2.isAt T [[101,108,115,101]]
  ·simp only[e,if_false,Bool.false_eq_true]at hq A10';have hp10:=A10'.obj;unfold psC at hp10;have fin2:∀(h11:H) (s7:PS),PAt g3 h11 p tb T s7→SlAt g3 h11 p [m1,m2] (.sl b11 0 4 2)→(∀h' v,PAt h0 h' p tb T s7→NodeV h0 h' p (nodeM [105,102] [m1,m2]) v→Q v h')→∃h3,Mir.Sub h3 (hadd h11 b8 (.cells (nodeC (nodeM [105,102] [m1,m2]) (.sl b11 0 4 2)) false))∧Q (.agg (nodeC (nodeM [105,102] [m1,m2]) (.sl b11 0 4 2))) h3:=fun h11 s7 B S hq'=>by
    rw[hg3]at B S;exact fin _ (nodeM [105,102] [m1,m2]) _ _ _ (B.less A1 z3) (KidsV.move (fun x o z nx hx=>⟨(ax z).2,hx⟩) S.kids) hq'
   by_cases e0:s2.err=0
   ·rw[if_pos e0]at hq;have A11:=A10'.set {s2 with i:=r2.i} f3.ok.lt A10'.deep;have S11:SlAt g3 (hadd h10 p (.cells (psC tb T.length {s2 with i:=r2.i}) false)) p [m1,m2] (.sl b11 0 4 2):=S10.set;unfold psC at A11 S11;have n3p:=n3;refine W7 t0 t2 t3 t4 hp10 r3 h8 ?_;exact fin2 _ _ A11 S11 hq
   ·rw[if_neg e0]at hq;refine W7 t0 t2 t3 t4 hp10 r3 h8 ?_;exact fin2 _ _ A10' S10 hq
  ·simp only[e,if_true]at hq A10';have f6:=f5.trans (ak W f5.ok);refine W5 t0 t2 t3 t4 r3 ?_;refine CB.run _ _ _ _ _ _ A10'.re f6.ok ((hl.fwd f3).fwd f6) fun h11 v A11 k11=>?_;generalize bodyM T S (s2.step T)=z at hq A11 k11;obtain⟨m3,r3s⟩:=z;simp only at hq A11 k11;obtain⟨kv3,rfl,kb3⟩:=k11.inv;have kf3:=kb3.flat;have A11':=A10'.back A11;have S11:=S10.keep A11;rcases S11 with⟨e,_⟩|⟨b,cs,q1,q2,q3,q4,q5,q6⟩
   ·cases e
   cases q4;have cl:=q6.len;have kt:=CellsV.off A10' (b:=b11) (o:=.cells cs false) (by
    rcases S10 with⟨e,_⟩|⟨b,cs',w1,w2,w3,w4,w5,w6⟩
    ·cases e
    ·cases w4;have:=A11.keep w3 w5;rw[q5]at this;cases this;exact w5) (CellsV.one k11)
   have r3':=A11'.sub _ _ g33;have h8':h11 b8=some (.cells Z4 false):=by
    refine A11'.sub _ _ ?_;rw[hg3,ae (fun e=>by rw[← e,g08]at z3;cases z3)];exact g08
   refine W6 t0 t2 t3 t4 kf3 r3' ?_;intro bn hbn;have nbn:=af hbn q5;have n3n:=af hbn r3';have n8n:=af hbn h8';have tk:List.take 8 cs=cs:=List.take_of_length_le (by simp only[List.length_cons,List.length_nil]at cl;omega);simp only[List.length_cons,List.length_nil]at cl;refine W7 t0 t2 t3 t4 q5 cl r3' ?_;intro ba nab hba;have hba':h11 ba=none:=by
    have n:ba≠bn:=fun e=>by rw[e,ah]at hba;cases hba
    rw[ae n]at hba;exact hba
   have n3a:=af hba' r3';have n8a:=af hba' h8';have nb3:b11≠b3:=fun e=>by rw[e,g33]at q2;cases q2
   have nb8:b11≠b8:=fun e=>by rw[e,hg3,ae (fun e=>by rw[← e,g08]at z3;cases z3),g08]at q2;cases q2
   have n83:b8≠b3:=fun e=>by rw[← e,g08]at z3;cases z3
   have S12:=SlAt.more A11' (o:=.cells (nodeC m3 kv3) false) q1 q6 hbn nab hba kt;have A12:=((A11'.put (o:=.cells (nodeC m3 kv3) false) hbn).lose q2 q3).put (o:=.cells (cs++nodeC m3 kv3) false) (by unfold hset;rw[if_neg nab];exact hba);rw[hg3]at A12 S12;have A13:=(A12.less A1 z3).over (o:=.cells [.str [105,102],.str [],.int .i64 0,.sl ba 0 4 3] false) z3 (Ne.symm n3);have k13:KidsV g0 (hadd (hadd (hset (hadd h11 bn (.cells (nodeC m3 kv3) false)) b11 none) ba (.cells (cs++nodeC m3 kv3) false)) b3 (.cells [.str [105,102],.str [],.int .i64 0,.sl ba 0 4 3] false)) p [m1,m2,m3] (.sl ba 0 4 3):=
    KidsV.move (fun x o z nx hx=>⟨(ax z).2,by rw[ae (ax z).1];exact hx⟩) S12.kids
   refine W7 t0 t2 t3 t4 tk r3' h8' ?_;exact fin _ (nodeM [105,102] [m1,m2,m3]) _ _ _ A13 k13 hq
end
section
open Mir
variable{h:H}{Q:V→H→Prop}{h0 h1 h':H}{p tb:Nat}{T:List Tokn}{s s':PS}{N n c m:Nat}
theorem zG(W:TkOk T N):∀(k:Nat) {s:PS},SOk T N s→Fwd T N s (skipN T k s)
 |0,_,hs=>Fwd.refl hs
 |k+1,s,hs=>by
   unfold skipN;split
   ·exact(ak W hs).trans (zG W k (ak W hs).ok)
   ·exact Fwd.refl hs
theorem sG(W:TkOk T N)(hs:SOk T N s):Fwd T N s (s.skip T):=zG W _ hs
theorem vJ(W:TkOk T N){S:PF}(hf:∀s,SOk T N s→lvl n c s→Fwd T N s (S s).2):∀(k:Nat) {l:List Tree} {s:PS},SOk T N s→lvl n c s→Fwd T N s (blockN T S k l s).2
 |0,_,_,hs,_=>Fwd.refl hs
 |k+1,l,s,hs,hl=>by
   unfold blockN;have f1:=sG W hs;dsimp only;split
   ·split
    ·exact f1.trans (ak W f1.ok)
    ·have f2:=f1.trans (hf _ f1.ok (hl.fwd f1));exact f2.trans (vJ W hf k f2.ok (hl.fwd f2))
   ·exact Fwd.refl hs
theorem qi(W:TkOk T N){S:PF}(hf:∀s,SOk T N s→lvl n c s→Fwd T N s (S s).2)(hs:SOk T N s)(hl:lvl n c s):Fwd T N s (blockM T S s).2∧Adv s (blockM T S s).2:=by
 have f1:=ay W hs [123];have f2:=vJ W hf (T.length+1) (l:=[]) f1.ok (hl.fwd f1);exact⟨f1.trans f2,(EW W hs [123]).left f2⟩
theorem SlAt.first'{g:H}(hz:∀x,h x=none→g x=none)(hp:∀x,h x=none→x≠p){bn ba:Nat}{o:AObj}{t:Tree}{ds:List V}(hn:h bn=none)(ha:hadd h bn o ba=none)(k:CellsV g h p [t] ds):
  SlAt g (hadd (hadd h bn o) ba (.cells ds false)) p [t] (.sl ba 0 4 1):=by
 have na:ba≠bn:=fun e=>by rw[e]at ha;simp[hadd,hset]at ha
 have ha':h ba=none:=by rw[ae na]at ha;exact ha
 exact .inr ⟨ba,ds,by simp,hz _ ha',hp _ ha',rfl,ah,CellsV.move (fun x o' z nx hx=>⟨by rw[ae (af ha' hx)];exact z,by rw[ae (af ha' hx),ae (af hn hx)];exact hx⟩) k⟩
theorem SlAt.more'{g:H}(hz:∀x,h x=none→g x=none)(hp:∀x,h x=none→x≠p){b bn ba:Nat}{o:AObj}{l:List Tree}{t:Tree}{cs ds:List V}(hl:l≠[])(k:CellsV (hadd g b (.cells [] false)) h p l cs)(hn:h bn=none)(nab:ba≠b)(ha:hadd h bn o ba=none)(kt:CellsV (hadd g b (.cells [] false)) h p [t] ds):
  SlAt g (hadd (hset (hadd h bn o) b none) ba (.cells (cs++ds) false)) p (l++[t]) (.sl ba 0 4 (l.length+1)):=by
 have na:ba≠bn:=fun e=>by rw[e]at ha;simp[hadd,hset]at ha
 have ha':h ba=none:=by rw[ae na]at ha;exact ha
 exact .inr ⟨ba,_,by simp,hz _ ha',hp _ ha',by simp,ah,CellsV.move (fun x o' z nx hx=>⟨by rw[ae (af ha' hx)];exact(ax z).2,by
  rw[ae (af ha' hx)];show hset _ b none x=_;unfold hset;rw[if_neg (ax z).1];show hadd h bn o x=_;rw[ae (af hn hx)];exact hx⟩) (k.app kt)⟩
theorem Cj(W:TkOk T N){S:PF}(CS:FC T N n c 69 S):FC T N n c 41 (blockM T S):=by
 refine⟨fun h0 h p tb s Q A hs hl hq=>?_,fun s hs hl=>(qi W CS.fwd hs hl).1,fun s hs hl=>(qi W CS.fwd hs hl).2⟩;unfold blockM at hq;have f1:=ay W hs [123];have l1:=hl.fwd f1;generalize hx:blockN T S (T.length+1) [] (s.expect T [123])=x at hq;refine AC.fn' (g:=g41) rfl (by simp only[List.length_cons,List.length_nil,g41];decide) ?_;simp only[g41,Mir.Ab.all];refine W0 ?_;intro b8 hb8;have n8:=A.ne hb8;have z8:=A.new hb8;have A1:=A.put (o:=.cells Z4 false) hb8;refine W0 ?_;refine aS [98,108,111,99,107] (l:=[]) rfl ?_;refine W0 ?_;intro b3 hb3;have n3:=A1.ne hb3;have z3:=A1.new hb3;have n83:b8≠b3:=fun e=>by rw[← e,ah]at hb3;cases hb3
 have A2:=A1.put (o:=.cells [.str [98,108,111,99,107],.str [],.int .i64 0,.nilsl] false) hb3;have r8:hadd (hadd h b8 (.cells Z4 false)) b3 (.cells [.str [98,108,111,99,107],.str [],.int .i64 0,.nilsl] false) b8=some (.cells Z4 false):=by rw[ae n83];exact ah
 refine W0 ?_;refine bT A2.re [123] fun h3 A3=>?_;have A3':=A2.back A3;have r8:=A3.keep (Ne.symm n8) r8;have r3:=A3.keep (Ne.symm n3) (b:=b3) (o:=.cells [.str [98,108,111,99,107],.str [],.int .i64 0,.nilsl] false) ah;obtain⟨g,hg⟩:∃g:H,g=gg h0 b8 b3:=⟨_,rfl⟩;have G0:∀y,g y=none→y≠b3∧y≠b8∧h0 y=none:=fun y hy=>by rw[hg]at hy;exact dM hy
 have G1:∀y,y≠b3→y≠b8→h0 y=none→g y=none:=fun y a b c=>by rw[hg];exact pW a b c
 refine W0 ?_;refine E.cut AC.mono (fun ex a' h'=>ex=.exit 0∧a'.d=[]∧a'.t 0=.ptr p 0∧a'.t 2=.ptr b8 0∧a'.t 3=.ptr b3 0∧PAt h0 h' p tb T x.2∧h' b8=some (.cells Z4 false)∧∃v,h' b3=some (.cells [.str [98,108,111,99,107],.str [],.int .i64 0,v] false)∧SlAt g h' p x.1 v) ?_ ?_
 ·refine E.loopX AC.mono (fun(y:Nat × List Tree × PS) a' h'=>blockN T S y.1 y.2.1 y.2.2=x∧(y.2.2.err=0→T.length<y.2.2.i+y.1∧y.2.1.length≤y.2.2.i)∧SOk T N y.2.2∧lvl n c y.2.2∧PAt h0 h' p tb T y.2.2∧h' b8=some (.cells Z4 false)∧(∃v,h' b3=some (.cells [.str [98,108,111,99,107],.str [],.int .i64 0,v] false)∧SlAt g h' p y.2.1 v)∧a'.d=[]∧a'.t 0=.ptr p 0∧a'.t 2=.ptr b8 0∧a'.t 3=.ptr b3 0) (fun y=>y.1) (T.length+1,[],s.expect T [123]) ?_ ?_
  ·exact⟨hx,fun _=>⟨by show T.length<(s.expect T [123]).i+(T.length+1);omega,Nat.zero_le _⟩,f1.ok,l1,A3',r8,⟨.nilsl,r3,.inl ⟨rfl,rfl⟩⟩,rfl,rfl,rfl,rfl⟩
  ·rintro⟨k,l,r⟩ ⟨t,ds⟩ h4 ⟨hk,hr,sr,lr,A4,r8,⟨v,r3,S4⟩,hd,t0,t2,t3⟩;simp only at hk hr sr lr A4 S4 hd t0 t2 t3;subst hd;have hp4:=A4.obj;unfold psC at hp4;have hlt:=A4.lt;have sm:=A4.small
   by_cases e0:r.err=0
   ·obtain⟨hr1,hr2⟩:=hr e0;obtain⟨k,rfl⟩:∃k',k=k'+1:=⟨k-1,by omega⟩;rw[blockN,if_pos e0]at hk;dsimp only at hk;have fs:=sG W sr;refine W4 t0 t2 t3 hp4 ?_;refine E.cut AC.mono (fun ex a' h'=>ex=.exit 2∧a'.d=[]∧a'.t 0=.ptr p 0∧a'.t 2=.ptr b8 0∧a'.t 3=.ptr b3 0∧PAt h0 h' p tb T (r.skip T)∧h' b8=some (.cells Z4 false)∧h' b3=some (.cells [.str [98,108,111,99,107],.str [],.int .i64 0,v] false)∧SlAt g h' p l v) ?_ ?_
    ·refine E.loopX AC.mono (fun(y:Nat × PS) a' h'=>skipN T y.1 y.2=r.skip T∧(y.2.err=0→T.length≤y.2.i+y.1)∧SOk T N y.2∧PAt h0 h' p tb T y.2∧h' b8=some (.cells Z4 false)∧h' b3=some (.cells [.str [98,108,111,99,107],.str [],.int .i64 0,v] false)∧SlAt g h' p l v∧a'.d=[]∧a'.t 0=.ptr p 0∧a'.t 2=.ptr b8 0∧a'.t 3=.ptr b3 0) (fun y=>y.1) (T.length,r) ?_ ?_
     ·exact⟨rfl,fun _=>by show T.length≤r.i+T.length;omega,sr,A4,r8,r3,S4,rfl,t0,t2,t3⟩
     ·rintro⟨k2,q⟩ ⟨t,ds⟩ h5 ⟨hk2,hq2,sq,A5,r8,r3,S5,hd,t0,t2,t3⟩;simp only at hk2 hq2 sq A5 hd t0 t2 t3;subst hd;refine W3 t0 t2 t3 ?_;intro b1 hb1;have n81:=af hb1 r8;have n31:=af hb1 r3;have A6:=A5.put (o:=.cells [.str [59]] false) hb1;have S6:=S5.put (o:=.cells [.str [59]] false) hb1;have r8':hadd h5 b1 (.cells [.str [59]] false) b8=_:=(ae n81).trans r8;have r3':hadd h5 b1 (.cells [.str [59]] false) b3=_:=(ae n31).trans r3;refine W3 t0 t2 t3 ?_;refine gu (ss:=[[59]]) A6 ah (by decide) ?_;have go:q.isAt T [[59]]=true∨(q.cur T).k=1→∀h6,PAt (hset (hadd h5 b1 (.cells [.str [59]] false)) p none) h6 p tb T (q.step T)→∃x':Nat × PS,x'.1<k2∧skipN T x'.1 x'.2=r.skip T∧(x'.2.err=0→T.length≤x'.2.i+x'.1)∧SOk T N x'.2∧PAt h0 h6 p tb T x'.2∧h6 b8=some (.cells Z4 false)∧h6 b3=some (.cells [.str [98,108,111,99,107],.str [],.int .i64 0,v] false)∧SlAt g h6 p l v:=fun hc h6 A7=>by
       have ek:(q.cur T).k≠0:=by rcases hc with e|e;(rcases at_k e with e|e<;>omega);omega
       have eq0:=iM ek;have nl:=kQ W ek sq;obtain⟨k3,rfl⟩:∃k',k2=k'+1:=⟨k2-1,by have:=hq2 eq0;have:=sq.lt;omega⟩;rw[skipN,if_pos hc]at hk2;refine⟨(k3,q.step T),by show k3<k3+1;omega,hk2,fun e=>?_,(ak W sq).ok,A6.back A7,A7.keep (Ne.symm n8) r8',A7.keep (Ne.symm n3) r3',S6.keep A7⟩;have:=hq2 eq0
       show T.length≤(q.step T).i+k3
       rw[show q.step T={q with i:=q.i+1} from by unfold PS.step;rw[if_pos ⟨eq0,nl⟩]]
       show T.length≤q.i+1+k3
       omega
      cases ea:q.isAt T [[59]]
      ·refine W3 t0 t2 t3 ?_;refine dL A6 ?_;rw[jd]
       by_cases k1:(q.cur T).k=1
       ·refine W3 t0 t2 t3 ?_;refine aZ A6.re fun h6 A7=>?_;refine W3 t0 t2 t3 ?_;exact go (.inr k1) _ A7
       ·have:q=r.skip T:=by
         rw[← hk2];cases k2 with
         |zero=>rfl
         |succ k2=>rw[skipN,if_neg (by simp[ea,k1])]
        subst this;refine W3 t0 t2 t3 ?_;exact⟨A6,r8,r3,S6⟩
      ·refine W3 t0 t2 t3 ?_;refine aZ A6.re fun h6 A7=>?_;refine W3 t0 t2 t3 ?_;exact go (.inl ea) _ A7
    ·rintro ex ⟨t,ds⟩ h5 ⟨rfl,hd,t0,t2,t3,A5,r8,r3,S5⟩;simp only at hd t0 t2 t3;subst hd;refine W3 t0 t2 t3 ?_;refine aO A5.re [125] fun h6 A6=>?_;have A6':=A5.back A6;have r8:=A6.keep (Ne.symm n8) r8;have r3:=A6.keep (Ne.symm n3) r3;have S6:=S5.keep A6;cases ec:(r.skip T).isAt T [[125]]
     case true =>
      simp only[ec,if_true]at hk A6';rw[← hk];refine W3 t0 t2 t3 ?_;exact⟨A6',r8,v,r3,S6⟩
     simp only[ec,if_false,Bool.false_eq_true]at hk A6';have vf:=S6.kids.flat;refine W4 t0 t2 t3 r3 ?_;refine CS.run _ _ _ _ _ _ A6'.re fs.ok (lr.fwd fs) fun h7 w A7 k7=>?_;have g2:=fs.trans (CS.fwd _ fs.ok (lr.fwd fs));have a2:=Adv.right fs (CS.adv _ fs.ok (lr.fwd fs)) (CS.fwd _ fs.ok (lr.fwd fs));generalize S (r.skip T)=y at hk A7 k7 g2 a2;obtain⟨m,r2⟩:=y;simp only at hk A7 k7 g2 a2;obtain⟨kv,rfl,kb⟩:=k7.inv;have kf:=kb.flat;have A7':=A6'.back A7;have S7:=S6.keep A7;have r8':=A7.keep (Ne.symm n8) r8;have r3':=A7.keep (Ne.symm n3) r3;have kc:∀(P:Nat→Prop),(∀y,(h6 y=none)→P y)→True:=fun _ _=>trivial;have bnd:r2.err=0→T.length<r2.i+k∧(l++[m]).length≤r2.i:=fun e1=>by
      rw[List.length_append]
      show _∧l.length+1≤_
      rcases a2 e0 with d|d
      ·omega
      ·exact absurd e1 d
     have hz:∀y,h7 y=none→g y=none:=fun y hy=>G1 y (af hy r3').symm (af hy r8').symm (A7'.new hy);have hpz:∀y,h7 y=none→y≠p:=fun y hy=>Ne.symm (A7'.ne hy);refine W6 t0 t2 t3 kf r3' vf ?_;intro bn hbn;have n3n:=af hbn r3';have n8n:=af hbn r8';rcases S7 with⟨el,ev⟩|⟨b,cs,q1,q2,q3,q4,q5,q6⟩
     ·subst el;refine W5 t0 t2 t3 ev r3' ?_;intro ba hba;have hba':h7 ba=none:=by
       have n:ba≠bn:=fun e=>by rw[e,ah]at hba;cases hba
       rw[ae n]at hba;exact hba
      have n3a:=af hba' r3';have n8a:=af hba' r8';have kt:CellsV g h7 p [m] (nodeC m kv):=CellsV.move (fun y o z nx hy=>⟨by
       rw[show hset h6 p none y=h6 y from if_neg nx]at z;exact G1 y (af z r3).symm (af z r8).symm (A6'.new z),hy⟩) (CellsV.one k7)
      have S8:=SlAt.first' (o:=.cells (nodeC m kv) false) hz hpz hbn hba kt;have A8:=((A7'.put (o:=.cells (nodeC m kv) false) hbn).put (o:=.cells (nodeC m kv) false) hba).over (o:=.cells [.str [98,108,111,99,107],.str [],.int .i64 0,.sl ba 0 4 1] false) z3 (Ne.symm n3);have S9:SlAt g (hadd (hadd (hadd h7 bn (.cells (nodeC m kv) false)) ba (.cells (nodeC m kv) false)) b3 (.cells [.str [98,108,111,99,107],.str [],.int .i64 0,.sl ba 0 4 1] false)) p [m] (.sl ba 0 4 1):=
       SlAt.move (fun y o z nx hy=>⟨z,by rw[ae (G0 _ z).1];exact hy⟩) S8
      refine W5 t0 t2 t3 ev r3' ?_;refine⟨(k,[m],r2),by show k<k+1;omega,hk,bnd,g2.ok,lr.fwd g2,A8,r8',.sl ba 0 4 1,rfl,S9⟩
     ·have cl:=q6.len;have nbn:=af hbn q5;have tk:List.take (l.length*4) cs=cs:=List.take_of_length_le (by omega);have nb3:=(G0 _ q2).1;have nb8:=(G0 _ q2).2.1;refine W7 t0 t2 t3 q4 q5 cl r3' ?_;intro ba nab hba;have hba':h7 ba=none:=by
       have n:ba≠bn:=fun e=>by rw[e,ah]at hba;cases hba
       rw[ae n]at hba;exact hba
      have n3a:=af hba' r3';have n8a:=af hba' r8';have hb6:∃o,h6 b=some o:=by
       rcases S6 with⟨e,ev⟩|⟨b',cs',w1,w2,w3,w4,w5,w6⟩
       ·rw[ev]at q4;cases q4
       ·rw[w4]at q4;cases q4;exact⟨_,w5⟩
      obtain⟨ob,hb6⟩:=hb6;have kt:CellsV (hadd g b (.cells [] false)) h7 p [m] (nodeC m kv):=CellsV.move (fun y o z nx hy=>⟨by
       rw[show hset h6 p none y=h6 y from if_neg nx]at z;rw[ae (af z hb6).symm];exact G1 y (af z r3).symm (af z r8).symm (A6'.new z),hy⟩) (CellsV.one k7)
      have S8:=SlAt.more' (o:=.cells (nodeC m kv) false) hz hpz q1 q6 hbn nab hba kt;have A8:=(((A7'.put (o:=.cells (nodeC m kv) false) hbn).lose (G0 _ q2).2.2 q3).put (o:=.cells (cs++nodeC m kv) false) (b:=ba) (by unfold hset;rw[if_neg nab];exact hba)).over (o:=.cells [.str [98,108,111,99,107],.str [],.int .i64 0,.sl ba 0 4 (l.length+1)] false) z3 (Ne.symm n3);have S9:SlAt g (hadd (hadd (hset (hadd h7 bn (.cells (nodeC m kv) false)) b none) ba (.cells (cs++nodeC m kv) false)) b3 (.cells [.str [98,108,111,99,107],.str [],.int .i64 0,.sl ba 0 4 (l.length+1)] false)) p (l++[m]) (.sl ba 0 4 (l.length+1)):=
       SlAt.move (fun y o z nx hy=>⟨z,by rw[ae (G0 _ z).1];exact hy⟩) S8
      refine W6 t0 t2 t3 q4 r3' tk ?_;refine⟨(k,l++[m],r2),by show k<k+1;omega,hk,bnd,g2.ok,lr.fwd g2,A8,r8',.sl ba 0 4 (l.length+1),rfl,S9⟩
   ·have fin:(l,r)=x:=by
     rw[← hk];cases k with
     |zero=>rfl
     |succ k=>rw[blockN,if_neg e0]
    rw[← fin];refine W4 t0 t2 t3 hp4 ?_;exact⟨A4,r8,v,r3,S4⟩
 ·rintro ex ⟨t,ds⟩ h4 ⟨rfl,hd,t0,t2,t3,A4,r8,v,r3,S4⟩;simp only at hd t0 t2 t3;subst hd;have vf:=S4.kids.flat;refine W6 t0 t2 t3 r3 r8 vf ?_;exact⟨_,Sub.refl,hq _ _ (A4.over z8 (Ne.symm n8)) (NodeV.of (t:=nodeM [98,108,111,99,107] x.1) (KidsV.move (fun y o z nx hy=>⟨(G0 _ z).2.2,by rw[ae (G0 _ z).2.1];exact hy⟩) S4.kids))⟩
end
section
open Mir
variable{h:H}{Q:V→H→Prop}{h0 h1 h':H}{p tb:Nat}{T:List Tokn}{s s':PS}{N n c m:Nat}
def forIn(T:List Tokn)(s1:PS):Prop:=(s1.cur T).k=5∧(s1.ahead T 1).k=7∧(s1.ahead T 1).t=[105,110]∧(s1.ahead T 2).k=5∧(s1.ahead T 3).k=8∧(s1.ahead T 3).t=[41]
instance (T:List Tokn)(s1:PS):Decidable (forIn T s1):=inferInstanceAs (Decidable (_∧_))
def forA(T:List Tokn)(F:PF)(e:Txt)(s1:PS):Tree × PS:=if s1.isAt T [e]=true then(nodeM [110,111,110,101] [],s1)else F s1
theorem nX(E U S:PF)(s:PS):loopM T E U S s =
  if forIn T (s.expect T [40])then
   (aN [102,111,114,105,110] (PS.name T (s.expect T [40]) [5]).1 [aN [110,97,109,101] (PS.name T ((PS.name T (s.expect T [40]) [5]).2.step T) [5]).1 [],(bodyM T S ((PS.name T ((PS.name T (s.expect T [40]) [5]).2.step T) [5]).2.step T)).1],
    (bodyM T S ((PS.name T ((PS.name T (s.expect T [40]) [5]).2.step T) [5]).2.step T)).2)
  else
   let a:=forA T (simpleM T E U) [59] (s.expect T [40])
   let b:=forA T E [59] ((a.2.expect T [59]).lines T)
   let c:=forA T (simpleM T E U) [41] ((b.2.expect T [59]).lines T)
   let z:=bodyM T S (c.2.expect T [41])
   (nodeM [102,111,114] [a.1,b.1,c.1,z.1],z.2):=by
 unfold loopM forA forIn;rfl
theorem kC{F:PF}(hf:∀s,SOk T N s→lvl n c s→Fwd T N s (F s).2)(e:Txt)(hs:SOk T N s)(hl:lvl n c s):Fwd T N s (forA T F e s).2:=by
 unfold forA;split
 ·exact Fwd.refl hs
 ·exact hf _ hs hl
theorem II(W:TkOk T N){E U S:PF}(he:∀s,SOk T N s→lvl n c s→Fwd T N s (E s).2)(hsi:∀s,SOk T N s→lvl n c s→Fwd T N s (simpleM T E U s).2)(hf:∀s,SOk T N s→lvl n c s→Fwd T N s (bodyM T S s).2)(hs:SOk T N s)(hl:lvl n c s):Fwd T N s (loopM T E U S s).2:=by
 rw[nX];have f1:=ay W hs [40];split
 ·have f2:=f1.trans (dU W f1.ok [5]);have f3:=f2.trans (ak W f2.ok);have f4:=f3.trans (dU W f3.ok [5]);have f5:=f4.trans (ak W f4.ok);exact f5.trans (hf _ f5.ok (hl.fwd f5))
 ·dsimp only;have f2:=f1.trans (kC hsi [59] f1.ok (hl.fwd f1));have f3:=f2.trans (ay W f2.ok [59]);have f4:=f3.trans (aA W f3.ok);have f5:=f4.trans (kC he [59] f4.ok (hl.fwd f4));have f6:=f5.trans (ay W f5.ok [59]);have f7:=f6.trans (aA W f6.ok);have f8:=f7.trans (kC hsi [41] f7.ok (hl.fwd f7));have f9:=f8.trans (ay W f8.ok [41]);exact f9.trans (hf _ f9.ok (hl.fwd f9))
theorem PM(W:TkOk T N){M U S:PF}(CE:FC T N n c 46 M)(CI:FC T N n c 87 (simpleM T M U))(CB:FC T N n c 85 (bodyM T S))(A:PAt h0 h p tb T s)(hs:SOk T N s)(hl:lvl n c s)
  (hq:∀h' v,PAt h0 h' p tb T (loopM T M U S s).2→NodeV h0 h' p (loopM T M U S s).1 v→Q v h'):AC pg (.fn 86) [.ptr p 0] h Q:=by
 have f1:=ay W hs [40];rw[nX]at hq;refine AC.fn' (g:=g86) rfl (by simp only[List.length_cons,List.length_nil,g86];decide) ?_;simp only[g86,Mir.Ab.all];refine W0 ?_;intro b8 hb8;have n8:=A.ne hb8;have z8:=A.new hb8;have A1:=A.put (o:=.cells Z4 false) hb8;refine W0 ?_;refine bT A1.re [40] fun h3 A3=>?_;have A3':=A1.back A3;have r8:=A3.keep (Ne.symm n8) (b:=b8) (o:=.cells Z4 false) ah;obtain⟨s1,hs1⟩:∃s1,s1=s.expect T [40]:=⟨_,rfl⟩;rw[← hs1]at hq f1 A3';have l1:=hl.fwd f1;refine W0 ?_;refine qN A3' 3 (by decide) ?_;rw[jd];refine W0 ?_;intro b3 hb3;have n83:=af hb3 r8;have A4:=A3'.put (o:=.cells [.int .i64 (s1.ahead T 3).k,.str (s1.ahead T 3).t,.int .i64 (s1.ahead T 3).a] false) hb3;have r8':hadd h3 b3 (.cells [.int .i64 (s1.ahead T 3).k,.str (s1.ahead T 3).t,.int .i64 (s1.ahead T 3).a] false) b8=_:=(ae n83).trans r8;have r3:hadd h3 b3 (.cells [.int .i64 (s1.ahead T 3).k,.str (s1.ahead T 3).t,.int .i64 (s1.ahead T 3).a] false) b3=_:=ah;refine W0 ?_;generalize hadd h3 b3 _=h4 at A4 r8' r3⊢;refine dL A4 ?_;rw[jd];refine W0 ?_;refine oP AC.mono (fun a' h'=>h'=h4∧a'.d=[]∧a'.t 0=.ptr p 0∧a'.t 2=.ptr b8 0∧a'.t 42=.bool (decide (forIn T s1))) ?_ ?_
 ·have F:∀q,¬q→(forIn T s1→q)→decide (forIn T s1)=false:=fun q a b=>decide_eq_false fun x=>a (b x)
  by_cases c1:(s1.cur T).k=5
  ·refine W0 ?_;refine qN A4 1 (by decide) ?_;rw[jd]
   by_cases c2:(s1.ahead T 1).k=7
   ·refine W0 ?_;refine qN A4 1 (by decide) ?_;rw[jd]
    by_cases c3:(s1.ahead T 1).t=[105,110]
    ·have c3':((s1.ahead T 1).t=[105,110])=True:=eq_true c3;refine W1 c3' ?_;refine qN A4 2 (by decide) ?_;rw[jd]
     by_cases c4:(s1.ahead T 2).k=5
     ·by_cases c5:(s1.ahead T 3).k=8
      ·by_cases c6:(s1.ahead T 3).t=[41]
       ·have c6':((s1.ahead T 3).t=[41])=True:=eq_true c6;rw[show decide (forIn T s1)=true from decide_eq_true ⟨c1,c2,c3,c4,c5,c6⟩];exact W2 r3 c6' trivial
       ·have c6':((s1.ahead T 3).t=[41])=False:=eq_false c6;rw[F _ c6 fun x=>x.2.2.2.2.2];exact W2 r3 c6' trivial
      ·rw[F _ c5 fun x=>x.2.2.2.2.1];exact W1 r3 trivial
     ·rw[F _ c4 fun x=>x.2.2.2.1];exact W1 r3 trivial
    ·have c3':((s1.ahead T 1).t=[105,110])=False:=eq_false c3;rw[F _ c3 fun x=>x.2.2.1];exact W1 c3' trivial
   ·rw[F _ c2 fun x=>x.2.1];exact W0 trivial
  ·rw[F _ c1 fun x=>x.1];exact W0 trivial
 ·rintro⟨t,ds⟩ h5 ⟨rfl,hd,t0,t2,t42⟩;simp only at hd t0 t2 t42;subst hd;have bk:∀{h5 h6:H} {s5:PS} {l:List Tree} {v:V},PAt h0 h5 p tb T s5→h5 b8=some (.cells Z4 false)→KidsV (hset h5 p none) h6 p l v→KidsV (hadd h0 b8 (.cells Z4 false)) h6 p l v:=fun {h5 h6 s5 l v} B hb k =>
   KidsV.move (fun x o z nx hx=>⟨by
    rw[show hset h5 p none x=h5 x from if_neg nx]at z;rw[ae (af z hb).symm];exact B.new z,hx⟩) k
  have fin:∀(h7:H) (m:Tree) (s7:PS) (kv:V) (o:AObj),PAt h0 h7 p tb T s7→KidsV (hadd h0 b8 (.cells Z4 false)) h7 p m.kids kv→(∀h' v,PAt h0 h' p tb T s7→NodeV h0 h' p m v→Q v h')→∃h3,Mir.Sub h3 (hadd h7 b8 o)∧Q (.agg (nodeC m kv)) h3:=fun h7 m s7 kv o B k hq' =>
   ⟨_,Sub.refl,hq' _ _ (B.over z8 (Ne.symm n8)) (NodeV.of (KidsV.move (fun x o z nx hx=>⟨(ax z).2,by rw[ae (ax z).1];exact hx⟩) k))⟩
  by_cases cf:forIn T s1
  ·rw[if_pos cf]at hq;rw[decide_eq_true cf]at t42;refine W3 t0 t2 t42 ?_;intro b1 hb1;have n81:=af hb1 r8';have A5:=A4.put (o:=.cells [.int .i64 5] false) hb1;have r8:hadd h5 b1 (.cells [.int .i64 5] false) b8=_:=(ae n81).trans r8';refine W2 t0 t2 ?_;refine oW (ks:=[5]) A5.re ah (by decide) fun h6 A6=>?_;have A6':=A5.back A6;have r8:=A6.keep (Ne.symm n8) r8;have g1:=f1.trans (dU W f1.ok [5]);generalize PS.name T s1 [5]=x at hq A6 A6' g1;obtain⟨nt,r⟩:=x;simp only at hq A6 A6' g1;rw[jd];refine W2 t0 t2 ?_;intro b4 hb4;have n84:=af hb4 r8;have n4:=A6'.ne hb4;have A7:=A6'.put (o:=.cells [.int .i64 nt.k,.str nt.t,.int .i64 nt.a] false) hb4;have r8:hadd h6 b4 (.cells [.int .i64 nt.k,.str nt.t,.int .i64 nt.a] false) b8=_:=(ae n84).trans r8;have r4:hadd h6 b4 (.cells [.int .i64 nt.k,.str nt.t,.int .i64 nt.a] false) b4=_:=ah;refine W2 t0 t2 ?_;generalize hadd h6 b4 _=h7 at A7 r8 r4⊢;refine aZ A7.re fun h8 A8=>?_;have A8':=A7.back A8;have r8:=A8.keep (Ne.symm n8) r8;have r4:=A8.keep (Ne.symm n4) r4;have g2:=g1.trans (ak W g1.ok);refine W2 t0 t2 ?_;intro b5 hb5;have n85:=af hb5 r8;have n45:=af hb5 r4;have A9:=A8'.put (o:=.cells [.int .i64 5] false) hb5;have r8:hadd h8 b5 (.cells [.int .i64 5] false) b8=_:=(ae n85).trans r8;have r4:hadd h8 b5 (.cells [.int .i64 5] false) b4=_:=(ae n45).trans r4;refine W2 t0 t2 ?_;refine oW (ks:=[5]) A9.re ah (by decide) fun h9 A10=>?_;have A10':=A9.back A10;have r8:=A10.keep (Ne.symm n8) r8;have r4:=A10.keep (Ne.symm n4) r4;have g3:=g2.trans (dU W g2.ok [5]);generalize PS.name T (r.step T) [5]=y at hq A10 A10' g3;obtain⟨nu,r2⟩:=y;simp only at hq A10 A10' g3;refine W2 t0 t2 ?_;refine aQ [110,97,109,101] nu rfl ?_;refine W2 t0 t2 ?_;intro b6 hb6;have n86:=af hb6 r8;have n46:=af hb6 r4;have n6:=A10'.ne hb6;have A11:=A10'.put (o:=.cells [.str [110,97,109,101],.str nu.t,.int .i64 nu.a,.nilsl] false) hb6;have r8:hadd h9 b6 (.cells [.str [110,97,109,101],.str nu.t,.int .i64 nu.a,.nilsl] false) b8=_:=(ae n86).trans r8;have r4:hadd h9 b6 (.cells [.str [110,97,109,101],.str nu.t,.int .i64 nu.a,.nilsl] false) b4=_:=(ae n46).trans r4;have r6:hadd h9 b6 (.cells [.str [110,97,109,101],.str nu.t,.int .i64 nu.a,.nilsl] false) b6=_:=ah;refine W2 t0 t2 ?_;generalize hadd h9 b6 _=h10 at A11 r8 r4 r6⊢;refine aZ A11.re fun h11 A12=>?_;have A12':=A11.back A12;have r8:=A12.keep (Ne.symm n8) r8;have r4:=A12.keep (Ne.symm n4) r4;have r6:=A12.keep (Ne.symm n6) r6;have g4:=g3.trans (ak W g3.ok);refine W4 t0 t2 r4 r6 ?_;refine CB.run _ _ _ _ _ _ A12'.re g4.ok (hl.fwd g4) fun h12 v A13 k13=>?_;generalize bodyM T S (r2.step T)=z at hq A13 k13;obtain⟨m,r3s⟩:=z;simp only at hq A13 k13;obtain⟨kv,rfl,kb⟩:=k13.inv;have kf:=kb.flat;have A13':=A12'.back A13;have kg:=bk A12' r8 kb;have r8:=A13.keep (Ne.symm n8) r8;have r4:=A13.keep (Ne.symm n4) r4;have r6:=A13.keep (Ne.symm n6) r6;refine W5 t0 t2 r4 r6 kf ?_;intro bs hbs;have n8s:=af hbs r8;have n4s:=af hbs r4;have n6s:=af hbs r6;have A14:=A13'.put (o:=.cells (nodeC (aN [110,97,109,101] nu []) .nilsl++nodeC m kv) false) hbs;have kr:KidsV (hadd h0 b8 (.cells Z4 false)) (hadd h12 bs (.cells (nodeC (aN [110,97,109,101] nu []) .nilsl++nodeC m kv) false)) p [aN [110,97,109,101] nu [],m] (.sl bs 0 4 2):=
    .sl (by simp) (by rw[ae (Ne.symm n8s)];exact A13'.new hbs) (Ne.symm (A13'.ne hbs)) ah ((CellsV.one (NodeV.of (t:=aN [110,97,109,101] nu []) .nil)).app (CellsV.one (NodeV.of (kg.put hbs))))
   refine W5 t0 t2 r4 r6 kf ?_;refine aQ [102,111,114,105,110] nt rfl ?_;refine W6 t0 t2 r4 r6 r8 kf ?_;exact fin _ (aN [102,111,114,105,110] nt [aN [110,97,109,101] nu [],m]) _ _ _ A14 kr hq
  ·rw[if_neg cf]at hq;rw[decide_eq_false cf]at t42;dsimp only at hq;refine W3 t0 t2 t42 ?_;refine aS [110,111,110,101] (l:=[]) rfl ?_;refine W2 t0 t2 ?_;refine aS [110,111,110,101] (l:=[]) rfl ?_;refine W2 t0 t2 ?_;refine aS [110,111,110,101] (l:=[]) rfl ?_;refine W2 t0 t2 ?_;intro b6 hb6;have n6:=A4.ne hb6;have z6:=A4.new hb6;have n86:=af hb6 r8';obtain⟨g,hg⟩:∃g:H,g=gg h0 b8 b6:=⟨_,rfl⟩;have G0:∀y,g y=none→y≠b6∧y≠b8∧h0 y=none:=fun y hy=>by rw[hg]at hy;exact dM hy
   have G1:∀y,y≠b6→y≠b8→h0 y=none→g y=none:=fun y a b c=>by rw[hg];exact pW a b c
   have bg:∀{h5 h6:H} {s5:PS} {l:List Tree} {v:V} {cs:List V},PAt h0 h5 p tb T s5→h5 b8=some (.cells Z4 false)→h5 b6=some (.cells cs false)→KidsV (hset h5 p none) h6 p l v→KidsV g h6 p l v:=fun {h5 h6 s5 l v cs} B hb hb' k =>
    KidsV.move (fun x o z nx hx=>⟨by
     rw[show hset h5 p none x=h5 x from if_neg nx]at z;exact G1 x (af z hb').symm (af z hb).symm (B.new z),hx⟩) k
   have st:∀{h6:H} {l:List Tree} {v:V} {o:AObj},KidsV g h6 p l v→KidsV g (hadd h6 b6 o) p l v:=fun {h6 l v o} k=>KidsV.move (fun x o z nx hx=>⟨z,by rw[ae (G0 _ z).1];exact hx⟩) k;have A5:=A4.put (o:=.cells [V.str [110,111,110,101],V.str [],V.int IntKind.i64 0,V.nilsl,V.str [110,111,110,101],V.str [],V.int IntKind.i64 0,V.nilsl,V.str [110,111,110,101],V.str [],V.int IntKind.i64 0,V.nilsl] false) hb6;have r8:hadd h5 b6 (.cells [V.str [110,111,110,101],V.str [],V.int IntKind.i64 0,V.nilsl,V.str [110,111,110,101],V.str [],V.int IntKind.i64 0,V.nilsl,V.str [110,111,110,101],V.str [],V.int IntKind.i64 0,V.nilsl] false) b8=_:=(ae n86).trans r8';have r6:hadd h5 b6 (.cells [V.str [110,111,110,101],V.str [],V.int IntKind.i64 0,V.nilsl,V.str [110,111,110,101],V.str [],V.int IntKind.i64 0,V.nilsl,V.str [110,111,110,101],V.str [],V.int IntKind.i64 0,V.nilsl] false) b6=_:=ah;refine W2 t0 t2 ?_;generalize hadd h5 b6 _=h6 at A5 r8 r6⊢;have t6:(V.ptr b6 0)=.ptr b6 0:=rfl;intro b1 hb1;have n81:=af hb1 r8;have n61:=af hb1 r6;have A6:=A5.put (o:=.cells [.str [59]] false) hb1;have r8b:=(ae (o:=.cells [.str [59]] false) n81).trans r8;have r6b:=(ae (o:=.cells [.str [59]] false) n61).trans r6;refine W3 t0 t2 t6 ?_;refine gu (ss:=[[59]]) A6 ah (by decide) ?_;have f2:=f1.trans (kC CI.fwd [59] f1.ok (hl.fwd f1));have hcur:forA T (simpleM T M U) [59] s1=if(s1).isAt T [[59]]=true then(nodeM [110,111,110,101] [],s1)else(simpleM T M U) s1:=rfl
   generalize forA T (simpleM T M U) [59] s1=a at hq f2 hcur;refine W3 t0 t2 t6 ?_;refine dn AC.mono (fun ex a' h'=>ex=.nm∧a'.d=[]∧a'.t 0=.ptr p 0∧a'.t 2=.ptr b8 0∧a'.t 6=.ptr b6 0∧PAt h0 h' p tb T a.2∧h' b8=some (.cells Z4 false)∧∃va,h' b6=some (.cells (nodeC a.1 va++[V.str [110,111,110,101],V.str [],V.int IntKind.i64 0,V.nilsl]++[V.str [110,111,110,101],V.str [],V.int IntKind.i64 0,V.nilsl]) false)∧KidsV g h' p a.1.kids va) ?_ ?_
   ·cases e:(s1).isAt T [[59]]
    ·simp only[e,if_false,Bool.false_eq_true]at hcur;refine W3 t0 t2 t6 ?_;refine CI.run _ _ _ _ _ _ A6.re f1.ok (hl.fwd f1) fun h7 v A7 k7=>?_;rw[← hcur]at A7 k7;obtain⟨kv,rfl,kbb⟩:=k7.inv;have kf:=kbb.flat;have r8':=A7.keep (Ne.symm n8) r8b;have r6':=A7.keep (Ne.symm n6) r6b;have kn:=st (o:=.cells (nodeC a.1 kv++[V.str [110,111,110,101],V.str [],V.int IntKind.i64 0,V.nilsl]++[V.str [110,111,110,101],V.str [],V.int IntKind.i64 0,V.nilsl]) false) (bg A6 r8b r6b kbb);have A8:=(A6.back A7).over (o:=.cells (nodeC a.1 kv++[V.str [110,111,110,101],V.str [],V.int IntKind.i64 0,V.nilsl]++[V.str [110,111,110,101],V.str [],V.int IntKind.i64 0,V.nilsl]) false) z6 (Ne.symm n6);refine W6 t0 t2 t6 r6' r8' kf ?_;exact⟨A8,kv,rfl,kn⟩
    ·simp only[e,if_true]at hcur;subst hcur;refine W3 t0 t2 t6 ?_;exact⟨A6,r8,.nilsl,r6,.nil⟩
   clear r8 r6 A6 r8b r6b n81 n61;rintro ex ⟨t,ds⟩ h7 ⟨rfl,hd,t0,t2,t6,A6,r8,va,r6,ka⟩;simp only at hd t0 t2 t6;subst hd;refine W3 t0 t2 t6 ?_;refine bT A6.re [59] fun h8 AX=>?_;have r8:=AX.keep (Ne.symm n8) r8;have r6:=AX.keep (Ne.symm n6) r6;have ka:=ka.keep AX;have A6:=A6.back AX;have f3x:=f2.trans (ay W f2.ok [59]);refine W3 t0 t2 t6 ?_;refine bI A6.re W.last fun h9 AX=>?_;have r8:=AX.keep (Ne.symm n8) r8;have r6:=AX.keep (Ne.symm n6) r6;have ka:=ka.keep AX;have A6:=A6.back AX;have f3:=f3x.trans (aA W f3x.ok);refine W3 t0 t2 t6 ?_;intro b1 hb1;have n81:=af hb1 r8;have n61:=af hb1 r6;have A6:=A6.put (o:=.cells [.str [59]] false) hb1;have r8b:=(ae (o:=.cells [.str [59]] false) n81).trans r8;have r6b:=(ae (o:=.cells [.str [59]] false) n61).trans r6;have ka:=ka.put (o:=.cells [.str [59]] false) hb1;refine W3 t0 t2 t6 ?_;refine gu (ss:=[[59]]) A6 ah (by decide) ?_;have f4:=f3.trans (kC CE.fwd [59] f3.ok (hl.fwd f3));have hcur:forA T (M) [59] ((a.2.expect T [59]).lines T)=if(((a.2.expect T [59]).lines T)).isAt T [[59]]=true then(nodeM [110,111,110,101] [],((a.2.expect T [59]).lines T))else(M) ((a.2.expect T [59]).lines T):=rfl
   generalize forA T (M) [59] ((a.2.expect T [59]).lines T)=b at hq f4 hcur;refine W3 t0 t2 t6 ?_;refine dn AC.mono (fun ex a' h'=>ex=.nm∧a'.d=[]∧a'.t 0=.ptr p 0∧a'.t 2=.ptr b8 0∧a'.t 6=.ptr b6 0∧PAt h0 h' p tb T b.2∧h' b8=some (.cells Z4 false)∧∃vb,h' b6=some (.cells (nodeC a.1 va++nodeC b.1 vb++[V.str [110,111,110,101],V.str [],V.int IntKind.i64 0,V.nilsl]) false)∧KidsV g h' p a.1.kids va∧KidsV g h' p b.1.kids vb) ?_ ?_
   ·cases e:(((a.2.expect T [59]).lines T)).isAt T [[59]]
    ·simp only[e,if_false,Bool.false_eq_true]at hcur;refine W3 t0 t2 t6 ?_;refine CE.run _ _ _ _ _ _ A6.re f3.ok (hl.fwd f3) fun h7 v A7 k7=>?_;rw[← hcur]at A7 k7;obtain⟨kv,rfl,kbb⟩:=k7.inv;have kf:=kbb.flat;have r8':=A7.keep (Ne.symm n8) r8b;have r6':=A7.keep (Ne.symm n6) r6b;have kn:=st (o:=.cells (nodeC a.1 va++nodeC b.1 kv++[V.str [110,111,110,101],V.str [],V.int IntKind.i64 0,V.nilsl]) false) (bg A6 r8b r6b kbb);have A8:=(A6.back A7).over (o:=.cells (nodeC a.1 va++nodeC b.1 kv++[V.str [110,111,110,101],V.str [],V.int IntKind.i64 0,V.nilsl]) false) z6 (Ne.symm n6);refine W6 t0 t2 t6 r6' r8' kf ?_;exact⟨A8,kv,rfl,st (ka.keep A7),kn⟩
    ·simp only[e,if_true]at hcur;subst hcur;refine W3 t0 t2 t6 ?_;exact⟨A6,r8,.nilsl,r6,ka,.nil⟩
   clear r8 r6 A6 r8b r6b n81 n61;rintro ex ⟨t,ds⟩ h7 ⟨rfl,hd,t0,t2,t6,A6,r8,vb,r6,ka,kb⟩;simp only at hd t0 t2 t6;subst hd;refine W3 t0 t2 t6 ?_;refine bT A6.re [59] fun h8 AX=>?_;have r8:=AX.keep (Ne.symm n8) r8;have r6:=AX.keep (Ne.symm n6) r6;have ka:=ka.keep AX;have kb:=kb.keep AX;have A6:=A6.back AX;have f5x:=f4.trans (ay W f4.ok [59]);refine W3 t0 t2 t6 ?_;refine bI A6.re W.last fun h9 AX=>?_;have r8:=AX.keep (Ne.symm n8) r8;have r6:=AX.keep (Ne.symm n6) r6;have ka:=ka.keep AX;have kb:=kb.keep AX;have A6:=A6.back AX;have f5:=f5x.trans (aA W f5x.ok);refine W3 t0 t2 t6 ?_;intro b1 hb1;have n81:=af hb1 r8;have n61:=af hb1 r6;have A6:=A6.put (o:=.cells [.str [41]] false) hb1;have r8b:=(ae (o:=.cells [.str [41]] false) n81).trans r8;have r6b:=(ae (o:=.cells [.str [41]] false) n61).trans r6;have ka:=ka.put (o:=.cells [.str [41]] false) hb1;have kb:=kb.put (o:=.cells [.str [41]] false) hb1;refine W3 t0 t2 t6 ?_;refine gu (ss:=[[41]]) A6 ah (by decide) ?_;have f6:=f5.trans (kC CI.fwd [41] f5.ok (hl.fwd f5));have hcur:forA T (simpleM T M U) [41] ((b.2.expect T [59]).lines T)=if(((b.2.expect T [59]).lines T)).isAt T [[41]]=true then(nodeM [110,111,110,101] [],((b.2.expect T [59]).lines T))else(simpleM T M U) ((b.2.expect T [59]).lines T):=rfl
   generalize forA T (simpleM T M U) [41] ((b.2.expect T [59]).lines T)=c at hq f6 hcur;refine W3 t0 t2 t6 ?_;refine dn AC.mono (fun ex a' h'=>ex=.nm∧a'.d=[]∧a'.t 0=.ptr p 0∧a'.t 2=.ptr b8 0∧a'.t 6=.ptr b6 0∧PAt h0 h' p tb T c.2∧h' b8=some (.cells Z4 false)∧∃vc,h' b6=some (.cells (nodeC a.1 va++nodeC b.1 vb++nodeC c.1 vc) false)∧KidsV g h' p a.1.kids va∧KidsV g h' p b.1.kids vb∧KidsV g h' p c.1.kids vc) ?_ ?_
   ·cases e:(((b.2.expect T [59]).lines T)).isAt T [[41]]
    ·simp only[e,if_false,Bool.false_eq_true]at hcur;refine W3 t0 t2 t6 ?_;refine CI.run _ _ _ _ _ _ A6.re f5.ok (hl.fwd f5) fun h7 v A7 k7=>?_;rw[← hcur]at A7 k7;obtain⟨kv,rfl,kbb⟩:=k7.inv;have kf:=kbb.flat;have r8':=A7.keep (Ne.symm n8) r8b;have r6':=A7.keep (Ne.symm n6) r6b;have kn:=st (o:=.cells (nodeC a.1 va++nodeC b.1 vb++nodeC c.1 kv) false) (bg A6 r8b r6b kbb);have A8:=(A6.back A7).over (o:=.cells (nodeC a.1 va++nodeC b.1 vb++nodeC c.1 kv) false) z6 (Ne.symm n6);refine W6 t0 t2 t6 r6' r8' kf ?_;exact⟨A8,kv,rfl,st (ka.keep A7),st (kb.keep A7),kn⟩
    ·simp only[e,if_true]at hcur;subst hcur;refine W3 t0 t2 t6 ?_;exact⟨A6,r8,.nilsl,r6,ka,kb,.nil⟩
   clear r8 r6 A6 r8b r6b n81 n61;rintro ex ⟨t,ds⟩ h7 ⟨rfl,hd,t0,t2,t6,A6,r8,vc,r6,ka,kb,kc⟩;simp only at hd t0 t2 t6;subst hd;refine W3 t0 t2 t6 ?_;refine bT A6.re [41] fun h8 AX=>?_;have r8:=AX.keep (Ne.symm n8) r8;have r6:=AX.keep (Ne.symm n6) r6;have ka:=ka.keep AX;have kb:=kb.keep AX;have kc:=kc.keep AX;have A6:=A6.back AX;have f7x:=f6.trans (ay W f6.ok [41]);have fa:=ka.flat;have fb:=kb.flat;have fc:=kc.flat;refine W7 t0 t2 t6 r6 fa fb fc ?_;refine CB.run _ _ _ _ _ _ A6.re f7x.ok (hl.fwd f7x) fun h10 v A7 k7=>?_;generalize bodyM T S (c.2.expect T [41])=z at hq A7 k7;obtain⟨m,r3s⟩:=z;simp only at hq A7 k7;obtain⟨kv,rfl,kbb⟩:=k7.inv;have kf:=kbb.flat;have A7':=A6.back A7;have kz:=bg A6 r8 r6 kbb;have ka:=ka.keep A7;have kb:=kb.keep A7;have kc:=kc.keep A7;have r8:=A7.keep (Ne.symm n8) r8;have r6:=A7.keep (Ne.symm n6) r6;refine W8 t0 t2 t6 r6 fa fb fc kf ?_;intro bs hbs;have n8s:=af hbs r8;have n6s:=af hbs r6;have A8:=A7'.put (o:=.cells (nodeC a.1 va++(nodeC b.1 vb++(nodeC c.1 vc++nodeC m kv))) false) hbs;have mv:∀{l:List Tree} {v:V},KidsV g h10 p l v→KidsV (hadd h0 b8 (.cells Z4 false)) h10 p l v:=fun {l v} k=>KidsV.move (fun x o z nx hx=>⟨by rw[ae (G0 _ z).2.1];exact(G0 _ z).2.2,hx⟩) k;have kr:KidsV (hadd h0 b8 (.cells Z4 false)) (hadd h10 bs (.cells (nodeC a.1 va++(nodeC b.1 vb++(nodeC c.1 vc++nodeC m kv))) false)) p [a.1,b.1,c.1,m] (.sl bs 0 4 4):=
    .sl (by simp) (by rw[ae (Ne.symm n8s)];exact A7'.new hbs) (Ne.symm (A7'.ne hbs)) ah ((CellsV.one (NodeV.of ((mv ka).put hbs))).app ((CellsV.one (NodeV.of ((mv kb).put hbs))).app ((CellsV.one (NodeV.of ((mv kc).put hbs))).app (CellsV.one (NodeV.of ((mv kz).put hbs))))))
   refine W8 t0 t2 t6 r6 fa fb fc kf ?_;refine aS [102,111,114] (l:=[]) rfl ?_;refine W5 t0 t2 t6 r6 r8 ?_;exact fin _ (nodeM [102,111,114] [a.1,b.1,c.1,m]) _ _ _ A8 kr hq
end
section
open Mir
variable{h:H}{Q:V→H→Prop}{h0 h1 h':H}{p tb:Nat}{T:List Tokn}{s s':PS}{N n c m:Nat}
def dF(T:List Tokn)(E U S:PF)(s:PS):Tree × PS:=
 if s.isAt T [[123]]=true then blockM T S s
  else if s.isAt T [[59]]=true then(nodeM [101,109,112,116,121] [],s.step T)
  else if s.isAt T [[105,102]]=true then choiceM T E S (s.step T)
  else if s.isAt T [[119,104,105,108,101]]=true then
   (nodeM [119,104,105,108,101] [(insideM T E [41] ((s.step T).expect T [40])).1,(bodyM T S (insideM T E [41] ((s.step T).expect T [40])).2).1],(bodyM T S (insideM T E [41] ((s.step T).expect T [40])).2).2)
  else if s.isAt T [[102,111,114]]=true then loopM T E U S (s.step T)
  else((simpleM T E U s).1,(simpleM T E U s).2.fin T)
theorem kX(E U S:PF)(s:PS):stmtM T E U S s=((dF T E U S (s.down T)).1,(dF T E U S (s.down T)).2.up):=by
 unfold stmtM dF;rfl
theorem xY(W:TkOk T N){E U S:PF}(CE:FC T N m c 46 E)(CC:FC T N m c 106 (aX T U))(low:s.err=0→FC T N m c 69 S)(hs:SOk T N s)(hl:lvl m c s):Fwd T N s (dF T E U S s).2∧Adv s (dF T E U S s).2:=by
 have f1:=ak W hs;have l1:=hl.fwd f1;have si:=oz W CE.fwd CE.adv CC.fwd hs hl;unfold dF;split
 ·rename_i e;exact qi W (low (iF e)).fwd hs hl
 split
 ·rename_i e;exact⟨f1,gU W hs e⟩
 split
 ·rename_i e;have g:=CW W CE.fwd (oL W (low (iF e))).fwd f1.ok l1;exact⟨f1.trans g,(gU W hs e).left g⟩
 split
 ·rename_i e;have g1:=ay W f1.ok [40];have g2:=g1.trans (eY W CE.fwd [41] g1.ok (l1.fwd g1));have g3:=g2.trans ((oL W (low (iF e))).fwd _ g2.ok (l1.fwd g2));exact⟨f1.trans g3,(gU W hs e).left g3⟩
 split
 ·rename_i e;have g:=II W CE.fwd (ug W CE CC).fwd (oL W (low (iF e))).fwd f1.ok l1;exact⟨f1.trans g,(gU W hs e).left g⟩
 ·exact⟨si.1.trans (Gv W si.1.ok),si.2.left (Gv W si.1.ok)⟩
theorem Eo(W:TkOk T N)(hc:c<900){E U S:PF}(hd:∀s,SOk T N s→lvl n c s→lvl m (c+1) (s.down T))(CE:FC T N m (c+1) 46 E)(CC:FC T N m (c+1) 106 (aX T U))
  (low:∀s,SOk T N s→lvl n c s→s.err=0→FC T N m (c+1) 69 S):FC T N n c 69 (stmtM T E U S):=by
 have FA:∀s,SOk T N s→lvl n c s→Fwd T N s (stmtM T E U S s).2∧Adv s (stmtM T E U S s).2:=fun s hs hl=>by
  rw[kX];obtain⟨d1,d2,d3,d4,d5⟩:=dZ W hs;have g:=xY W CE CC (fun e=>low s hs hl (d5 e)) d1 (hd s hs hl);exact⟨BQ W hs g.1,Oh W hs g.1 g.2⟩
 refine⟨fun h0 h p tb s0 Q A hs0 hl0 hq=>?_,fun s hs hl=>(FA s hs hl).1,fun s hs hl=>(FA s hs hl).2⟩;rw[kX]at hq;obtain⟨hs,d2,d3,d4,d5⟩:=dZ W hs0;have hl:=hd s0 hs0 hl0;have L:=fun e=>low s0 hs0 hl0 (d5 e);have gA:=(xY W CE CC (fun e=>L e) hs hl).1;have dl:=hl0.2;refine AC.fn' (g:=g69) rfl (by simp only[List.length_cons,List.length_nil,g69];decide) ?_;simp only[g69,Mir.Ab.all];refine W0 ?_;intro b8 hb8;have A1:=A.put (o:=.cells Z4 false) hb8;have n8:=A.ne hb8;have z8:=A.new hb8;refine W0 ?_;refine ve A1.re (by omega) fun h2 A2=>?_;have A3:=A1.back A2;have r8:=A2.keep (Ne.symm n8) (b:=b8) (o:=.cells Z4 false) ah;obtain⟨s,hs1⟩:∃s,s=s0.down T:=⟨_,rfl⟩;rw[← hs1]at hq A3 hs hl L gA d3;have f1:=ak W hs;have l1:=hl.fwd f1;have up:=fun(h7:H) (mm:Tree) (s7:PS) (kv:V) (B:PAt h0 h7 p tb T s7) (hd:1≤s7.deep) (k:KidsV (hadd h0 b8 (.cells Z4 false)) h7 p mm.kids kv) (hq':∀h' v,PAt h0 h' p tb T s7.up→NodeV h0 h' p mm v→Q v h')
   (Q':V→H→Prop) (hQ:∀h8 x,h8 b8=some (.cells (nodeC mm kv) false)→Q (.agg (nodeC mm kv)) h8→Q' x h8) =>
  show AC pg (.fn 72) [.ptr p 0] (hadd h7 b8 (.cells (nodeC mm kv) false)) Q' from by
   have A11:=B.over (o:=.cells (nodeC mm kv) false) z8 (Ne.symm n8);have kn:NodeV h0 (hadd h7 b8 (.cells (nodeC mm kv) false)) p mm (.agg (nodeC mm kv)):=
    NodeV.of (KidsV.move (fun y o z nx hx=>⟨(ax z).2,by rw[ae (ax z).1];exact hx⟩) k)
   exact Et A11.re hd fun h8 A12=>hQ _ _ (A12.keep (Ne.symm n8) ah) (hq' _ _ (A11.back A12) (kn.keep A12))
 have bk:∀{h5 h6:H} {s5:PS} {l:List Tree} {v:V},PAt h0 h5 p tb T s5→h5 b8=some (.cells Z4 false)→KidsV (hset h5 p none) h6 p l v→KidsV (hadd h0 b8 (.cells Z4 false)) h6 p l v:=fun {h5 h6 s5 l v} B hb k =>
  KidsV.move (fun x o z nx hx=>⟨by
   rw[show hset h5 p none x=h5 x from if_neg nx]at z;rw[ae (af z hb).symm];exact B.new z,hx⟩) k
 unfold dF at hq gA;refine W0 ?_;intro b1 hb1;have n81:=af hb1 r8;have A4:=A3.put (o:=.cells [.str [123]] false) hb1;have r8:hadd h2 b1 (.cells [.str [123]] false) b8=_:=(ae n81).trans r8;refine W0 ?_;refine gu (ss:=[[123]]) A4 ah (by decide) ?_;cases e1:s.isAt T [[123]]
 case true =>
  simp only[e1,if_true]at hq gA;refine W0 ?_;refine(Cj W (L (iF e1))).run _ _ _ _ _ _ A4.re hs hl fun h6 v A5 k5=>?_;generalize blockM T S s=x at hq A5 k5 gA;obtain⟨kv,rfl,kb⟩:=k5.inv;have kf:=kb.flat;have r8':=A5.keep (Ne.symm n8) r8;refine W2 r8' kf ?_;refine up _ x.1 x.2 _ (A4.back A5) (by rw[gA.deep,d3];omega) (bk A4 r8 kb) hq _ fun h8 y e q=>?_;refine W1 e ?_;exact⟨_,Sub.refl,q⟩
 simp only[e1,if_false,Bool.false_eq_true]at hq gA;generalize hadd h2 b1 _=h3 at A4 r8⊢;refine W0 ?_;refine aO A4.re [59] fun h4 A5=>?_;have A5':=A4.back A5;have r8:=A5.keep (Ne.symm n8) r8;cases e2:s.isAt T [[59]]
 case true =>
  simp only[e2,if_true]at hq gA A5';refine W0 ?_;refine aS [101,109,112,116,121] (l:=[]) rfl ?_;refine W1 r8 ?_;refine up _ (nodeM [101,109,112,116,121] []) _ .nilsl A5' (by rw[gA.deep,d3];omega) .nil hq _ fun h8 y e q=>?_;refine W1 e ?_;exact⟨_,Sub.refl,q⟩
 simp only[e2,if_false,Bool.false_eq_true]at hq gA A5';refine W0 ?_;refine aO A5'.re [105,102] fun h5 A6=>?_;have A6':=A5'.back A6;have r8:=A6.keep (Ne.symm n8) r8;cases e3:s.isAt T [[105,102]]
 case true =>
  simp only[e3,if_true]at hq gA A6';refine W0 ?_;refine H5 W CE (oL W (L (iF e3))) A6'.re f1.ok l1 fun h6 v A7 k7=>?_;generalize choiceM T E S (s.step T)=x at hq A7 k7 gA;obtain⟨kv,rfl,kb⟩:=k7.inv;have kf:=kb.flat;have r8':=A7.keep (Ne.symm n8) r8;refine W2 r8' kf ?_;refine up _ x.1 x.2 _ (A6'.back A7) (by rw[gA.deep,d3];omega) (bk A6' r8 kb) hq _ fun h8 y e q=>?_;refine W1 e ?_;exact⟨_,Sub.refl,q⟩
 simp only[e3,if_false,Bool.false_eq_true]at hq gA A6';refine W0 ?_;refine aO A6'.re [119,104,105,108,101] fun h6 A7=>?_;have A7':=A6'.back A7;have r8:=A7.keep (Ne.symm n8) r8;cases e4:s.isAt T [[119,104,105,108,101]]
 case true =>
  simp only[e4,if_true]at hq gA A7';have CB:=oL W (L (iF e4));refine W0 ?_;refine bT A7'.re [40] fun h7 A8=>?_;have A8':=A7'.back A8;have r8:=A8.keep (Ne.symm n8) r8;have g1:=ay W f1.ok [40];refine W0 ?_;refine kH W CE [41] A8'.re g1.ok (l1.fwd g1) fun h8 v A9 k9=>?_;have g2:=g1.trans (eY W CE.fwd [41] g1.ok (l1.fwd g1));generalize insideM T E [41] ((s.step T).expect T [40])=x at hq A9 k9 gA g2;obtain⟨m1,r1⟩:=x;simp only at hq A9 k9 gA g2;obtain⟨kv1,rfl,kb1⟩:=k9.inv;have kf1:=kb1.flat;have A9':=A8'.back A9;have kg1:=bk A8' r8 kb1;have r8:=A9.keep (Ne.symm n8) r8;refine W0 ?_;refine CB.run _ _ _ _ _ _ A9'.re g2.ok (l1.fwd g2) fun h9 v A10 k10=>?_;generalize bodyM T S r1=y at hq A10 k10 gA;obtain⟨m2,r2⟩:=y;simp only at hq A10 k10 gA;obtain⟨kv2,rfl,kb2⟩:=k10.inv;have kf2:=kb2.flat;have A10':=A9'.back A10;have kg2:=bk A9' r8 kb2;have kg1:=kg1.keep A10;have r8:=A10.keep (Ne.symm n8) r8;refine W2 kf1 kf2 ?_;intro bs hbs;have n8s:=af hbs r8;have A11:=A10'.put (o:=.cells (nodeC m1 kv1++nodeC m2 kv2) false) hbs;have kr:KidsV (hadd h0 b8 (.cells Z4 false)) (hadd h9 bs (.cells (nodeC m1 kv1++nodeC m2 kv2) false)) p [m1,m2] (.sl bs 0 4 2):=
   .sl (by simp) (by rw[ae (Ne.symm n8s)];exact A10'.new hbs) (Ne.symm (A10'.ne hbs)) ah ((CellsV.one (NodeV.of (kg1.put hbs))).app (CellsV.one (NodeV.of (kg2.put hbs))))
  refine W0 ?_;refine aS [119,104,105,108,101] (l:=[]) rfl ?_;refine W1 r8 ?_;refine up _ (nodeM [119,104,105,108,101] [m1,m2]) r2 _ A11 (by rw[gA.deep,d3];omega) kr hq _ fun h8 y e q=>?_;refine W1 e ?_;exact⟨_,Sub.refl,q⟩
 simp only[e4,if_false,Bool.false_eq_true]at hq gA A7';refine W0 ?_;refine aO A7'.re [102,111,114] fun h7 A8=>?_;have A8':=A7'.back A8;have r8:=A8.keep (Ne.symm n8) r8;cases e5:s.isAt T [[102,111,114]]
 case true =>
  simp only[e5,if_true]at hq gA A8';refine W0 ?_;refine PM W CE (ug W CE CC) (oL W (L (iF e5))) A8'.re f1.ok l1 fun h8 v A9 k9=>?_;generalize loopM T E U S (s.step T)=x at hq A9 k9 gA;obtain⟨kv,rfl,kb⟩:=k9.inv;have kf:=kb.flat;have r8':=A9.keep (Ne.symm n8) r8;refine W2 r8' kf ?_;refine up _ x.1 x.2 _ (A8'.back A9) (by rw[gA.deep,d3];omega) (bk A8' r8 kb) hq _ fun h8 y e q=>?_;refine W1 e ?_;exact⟨_,Sub.refl,q⟩
 simp only[e5,if_false,Bool.false_eq_true]at hq gA A8';refine W0 ?_;refine(ug W CE CC).run _ _ _ _ _ _ A8'.re hs hl fun h8 v A9 k9=>?_;generalize simpleM T E U s=x at hq A9 k9 gA;obtain⟨m1,r1⟩:=x;simp only at hq A9 k9 gA;obtain⟨kv,rfl,kb⟩:=k9.inv;have kf:=kb.flat;have A9':=A8'.back A9;have kg:=bk A8' r8 kb;have r8:=A9.keep (Ne.symm n8) r8;refine W1 kf ?_;intro b3 hb3;have n83:=af hb3 r8;have n3:=A9'.ne hb3;have A10:=A9'.put (o:=.cells (nodeC m1 kv) false) hb3;have r8:hadd h8 b3 (.cells (nodeC m1 kv) false) b8=_:=(ae n83).trans r8;have r3:hadd h8 b3 (.cells (nodeC m1 kv) false) b3=_:=ah;have kg:=kg.put (o:=.cells (nodeC m1 kv) false) hb3;refine W1 kf ?_;generalize hadd h8 b3 _=h9 at A10 r8 r3 kg⊢;refine Rn A10.re fun h10 A11=>?_;have A11':=A10.back A11;have r8:=A11.keep (Ne.symm n8) r8;have r3:=A11.keep (Ne.symm n3) r3;have kg:=kg.keep A11;refine W3 r3 r8 kf ?_;refine up _ m1 _ kv A11' (by rw[gA.deep,d3];omega) kg hq _ fun h8 y e q=>?_;refine W1 e ?_;exact⟨_,Sub.refl,q⟩
end
section
open Mir
variable{h:H}{Q:V→H→Prop}{h0 h1 h':H}{p tb:Nat}{T:List Tokn}{s s':PS}{N n c m:Nat}
theorem NY:stL T (n+1)=stmtM T (lev T n).expr (lev T n).unary (stL T n):=by rw[stL]
theorem NZ:stL T 0=fun s=>(nodeM [101,120,112,114] [.zero],s):=by rw[stL]
theorem UL(W:TkOk T N)(hc:c<700):FC T N 0 c 69 (stL T 0):=
 (Eo W (by omega) (m:=0) (E:=dX) (U:=dX) (S:=dX) (fun s hs hl=>by
  obtain⟨d1,d2,d3,d4,d5⟩:=dZ W hs;exact⟨fun e=>absurd (d5 e) (wX hs hl),by have:=hl.2;omega⟩) (QF W (by omega)) (JV W (Gi W (by omega))) (fun s hs hl e=>absurd e (wX hs hl))).congr fun s hs hl=>by
  have ne:=wX hs hl;obtain⟨d1,d2,d3,d4,d5⟩:=dZ W hs;have nd:(s.down T).err≠0:=fun e=>ne (d5 e);have hu:(s.down T).up=s:=by
   unfold PS.down;rw[if_neg (by simp[ne])];rfl
  have e1:simpleM T dX dX (s.down T)=(nodeM [101,120,112,114] [.zero],s.down T):=by
   unfold simpleM;rw[iD nd];rfl
  have e2:(s.down T).fin T=s.down T:=by
   unfold PS.fin;rw[if_neg (by rw[qP nd];decide),if_neg (by rw[qP nd];decide),iD nd,if_neg (by decide)];exact if_pos nd
  have e:dF T dX dX dX (s.down T)=(nodeM [101,120,112,114] [.zero],s.down T):=by
   unfold dF;rw[if_neg (by rw[qP nd];decide),if_neg (by rw[qP nd];decide),if_neg (by rw[qP nd];decide),if_neg (by rw[qP nd];decide),if_neg (by rw[qP nd];decide),e1]
   show(_,(s.down T).fin T)=_
   rw[e2]
  rw[kX,e,NZ]
  show(_,(s.down T).up)=_
  rw[hu]
theorem stmts(W:TkOk T N):∀n c,c+n<700→FC T N n c 69 (stL T n):=by
 intro n;induction n with
 |zero=>exact fun c hc=>UL W (by omega)
 |succ n ih =>
   intro c hc;have G:=good W n (c+1) (by omega);rw[NY];exact Eo W (by omega) (fun s hs hl=>lvl.down W hs hl) G.expr (JV W G.unary) fun _ _ _ _=>ih (c+1) (by omega)
end

end Go.Proofs.YtkfbldogmgofoaaGreatDoor
