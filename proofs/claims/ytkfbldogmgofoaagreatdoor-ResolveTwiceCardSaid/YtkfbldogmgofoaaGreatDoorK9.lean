import Derived.Test.YtkfbldogmgofoaaGreatDoorK8
set_option linter.unusedSimpArgs false
set_option linter.unusedVariables false
namespace Go.Proofs.YtkfbldogmgofoaaGreatDoor
section
open Mir
variable{h:H}{Q:V→H→Prop}{h0:H}{p:Nat}{s:Txt}{r:RS}
theorem oP{call:CP}{v:V}{b:Bool}{d:Option Nat}{k:Kind}{i:Nat}{w:List Nat}{l:List IOp}{a:A}{h:H}{K:A→H→Prop}(hm:mF call)(R:A→H→Prop)(hE:goG v b d k i w l call a h R)(hR:∀a h,R a h→K a h):goG v b d k i w l call a h K:=by
 unfold goG at *;split at hE
 ·split at hE
  ·rename_i c;simp only[if_pos c];exact gB hm hR hE
  ·rename_i c;simp only[if_neg c];exact gB hm hR hE
 ·exact gB hm hR hE
 ·exact hE
theorem Ol(a b c d:Int)(k:Int)(k0:0≤k)(k1:k<256)(hq:∀a b c d,Q (.agg (jK a b c d)) h):AC pg (.fn 140) [.agg (jK a b c d),.int .u8 k] h Q:=by
 have:k=((UInt8.ofNat k.toNat).toNat:Int):=by
  rw[UInt8.toNat_ofNat'];omega
 rw[this];exact vG a b c d _ hq
theorem RdAt.put{b:Nat}{o:AObj}(R:RdAt h0 h p s r)(hb:h b=none):RdAt h0 (hadd h b o) p s r:=by
 have n:p≠b:=fun e=>by rw[← e,R.obj]at hb;cases hb
 exact⟨by rw[ae n];exact R.obj,R.base,fun x o hx=>by rw[ae (af hb (R.sub _ _ hx))];exact R.sub _ _ hx,R.small,R.place,R.deep⟩
theorem RdAt.re(R:RdAt h0 h p s r):RdAt (hset h p none) h p s r:=
 ⟨R.obj,by simp[hset],fun x o hx=>by unfold hset at hx;split at hx;(cases hx);exact hx,R.small,R.place,R.deep⟩
theorem RdAt.back{r':RS}{h':H}(R:RdAt h0 h p s r)(R':RdAt (hset h p none) h' p s r'):RdAt h0 h' p s r' :=
 ⟨R'.obj,R.base,fun x o hx=>R'.sub _ _ (by unfold hset;rw[if_neg (af R.base hx)];exact R.sub _ _ hx),R'.small,R'.place,R'.deep⟩
theorem RdAt.keep{r':RS}{h':H}(R':RdAt (hset h p none) h' p s r'){b:Nat}{o:AObj}(n:b≠p)(hb:h b=some o):h' b=some o:=
 R'.sub _ _ (by unfold hset;rw[if_neg n];exact hb)
theorem RdAt.ne(R:RdAt h0 h p s r){b:Nat}(hb:h b=none):p≠b:=fun e=>by rw[← e,R.obj]at hb;cases hb
theorem dn{call:CP}{v:V}{x y:IC}{a:A}{h:H}{Q:Ex→A→H→Prop}(hm:mF call)(R:Ex→A→H→Prop)(hE:goC v call x y a h R)(hR:∀e a h,R e a h→Q e a h):goC v call x y a h Q:=by
 unfold goC at *;split at hE
 ·exact⟨fun c=>kZ hm hR (hE.1 c),fun c=>kZ hm hR (hE.2 c)⟩
 ·exact hE
def SetAt(h:H)(p b:Nat):Prop:=b≠p∧∃x y z w,h b=some (.cells (jK x y z w) false)
theorem SetAt.keep{r':RS}{h':H}{b:Nat}(A:SetAt h p b)(R':RdAt (hset h p none) h' p s r'):SetAt h' p b:=by
 obtain⟨n,x,y,z,w,e⟩:=A;exact⟨n,x,y,z,w,R'.keep n e⟩
theorem SetAt.keep'{b:Nat}(A:SetAt h p b)(n:p≠b)(o:AObj):SetAt (hadd h p o) p b:=by
 obtain⟨_,x,y,z,w,e⟩:=A;exact⟨Ne.symm n,x,y,z,w,by rw[ae (Ne.symm n)];exact e⟩
theorem RdAt.new(R:RdAt h0 h p s r){b:Nat}(hb:h b=none):h0 b=none:=by
 cases e:h0 b with
 |none=>rfl
 |some o=>rw[R.sub _ _ e]at hb;cases hb
theorem RdAt.over(R:RdAt h0 h p s r){b:Nat}{o:AObj}(z:h0 b=none)(n:b≠p):RdAt h0 (hadd h b o) p s r:=
 ⟨by rw[ae (Ne.symm n)];exact R.obj,R.base,fun x o hx=>by rw[ae (af z hx)];exact R.sub _ _ hx,R.small,R.place,R.deep⟩
theorem SetAt.over{b c:Nat}(A:SetAt h p b)(n:b≠c){o:AObj}:SetAt (hadd h c o) p b:=by
 obtain⟨n1,x,y,z,w,e⟩:=A;exact⟨n1,x,y,z,w,by rw[ae n];exact e⟩
theorem gG(R:RdAt h0 h p s r)(hq:∀(c:UInt8) (ok:Bool),(r.next s=if ok then some c else none)→(ok=false→c=0)→Q (.tup [.int .u8 c.toNat,.bool ok]) h):AC pg (.fn 134) [.ptr p 0] h Q:=by
 refine Ei R ?_;cases e:r.next s with
 |none=>exact hq 0 false (by rw[e];rfl) fun _=>rfl
 |some c=>exact hq c true (by rw[e];rfl) fun h=>by cases h
theorem RdAt.setI(R:RdAt h0 h p s r)(j:Nat)(hj:j≤100000):RdAt h0 (hadd h p (.cells [.str s,.int .i64 j,.int .i64 r.deep,.int .i64 r.err,.int .i64 r.bad] false)) p s {r with i:=j}:=R.set {r with i:=j} hj R.deep
theorem Uk(s:Txt)(r:RS):(jm s r).2.i=r.i+1:=by
 unfold jm
 repeat' split
 all_goals first
  |rfl
  |exact(Rz _ _ _).1
theorem TN(k:Nat)(R:RdAt h0 h p s r)(h1:1≤r.i)(hi:r.i≤301)(r':RS)(hr:yH s (r.i-1) k true (if r.next s=some 94 then r.step else r)=some r')(hq:∀h' x y z w,RdAt h0 h' p s r'→Q (.agg (jK x y z w)) h'):AC pg (.fn 137) [.ptr p 0] h Q:=by
 have hp:=R.obj;have sm:=R.small;unfold rsC at hp;refine AC.fn' (g:=Lp) rfl (by simp only[List.length_cons,List.length_nil,Lp];decide) ?_;simp only[Lp,Mir.Ab.all];refine W1 hp ?_;intro b2 hb2;have n2:=R.ne hb2;refine W2 hp n2 ?_;intro b4 hb4;have R1:=(R.put (o:=AObj.cells [V.int IntKind.u64 0,V.int IntKind.u64 0,V.int IntKind.u64 0,V.int IntKind.u64 0] false) hb2);have n4:=R1.ne hb4;have n24:b2≠b4:=fun e=>by rw[← e]at hb4;simp[hadd,hset]at hb4
 have R2:=(R1.put (o:=AObj.cells [V.int IntKind.u64 0,V.int IntKind.u64 0,V.int IntKind.u64 0,V.int IntKind.u64 0] false) hb4);have z4:h0 b4=none:=R1.new hb4;have z2:h0 b2=none:=R.new hb2;refine W2 hp n2 ?_;refine gG R2 fun c ok e2 e3=>?_;refine W2 hp n2 ?_;refine dn AC.mono (fun ex a' h'=>ex=.nm∧a'.d=[]∧a'.t 0=.ptr p 0∧a'.t 2=.ptr b2 0∧a'.t 3=.int .i64 ((r.i-1:Nat):Int)∧a'.t 4=.ptr b4 0∧(∃bb,a'.t 7=.bool bb)∧RdAt h0 h' p s (if r.next s=some 94 then r.step else r)∧SetAt h' p b2∧SetAt h' p b4) ?_ ?_
 ·have ei:((r.i-1:Nat):Int)=r.i-1:=by omega
  have S2:SetAt (hadd (hadd h b2 (AObj.cells [V.int IntKind.u64 0,V.int IntKind.u64 0,V.int IntKind.u64 0,V.int IntKind.u64 0] false)) b4 (AObj.cells [V.int IntKind.u64 0,V.int IntKind.u64 0,V.int IntKind.u64 0,V.int IntKind.u64 0] false)) p b2:=⟨Ne.symm n2,0,0,0,0,by rw[ae n24];simp[hadd,hset,jK]⟩;have S4:SetAt (hadd (hadd h b2 (AObj.cells [V.int IntKind.u64 0,V.int IntKind.u64 0,V.int IntKind.u64 0,V.int IntKind.u64 0] false)) b4 (AObj.cells [V.int IntKind.u64 0,V.int IntKind.u64 0,V.int IntKind.u64 0,V.int IntKind.u64 0] false)) p b4:=⟨Ne.symm n4,0,0,0,0,by simp[hadd,hset,jK]⟩
  by_cases c1:r.next s=some 94
  ·have d:c.toNat=94:=by
    rw[e2]at c1;cases ok<;>simp_all
   rw[if_pos c1];have R3:=R2.setI (r.i+1) (by omega);have ej:((r.i+1:Nat):Int)=r.i+1:=by omega
   rw[ej]at R3;refine W4 hp n2 n4 ei.symm ?_;exact⟨⟨_,rfl⟩,R3,S2.keep' n2 _,S4.keep' n4 _⟩
  ·have d:¬c.toNat=94:=fun d=>by
    have d':c=94:=bJ.2 d;apply c1;rw[e2];cases ok
    ·rw[e3 rfl]at d';cases d'
    ·rw[d'];rfl
   rw[if_neg c1];refine W4 hp n2 n4 ei.symm ?_;exact⟨⟨_,rfl⟩,R2,S2,S4⟩
 ·rintro ex ⟨t,ds⟩ h1 ⟨rfl,hd,t0,t2,t3,t4,⟨bb,t7⟩,R3,S2,S4⟩;simp only at hd t0 t2 t3 t4 t7;subst hd;refine W5 t0 t2 t3 t4 t7 ?_;refine E.cut AC.mono (fun ex a' h'=>ex=.exit 0∧a'.d=[]∧a'.t 2=.ptr b2 0∧a'.t 4=.ptr b4 0∧a'.t 7=.bool bb∧RdAt h0 h' p s r'∧SetAt h' p b2∧SetAt h' p b4) ?_ ?_
  ·refine E.loopX AC.mono (fun(x:Nat × Bool × RS) a' h'=>yH s (r.i-1) x.1 x.2.1 x.2.2=some r'∧RdAt h0 h' p s x.2.2∧SetAt h' p b2∧SetAt h' p b4∧a'.d=[]∧a'.t 0=.ptr p 0∧a'.t 2=.ptr b2 0∧a'.t 3=.int .i64 ((r.i-1:Nat):Int)∧a'.t 4=.ptr b4 0∧a'.t 7=.bool bb∧a'.t 8=.bool x.2.1) (fun x=>x.1) (k,true,if r.next s=some 94 then r.step else r) ?_ ?_
   ·exact⟨hr,R3,S2,S4,rfl,t0,t2,t3,t4,t7,rfl⟩
   ·rintro⟨k,first,rr⟩ ⟨t,ds⟩ h2 ⟨hk,R4,S2,S4,hd,t0,t2,t3,t4,t7,t8⟩;simp only at hk R4 hd t0 t2 t3 t4 t7 t8;subst hd;obtain⟨k,rfl⟩:∃k',k=k'+1:=⟨k-1,by cases k with|zero=>simp[yH]at hk|succ k=>rfl⟩;refine W6 t0 t2 t3 t4 t7 t8 ?_;refine gG R4 fun c ok e2 e3=>?_;rw[yH,e2]at hk;cases ok
    ·have:=Option.some.inj hk;subst this;refine W6 t0 t2 t3 t4 t7 t8 ?_;refine iq R4.re (r.i-1) 9 fun h3 R5=>?_;refine W6 t0 t2 t3 t4 t7 t8 ?_;exact⟨R4.back R5,S2.keep R5,S4.keep R5⟩
    ·have hl:rr.i<s.length:=by
      simp only[RS.next]at e2;split at e2
      ·cases e2
      ·omega
     have hp4:=R4.obj;unfold rsC at hp4;simp only[if_true]at hk;have R5:RdAt h0 _ p s rr.step:=R4.setI (rr.i+1) (by omega);have ej:((rr.i+1:Nat):Int)=rr.i+1:=by omega
     rw[ej]at R5;have S2':=S2.keep' n2 (AObj.cells [V.str s,V.int IntKind.i64 (↑rr.i+1),V.int IntKind.i64 ↑rr.deep,V.int IntKind.i64 ↑rr.err,V.int IntKind.i64 ↑rr.bad] false);have S4':=S4.keep' n4 (AObj.cells [V.str s,V.int IntKind.i64 (↑rr.i+1),V.int IntKind.i64 ↑rr.deep,V.int IntKind.i64 ↑rr.err,V.int IntKind.i64 ↑rr.bad] false)
     by_cases c9:c=93∧first=false
     ·rw[if_pos c9]at hk;have:=Option.some.inj hk;subst this;obtain⟨d,rfl⟩:=c9;have d':c.toNat=93:=by rw[d];rfl
      refine W7 t0 t2 t3 t4 t7 t8 hp4 ?_;exact⟨R5,S2',S4'⟩
     ·rw[if_neg c9]at hk;refine W7 t0 t2 t3 t4 t7 t8 hp4 ?_;refine oP AC.mono (fun a' h'=>h'=hadd h2 p (.cells [V.str s,V.int IntKind.i64 (↑rr.i+1),V.int IntKind.i64 ↑rr.deep,V.int IntKind.i64 ↑rr.err,V.int IntKind.i64 ↑rr.bad] false)∧a'.d=[]∧a'.t 0=.ptr p 0∧a'.t 2=.ptr b2 0∧a'.t 3=.int .i64 ((r.i-1:Nat):Int)∧a'.t 4=.ptr b4 0∧a'.t 7=.bool bb∧a'.t 9=.int .u8 c.toNat∧a'.t 55=.bool false) ?_ ?_
      ·by_cases d:c.toNat=93
       ·have d':first=true:=by
         cases first
         ·exact absurd ⟨bJ.2 d,rfl⟩ c9
         ·rfl
        subst d';exact W7 t0 t2 t3 t4 t7 t8 hp4 trivial
       ·exact W7 t0 t2 t3 t4 t7 t8 hp4 trivial
      ·rintro⟨t,ds⟩ h3 ⟨rfl,hd,t0,t2,t3,t4,t7,t9,t55⟩;simp only at hd t0 t2 t3 t4 t7 t9 t55;subst hd;refine W7 t0 t2 t3 t4 t7 t9 t55 ?_;generalize hx:(if c=92 then jm s rr.step else(c,rr.step))=x at hk;obtain⟨y,r1⟩:=x;simp only at hk;refine dn AC.mono (fun ex a' h'=>ex=.nm∧a'.d=[]∧a'.t 0=.ptr p 0∧a'.t 2=.ptr b2 0∧a'.t 3=.int .i64 ((r.i-1:Nat):Int)∧a'.t 4=.ptr b4 0∧a'.t 7=.bool bb∧a'.t 9=.int .u8 y.toNat∧RdAt h0 h' p s r1∧SetAt h' p b2∧SetAt h' p b4∧r1.i≤400) ?_ ?_
       ·by_cases d:c=92
        ·rw[if_pos d]at hx;have d':c.toNat=92:=by rw[d];rfl
         refine W7 t0 t2 t3 t4 t7 t9 t55 ?_;refine sV R5.re (by show 1≤rr.i+1;omega) (by show rr.i+1<50000;omega) fun h6 R6=>?_;rw[hx]at R6⊢;refine W7 t0 t2 t3 t4 t7 t9 t55 ?_;refine⟨R5.back R6,S2'.keep R6,S4'.keep R6,?_⟩;have:=Uk s rr.step;rw[hx]at this;simp only[RS.step]at this;omega
        ·rw[if_neg d]at hx;cases hx;have d':¬c.toNat=92:=fun e=>d (bJ.2 e);refine W7 t0 t2 t3 t4 t7 t9 t55 ?_;exact⟨R5,S2',S4',by show rr.i+1≤400;omega⟩
       ·rintro ex ⟨t,ds⟩ h3 ⟨rfl,hd,t0,t2,t3,t4,t7,t9,R6,S2,S4,hi1⟩;simp only at hd t0 t2 t3 t4 t7 t9;subst hd;have hp6:=R6.obj;unfold rsC at hp6;have e1:((r1.i+1:Nat):Int)=r1.i+1:=by omega
        have e0:((r1.i:Nat):Int).toNat=r1.i:=by omega
        have e0':((r1.i:Nat):Int)+1=((r1.i+1:Nat):Int):=by omega
        refine W7 t0 t2 t3 t4 t7 t9 hp6 ?_;generalize hb:decide (r1.i+1<s.length∧pk s r1.i=45∧pk s (r1.i+1)≠93∧r1.err=0)=cc;refine oP AC.mono (fun a' h'=>h'=h3∧a'.d=[]∧a'.t 0=.ptr p 0∧a'.t 2=.ptr b2 0∧a'.t 3=.int .i64 ((r.i-1:Nat):Int)∧a'.t 4=.ptr b4 0∧a'.t 7=.bool bb∧a'.t 9=.int .u8 y.toNat∧a'.t 11=.int .u8 y.toNat∧a'.t 103=.bool cc) ?_ ?_
        ·by_cases d1:r1.i+1<s.length
         ·have q1:=xC (s:=s) (j:=r1.i) (by omega);have q2:=Nu (s:=s) (x:=(r1.i:Int)+1) (j:=r1.i+1) (by omega) d1
          by_cases d2:(pk s r1.i).toNat=45
          ·have d2':pk s r1.i=45:=bJ.2 d2
           by_cases d3:(pk s (r1.i+1)).toNat=93
           ·have d3':pk s (r1.i+1)=93:=bJ.2 d3;have:cc=false:=by rw[← hb];simp[d3']
            subst this;exact W8 t0 t2 t3 t4 t7 t9 hp6 (An2 q1 q2) trivial
           ·have d3':¬pk s (r1.i+1)=93:=fun e=>d3 (by rw[e];rfl)
            by_cases d4:r1.err=0
            ·have:cc=true:=by rw[← hb];simp[d1,d2',d3',d4]
             subst this;exact W8 t0 t2 t3 t4 t7 t9 hp6 (An2 q1 q2) trivial
            ·have:cc=false:=by rw[← hb];simp[d4]
             subst this;exact W8 t0 t2 t3 t4 t7 t9 hp6 (An2 q1 q2) trivial
          ·have d2':¬pk s r1.i=45:=fun e=>d2 (by rw[e];rfl);have:cc=false:=by rw[← hb];simp[d2']
           subst this;exact W8 t0 t2 t3 t4 t7 t9 hp6 q1 trivial
         ·have:cc=false:=by rw[← hb];simp[d1]
          subst this;exact W7 t0 t2 t3 t4 t7 t9 hp6 trivial
        ·rintro⟨t,ds⟩ h4 ⟨rfl,hd,t0,t2,t3,t4,t7,t9,t11,t103⟩;simp only at hd t0 t2 t3 t4 t7 t9 t11 t103;subst hd;refine W8 t0 t2 t3 t4 t7 t9 t11 t103 ?_;refine dn AC.mono (fun ex a' h'=>ex=.nm∧a'.d=[]∧a'.t 0=.ptr p 0∧a'.t 2=.ptr b2 0∧a'.t 3=.int .i64 ((r.i-1:Nat):Int)∧a'.t 4=.ptr b4 0∧a'.t 7=.bool bb∧a'.t 9=.int .u8 y.toNat∧SetAt h' p b2∧SetAt h' p b4∧∃(z:UInt8) (r3:RS),a'.t 11=.int .u8 z.toNat∧RdAt h0 h' p s r3∧yH s (r.i-1) k false r3=some r') ?_ ?_
         ·cases cc
          ·rw[if_neg (by simpa using hb)]at hk;refine W8 t0 t2 t3 t4 t7 t9 t11 t103 ?_;exact⟨S2,S4,_,_,rfl,R6,hk⟩
          ·have hb':=of_decide_eq_true hb;rw[if_pos hb']at hk;obtain⟨d1,d2,d3,d4⟩:=hb';have R7:RdAt h0 _ p s {r1 with i:=r1.i+2}:=R6.setI (r1.i+2) (by omega);have ej:((r1.i+2:Nat):Int)=r1.i+2:=by omega
           rw[ej]at R7;have q3:=Nu (s:=s) (x:=(r1.i:Int)+2-1) (j:=r1.i+1) (by omega) d1;refine W8 t0 t2 t3 t4 t7 t9 t11 (An2 t103 (An2 hp6 q3)) ?_;have S2':=S2.keep' n2 (AObj.cells [V.str s,V.int IntKind.i64 (↑r1.i+2),V.int IntKind.i64 ↑r1.deep,V.int IntKind.i64 ↑r1.err,V.int IntKind.i64 ↑r1.bad] false);have S4':=S4.keep' n4 (AObj.cells [V.str s,V.int IntKind.i64 (↑r1.i+2),V.int IntKind.i64 ↑r1.deep,V.int IntKind.i64 ↑r1.err,V.int IntKind.i64 ↑r1.bad] false);generalize hz:(if pk s (r1.i+1)=92 then jm s {r1 with i:=r1.i+2} else(pk s (r1.i+1),{r1 with i:=r1.i+2}))=zz at hk;obtain⟨z,r2⟩:=zz;simp only at hk;refine dn AC.mono (fun ex a' h'=>ex=.nm∧a'.d=[]∧a'.t 0=.ptr p 0∧a'.t 2=.ptr b2 0∧a'.t 3=.int .i64 ((r.i-1:Nat):Int)∧a'.t 4=.ptr b4 0∧a'.t 7=.bool bb∧a'.t 9=.int .u8 y.toNat∧SetAt h' p b2∧SetAt h' p b4∧a'.t 11=.int .u8 z.toNat∧RdAt h0 h' p s r2) ?_ ?_
           ·by_cases d:pk s (r1.i+1)=92
            ·rw[if_pos d]at hz;have d':(pk s (r1.i+1)).toNat=92:=by rw[d];rfl
             refine W8 t0 t2 t3 t4 t7 t9 t11 d' ?_;refine sV R7.re (by show 1≤r1.i+2;omega) (by show r1.i+2<50000;omega) fun h6 R8=>?_;rw[hz]at R8⊢;refine W6 t0 t2 t3 t4 t7 t9 ?_;exact⟨S2'.keep R8,S4'.keep R8,R7.back R8⟩
            ·rw[if_neg d]at hz;cases hz;have d':¬(pk s (r1.i+1)).toNat=92:=fun e=>d (bJ.2 e);refine W7 t0 t2 t3 t4 t7 t9 d' ?_;exact⟨S2',S4',R7⟩
           ·rintro ex ⟨t,ds⟩ h5 ⟨rfl,hd,t0,t2,t3,t4,t7,t9,S2,S4,t11,R8⟩;simp only at hd t0 t2 t3 t4 t7 t9 t11;subst hd
            by_cases d:z.toNat<y.toNat
            ·rw[if_pos d]at hk;refine W7 t0 t2 t3 t4 t7 t9 t11 ?_;refine iq R8.re (r.i-1) 9 fun h6 R9=>?_;refine W7 t0 t2 t3 t4 t7 t9 t11 ?_;exact⟨S2.keep R9,S4.keep R9,_,_,rfl,R8.back R9,hk⟩
            ·rw[if_neg d]at hk;refine W7 t0 t2 t3 t4 t7 t9 t11 ?_;exact⟨S2,S4,_,_,rfl,R8,hk⟩
         ·rintro ex ⟨t,ds⟩ h5 ⟨rfl,hd,t0,t2,t3,t4,t7,t9,S2,S4,z,r3,t11,R8,hk⟩;simp only at hd t0 t2 t3 t4 t7 t9 t11;subst hd;have hy:=y.toNat_lt;have hz:=z.toNat_lt;refine W7 t0 t2 t3 t4 t7 t9 t11 ?_;refine E.cut AC.mono (fun ex a' h'=>ex=.exit 2∧a'.d=[]∧a'.t 0=.ptr p 0∧a'.t 2=.ptr b2 0∧a'.t 3=.int .i64 ((r.i-1:Nat):Int)∧a'.t 4=.ptr b4 0∧a'.t 7=.bool bb∧SetAt h' p b2∧SetAt h' p b4∧RdAt h0 h' p s r3) ?_ ?_
          ·refine E.loopX AC.mono (fun(x:Nat) a' h'=>x≤256∧a'.d=[]∧a'.t 0=.ptr p 0∧a'.t 2=.ptr b2 0∧a'.t 3=.int .i64 ((r.i-1:Nat):Int)∧a'.t 4=.ptr b4 0∧a'.t 7=.bool bb∧a'.t 11=.int .u8 z.toNat∧a'.t 12=.int .i64 x∧SetAt h' p b2∧SetAt h' p b4∧RdAt h0 h' p s r3) (fun x=>256-x) y.toNat ?_ ?_
           ·refine⟨by omega,?_⟩;refine W7 t0 t2 t3 t4 t7 t9 t11 ?_;exact⟨S2,S4,R8⟩
           ·rintro x ⟨t,ds⟩ h6 ⟨hx,hd,t0,t2,t3,t4,t7,t11,t12,S2,S4,R9⟩;simp only at hd t0 t2 t3 t4 t7 t11 t12;subst hd
            by_cases d:x≤z.toNat
            ·obtain⟨n4',s1,s2,s3,s4,hs4⟩:=id S4;unfold jK at hs4;refine W8 t0 t2 t3 t4 t7 t11 t12 hs4 ?_;refine Ol s1 s2 s3 s4 x (by omega) (by omega) fun a1 a2 a3 a4=>?_;unfold jK;refine W8 t0 t2 t3 t4 t7 t11 t12 hs4 ?_;refine⟨x+1,by omega,by omega,?_⟩;refine W1 (show((x+1:Nat):Int)=(x:Int)+1 from by omega) ?_;exact⟨S2.over n24,⟨n4',_,_,_,_,by simp[hadd,hset,jK];exact⟨rfl,rfl,rfl,rfl⟩⟩,R9.over z4 n4'⟩
            ·refine W7 t0 t2 t3 t4 t7 t11 t12 ?_;exact⟨S2,S4,R9⟩
          ·rintro ex ⟨t,ds⟩ h6 ⟨rfl,hd,t0,t2,t3,t4,t7,S2,S4,R9⟩;simp only at hd t0 t2 t3 t4 t7;subst hd;refine W5 t0 t2 t3 t4 t7 ?_;exact⟨(k,false,r3),by show k<k+1;omega,hk,R9,S2,S4,rfl⟩
  ·rintro ex ⟨t,ds⟩ h2 ⟨rfl,hd,t2,t4,t7,R4,S2,S4⟩;simp only at hd t2 t4 t7;subst hd;obtain⟨n4',s1,s2,s3,s4,hs4⟩:=id S4;obtain⟨n2',q1,q2,q3,q4,hs2⟩:=id S2;unfold jK at hs4 hs2;cases bb
   ·refine W5 t2 t4 t7 hs4 hs2 ?_;exact⟨_,Sub.refl,hq _ _ _ _ _ (R4.over z2 n2')⟩
   ·refine W5 t2 t4 t7 hs4 hs2 ?_;refine MQ s1 s2 s3 s4 fun a1 a2 a3 a4=>?_;unfold jK;refine W6 t2 t4 t7 hs4 hs2 n24 ?_;exact⟨_,Sub.refl,hq _ _ _ _ _ ((R4.over z4 n4').over z2 n2')⟩
end
section
open Mir
variable{h:H}{Q:V→H→Prop}{h0:H}{p:Nat}{s:Txt}{r:RS}
def yJ(v:V):Prop:=∃a b c d e f,v=.agg [a,b,c,d,e,f]∧a.flat=true∧b.flat=true∧c.flat=true∧d.flat=true∧e.flat=true∧f.flat=true
inductive RCells:Nat→List V→Prop
 |nil:RCells 0 []
 |cons {n a b c d e f l}:a.flat=true→b.flat=true→c.flat=true→d.flat=true→e.flat=true→f.flat=true→RCells n l→RCells (n+1) (a::b::c::d::e::f::l)
def QR(s:Txt)(k:Nat):Prop:=∀(h0 h:H) (p:Nat) (r:RS) (Q:V→H→Prop),RdAt h0 h p s r→RFine s r→rem s r*4+2≤k→(∀h' v r',Ey s k r=some r'→ROk s r r'→RdAt h0 h' p s r'→yJ v→Q v h')→AC pg (.fn 131) [.ptr p 0] h Q
def QS(s:Txt)(k:Nat):Prop:=∀(h0 h:H) (p:Nat) (r:RS) (Q:V→H→Prop),RdAt h0 h p s r→RFine s r→rem s r*4+1≤k→(∀h' v r',Ag s k r=some r'→ROk s r r'→RdAt h0 h' p s r'→yJ v→Q v h')→AC pg (.fn 133) [.ptr p 0] h Q
def Jr(s:Txt)(k:Nat):Prop:=∀(h0 h:H) (p:Nat) (r:RS) (c:UInt8) (Q:V→H→Prop),RdAt h0 h p s r→RFine s r→r.next s=some c→rem s r*4≤k→(∀h' v r',BZ s k r=some r'→ROk s r r'→rem s r'<rem s r→RdAt h0 h' p s r'→yJ v→Q v h')→AC pg (.fn 136) [.ptr p 0] h Q
theorem OB(k:Nat)(hA:QR s k):Jr s (k+1):=by
 intro h0 h p r c Q R hf e hk hq;obtain⟨r',er,ok,hlt⟩:=(F7 (s:=s) (k+1)).2.2.2 r c hf e hk;have hq:=fun h' v=>hq h' v r' er ok hlt;obtain⟨st,rm,es⟩:=hf.step e;obtain⟨n1,n2,n3⟩:=iJ e;have hp:=R.obj;have sm:=R.small;unfold rsC at hp;rw[BZ,e]at er;simp only at er;refine AC.fn' (g:=Lm) rfl (by simp only[List.length_cons,List.length_nil,Lm];decide) ?_;simp only[Lm,Mir.Ab.all];refine W1 hp ?_;intro b2 hb2;have np:=R.ne hb2;have z2:=R.new hb2;have R1:=R.put (o:=AObj.cells [V.int IntKind.i64 0,V.int IntKind.u64 0,V.int IntKind.u64 0,V.int IntKind.u64 0,V.int IntKind.u64 0,V.nilsl] false) hb2;refine W2 hp np ?_;refine gG R1 fun c' ok' e2 e3=>?_;have:ok'=true∧c'=c:=by rw[e2]at e;cases ok'<;>simp_all
 obtain⟨rfl,rfl⟩:=this;refine W2 hp np ?_;have hl:=R.deep;have ej:((r.i+1:Nat):Int)=r.i+1:=by omega
 have ei:(r.i:Int)+1-1=r.i:=by omega
 have R3:RdAt h0 _ p s r.step:=R1.setI (r.i+1) (by omega);rw[ej]at R3
 by_cases c40:c'=40
 ·rw[if_pos c40]at er;have d:c'.toNat=40:=by rw[c40];rfl
  obtain⟨l1,l2⟩:=hf.low n1;have ed:((r.deep+1:Nat):Int)=r.deep+1:=by omega
  have R4:RdAt h0 (hadd (hadd h b2 (AObj.cells [V.int IntKind.i64 0,V.int IntKind.u64 0,V.int IntKind.u64 0,V.int IntKind.u64 0,V.int IntKind.u64 0,V.nilsl] false)) p (.cells [V.str s,V.int IntKind.i64 (↑r.i+1),V.int IntKind.i64 (↑r.deep+1),V.int IntKind.i64 ↑r.err,V.int IntKind.i64 ↑r.bad] false)) p s {r.step with deep:=r.deep+1}:=by
   have R:=R1.set {r.step with deep:=r.deep+1} (by show r.i+1≤_;omega) (by show r.deep+1≤_;omega);unfold rsC at R;rw[ed,show(({r.step with deep:=r.deep+1}:RS).i:Int)=r.i+1 from by show((r.i+1:Nat):Int)=_;omega]at R;exact R
  generalize hr1:(if 20<({r.step with deep:=r.deep+1}:RS).deep then RS.fail {r.step with deep:=r.deep+1} r.i 14 else {r.step with deep:=r.deep+1})=r1 at er;have f1:r1.i=r.i+1∧r1.deep=r.deep+1∧(r1.err=0→r1.deep≤20)∧rem s r1≤rem s r.step:=by
   rw[← hr1];split
   ·obtain⟨m1,m2,m3⟩:=dQ {r.step with deep:=r.deep+1} r.i 14 (by decide);exact⟨m2,m3,fun h=>absurd h m1,by unfold rem;rw[if_neg m1];exact Nat.zero_le _⟩
   ·rename_i q;exact⟨rfl,rfl,fun _=>by simpa using q,Nat.le_refl _⟩
  obtain⟨g1,g2,g3,g4⟩:=f1;have F1:RFine s r1:=⟨fun h=>⟨by omega,g3 h⟩,by omega⟩;refine W3 hp np ei ?_;refine dn AC.mono (fun ex a' h'=>ex=.nm∧a'.d=[]∧a'.t 0=.ptr p 0∧a'.t 2=.ptr b2 0∧a'.t 5=.int .i64 r.i∧RdAt h0 h' p s r1∧h' b2=some (.cells [V.int IntKind.i64 0,V.int IntKind.u64 0,V.int IntKind.u64 0,V.int IntKind.u64 0,V.int IntKind.u64 0,V.nilsl] false)) ?_ ?_
  ·by_cases c20:20<r.deep+1
   ·rw[if_pos c20]at hr1;refine W2 hp np ?_;refine iq R4.re r.i 14 fun h3 R5=>?_;rw[hr1]at R5;refine W2 hp np ?_;refine⟨R4.back R5,R5.keep (Ne.symm np) ?_⟩;simp[hadd,hset,Ne.symm np]
   ·rw[if_neg c20]at hr1;rw[← hr1];refine W2 hp np ?_;exact R4
  ·rintro ex ⟨t,ds⟩ h3 ⟨rfl,hd,t0,t2,t5,R5,hb⟩;simp only at hd t0 t2 t5;subst hd;refine W3 t0 t2 t5 ?_;refine hA _ _ _ _ _ R5.re F1 (by omega) fun h4 v r2 e2 o2 R6 hv=>?_;have hb:=R6.keep (Ne.symm np) hb;rw[e2]at er;have er:=Option.some.inj er;obtain⟨v1,v2,v3,v4,v5,v6,rfl,w1,w2,w3,w4,w5,w6⟩:=hv;refine W3 t0 t2 t5 ?_;intro b6 hb6;have n62:b2≠b6:=fun e=>by rw[← e,hb]at hb6;cases hb6
   have z6:h0 b6=none:=(R5.back R6).new hb6;have np6:=(R5.back R6).ne hb6;have R7:=((R5.back R6).put (o:=AObj.cells [v1,v2,v3,v4,v5,v6] false) hb6);refine W8 w1 w2 w3 w4 w5 w6 t0 (An2 t2 t5) ?_;have hp7:=R7.obj;unfold rsC at hp7;have o2d:=o2.deep;have o2s:=o2.fine.sum;have hb6':hadd h4 b6 (AObj.cells [v1,v2,v3,v4,v5,v6] false) b6=some (AObj.cells [v1,v2,v3,v4,v5,v6] false):=by simp[hadd,hset]
   have hb2':hadd h4 b6 (AObj.cells [v1,v2,v3,v4,v5,v6] false) b2=some (.cells [V.int IntKind.i64 0,V.int IntKind.u64 0,V.int IntKind.u64 0,V.int IntKind.u64 0,V.int IntKind.u64 0,V.nilsl] false):=by rw[ae n62];exact hb
   generalize hadd h4 b6 (AObj.cells [v1,v2,v3,v4,v5,v6] false)=h5 at R7 hp7 hb6' hb2'⊢;refine gG R7 fun c3 ok3 e5 _=>?_
   by_cases e41:r2.next s=some 41
   ·have q:ok3=true∧c3=41:=by rw[e5]at e41;cases ok3<;>simp_all
    obtain⟨rfl,q2⟩:=q;have q2':c3.toNat=41:=by rw[q2];rfl
    have ek:((r2.i+1:Nat):Int)=r2.i+1:=by omega
    have ek':((r2.deep-1:Nat):Int)=r2.deep-1:=by omega
    simp only[e41,if_true]at er;have R8:RdAt h0 (hadd h5 p (.cells [V.str s,V.int IntKind.i64 (↑r2.i+1),V.int IntKind.i64 (↑r2.deep-1),V.int IntKind.i64 ↑r2.err,V.int IntKind.i64 ↑r2.bad] false)) p s r':=by
     have R:=R7.set {r2 with i:=r2.i+1,deep:=r2.deep-1} (by show r2.i+1≤_;omega) (by show r2.deep-1≤_;omega);unfold rsC at R;rw[ek,ek']at R;rw[← er];exact R
    refine W8 t0 t2 t5 hp7 hb6' hb2' w1 (An2 w2 (An2 w3 (An2 w4 (An2 w5 (An2 w6 (An2 (Ne.symm np6) (Ne.symm np))))))) ?_;exact⟨_,Sub.refl,hq _ _ (R8.over z2 (Ne.symm np)) ⟨_,_,_,_,_,_,rfl,w1,w2,w3,w4,w5,w6⟩⟩
   ·simp only[e41,if_false]at er;have fin:∀(t:Tm) h6,t 0=.ptr p 0→RdAt (hset h5 p none) h6 p s (r2.fail r.i 9)→True:=fun _ _ _ _=>trivial;cases ok3
    ·refine W3 t0 t2 t5 ?_;refine iq R7.re r.i 9 fun h6 R8=>?_;have hb6':=R8.keep (Ne.symm np6) hb6';have hb2':=R8.keep (Ne.symm np) hb2';have hp8:=R8.obj;unfold rsC at hp8;obtain⟨m1,m2,m3⟩:=dQ r2 r.i 9 (by decide);have ek:(((r2.fail r.i 9).i+1:Nat):Int)=(r2.fail r.i 9).i+1:=by omega
     have ek':(((r2.fail r.i 9).deep-1:Nat):Int)=(r2.fail r.i 9).deep-1:=by omega
     have R9:RdAt h0 (hadd h6 p (.cells [V.str s,V.int IntKind.i64 (↑(r2.fail r.i 9).i+1),V.int IntKind.i64 (↑(r2.fail r.i 9).deep-1),V.int IntKind.i64 ↑(r2.fail r.i 9).err,V.int IntKind.i64 ↑(r2.fail r.i 9).bad] false)) p s r':=by
      have R:=(R7.back R8).set {r2.fail r.i 9 with i:=(r2.fail r.i 9).i+1,deep:=(r2.fail r.i 9).deep-1} (by show(r2.fail r.i 9).i+1≤_;omega) (by show(r2.fail r.i 9).deep-1≤_;omega);unfold rsC at R;rw[ek,ek']at R;rw[← er];exact R
     refine W8 t0 t2 t5 hp8 hb6' hb2' w1 (An2 w2 (An2 w3 (An2 w4 (An2 w5 (An2 w6 (An2 (Ne.symm np6) (Ne.symm np))))))) ?_;exact⟨_,Sub.refl,hq _ _ (R9.over z2 (Ne.symm np)) ⟨_,_,_,_,_,_,rfl,w1,w2,w3,w4,w5,w6⟩⟩
    ·have q2:¬c3.toNat=41:=fun e=>e41 (by rw[e5,(bJ.2 e:c3=41)];rfl);refine W3 t0 t2 t5 ?_;refine iq R7.re r.i 9 fun h6 R8=>?_;have hb6':=R8.keep (Ne.symm np6) hb6';have hb2':=R8.keep (Ne.symm np) hb2';have hp8:=R8.obj;unfold rsC at hp8;obtain⟨m1,m2,m3⟩:=dQ r2 r.i 9 (by decide);have ek:(((r2.fail r.i 9).i+1:Nat):Int)=(r2.fail r.i 9).i+1:=by omega
     have ek':(((r2.fail r.i 9).deep-1:Nat):Int)=(r2.fail r.i 9).deep-1:=by omega
     have R9:RdAt h0 (hadd h6 p (.cells [V.str s,V.int IntKind.i64 (↑(r2.fail r.i 9).i+1),V.int IntKind.i64 (↑(r2.fail r.i 9).deep-1),V.int IntKind.i64 ↑(r2.fail r.i 9).err,V.int IntKind.i64 ↑(r2.fail r.i 9).bad] false)) p s r':=by
      have R:=(R7.back R8).set {r2.fail r.i 9 with i:=(r2.fail r.i 9).i+1,deep:=(r2.fail r.i 9).deep-1} (by show(r2.fail r.i 9).i+1≤_;omega) (by show(r2.fail r.i 9).deep-1≤_;omega);unfold rsC at R;rw[ek,ek']at R;rw[← er];exact R
     refine W8 t0 t2 t5 hp8 hb6' hb2' w1 (An2 w2 (An2 w3 (An2 w4 (An2 w5 (An2 w6 (An2 (Ne.symm np6) (Ne.symm np))))))) ?_;exact⟨_,Sub.refl,hq _ _ (R9.over z2 (Ne.symm np)) ⟨_,_,_,_,_,_,rfl,w1,w2,w3,w4,w5,w6⟩⟩
 rw[if_neg c40]at er;have d40:¬c'.toNat=40:=fun e=>c40 (bJ.2 e)
 by_cases c91:c'=91
 ·rw[if_pos c91]at er;have d:c'.toNat=91:=by rw[c91];rfl
  refine W2 hp np ?_;refine TN k R3.re (by show 1≤r.i+1;omega) (by show r.i+1≤301;omega) r' (by rw[show r.step.i-1=r.i from rfl];exact er) fun h3 x y z w R4=>?_;have hb:=R4.keep (Ne.symm np) (o:=AObj.cells [V.int IntKind.i64 0,V.int IntKind.u64 0,V.int IntKind.u64 0,V.int IntKind.u64 0,V.int IntKind.u64 0,V.nilsl] false) (by rw[ae (Ne.symm np)];simp[hadd,hset]);unfold jK;refine W1 hb ?_;exact⟨_,Sub.refl,hq _ _ ((R3.back R4).over z2 (Ne.symm np)) ⟨_,_,_,_,_,_,rfl,rfl,rfl,rfl,rfl,rfl,rfl⟩⟩
 rw[if_neg c91]at er;have d91:¬c'.toNat=91:=fun e=>c91 (bJ.2 e)
 by_cases c46:c'=46∨c'=94∨c'=36
 ·rw[if_pos c46]at er;cases er;have d46:c'.toNat=46∨c'.toNat=94∨c'.toNat=36:=by
   rcases c46 with e|e|e
   ·left;rw[e];rfl
   ·right;left;rw[e];rfl
   ·right;right;rw[e];rfl
  rcases d46 with d|d|d
  ·refine W2 hp np ?_;refine MQ 0 0 0 0 fun x y z w=>?_;unfold jK;refine W2 hp np ?_;exact⟨_,Sub.refl,hq _ _ (R3.over z2 (Ne.symm np)) ⟨_,_,_,_,_,_,rfl,rfl,rfl,rfl,rfl,rfl,rfl⟩⟩
  ·refine W2 hp np ?_;exact⟨_,Sub.refl,hq _ _ (R3.over z2 (Ne.symm np)) ⟨_,_,_,_,_,_,rfl,rfl,rfl,rfl,rfl,rfl,rfl⟩⟩
  ·refine W2 hp np ?_;exact⟨_,Sub.refl,hq _ _ (R3.over z2 (Ne.symm np)) ⟨_,_,_,_,_,_,rfl,rfl,rfl,rfl,rfl,rfl,rfl⟩⟩
 rw[if_neg c46]at er;have d46:¬c'.toNat=46:=fun e=>c46 (.inl (bJ.2 e));have d94:¬c'.toNat=94:=fun e=>c46 (.inr (.inl (bJ.2 e)));have d36:¬c'.toNat=36:=fun e=>c46 (.inr (.inr (bJ.2 e)))
 by_cases c42:c'=42∨c'=43∨c'=63
 ·rw[if_pos c42]at er;cases er;have d42:c'.toNat=42∨c'.toNat=43∨c'.toNat=63:=by
   rcases c42 with e|e|e
   ·left;rw[e];rfl
   ·right;left;rw[e];rfl
   ·right;right;rw[e];rfl
  rcases d42 with d|d|d
  all_goals
   refine W3 hp np ei ?_;refine iq R3.re r.i 9 fun h3 R4=>?_;have hb:=R4.keep (Ne.symm np) (o:=AObj.cells [V.int IntKind.i64 0,V.int IntKind.u64 0,V.int IntKind.u64 0,V.int IntKind.u64 0,V.int IntKind.u64 0,V.nilsl] false) (by rw[ae (Ne.symm np)];simp[hadd,hset]);refine W1 hb ?_;refine vG 0 0 0 0 c' fun x y z w=>?_;unfold jK;refine W1 hb ?_;exact⟨_,Sub.refl,hq _ _ ((R3.back R4).over z2 (Ne.symm np)) ⟨_,_,_,_,_,_,rfl,rfl,rfl,rfl,rfl,rfl,rfl⟩⟩
 rw[if_neg c42]at er;have d42:¬c'.toNat=42:=fun e=>c42 (.inl (bJ.2 e));have d43:¬c'.toNat=43:=fun e=>c42 (.inr (.inl (bJ.2 e)));have d63:¬c'.toNat=63:=fun e=>c42 (.inr (.inr (bJ.2 e)))
 by_cases c92:c'=92
 ·rw[if_pos c92]at er;cases er;have d:c'.toNat=92:=by rw[c92];rfl
  refine W2 hp np ?_;refine sV R3.re (by show 1≤r.i+1;omega) (by show r.i+1<50000;omega) fun h3 R4=>?_;have hb:=R4.keep (Ne.symm np) (o:=AObj.cells [V.int IntKind.i64 0,V.int IntKind.u64 0,V.int IntKind.u64 0,V.int IntKind.u64 0,V.int IntKind.u64 0,V.nilsl] false) (by rw[ae (Ne.symm np)];simp[hadd,hset]);refine W1 hb ?_;refine vG 0 0 0 0 _ fun x y z w=>?_;unfold jK;refine W1 hb ?_;exact⟨_,Sub.refl,hq _ _ ((R3.back R4).over z2 (Ne.symm np)) ⟨_,_,_,_,_,_,rfl,rfl,rfl,rfl,rfl,rfl,rfl⟩⟩
 ·rw[if_neg c92]at er;cases er;have d92:¬c'.toNat=92:=fun e=>c92 (bJ.2 e);refine W2 hp np ?_;refine vG 0 0 0 0 c' fun x y z w=>?_;unfold jK;refine W2 hp np ?_;exact⟨_,Sub.refl,hq _ _ (R3.over z2 (Ne.symm np)) ⟨_,_,_,_,_,_,rfl,rfl,rfl,rfl,rfl,rfl,rfl⟩⟩
end
section
open Mir
variable{h:H}{Q:V→H→Prop}{h0:H}{p:Nat}{s:Txt}{r:RS}
theorem RCells.len{n:Nat}{l:List V}(c:RCells n l):l.length=6*n:=by
 induction c with
 |nil=>rfl
 |cons _ _ _ _ _ _ _ ih=>simp only[List.length_cons,ih];omega
theorem RCells.app{n m:Nat}{l k:List V}(c:RCells n l)(d:RCells m k):RCells (n+m) (l++k):=by
 induction c with
 |nil=>simpa using d
 |cons a b c d e f _ ih=>rw[Nat.succ_add_eq_add_succ,Nat.add_succ];exact .cons a b c d e f ih
theorem RdAt.lose(R:RdAt h0 h p s r){b:Nat}(z:h0 b=none)(n:b≠p):RdAt h0 (hset h b none) p s r:=
 ⟨by unfold hset;rw[if_neg (Ne.symm n)];exact R.obj,R.base,fun x o hx=>by unfold hset;rw[if_neg (af z hx)];exact R.sub _ _ hx,R.small,R.place,R.deep⟩
def RSl(h0 h:H)(p q n:Nat)(v:V):Prop:=(n=0∧v=.nilsl)∨∃b cs,(h0 b=none∧b≠p∧b≠q)∧0<n∧v=.sl b 0 6 n∧h b=some (.cells cs false)∧RCells n cs
theorem RSl.keep{r':RS}{h':H}{q n:Nat}{v:V}(A:RSl h0 h p q n v)(R':RdAt (hset h p none) h' p s r'):RSl h0 h' p q n v:=by
 rcases A with A|⟨b,cs,h1,h2,h3,h4,h5⟩
 ·exact .inl A
 ·exact .inr ⟨b,cs,h1,h2,h3,R'.keep h1.2.1 h4,h5⟩
abbrev N0:List V:=[V.int IntKind.i64 0,V.int IntKind.u64 0,V.int IntKind.u64 0,V.int IntKind.u64 0,V.int IntKind.u64 0,V.nilsl]
theorem Rh(k:Nat)(hB:∀j,j<k→Jr s j):QS s k:=by
 intro h0 h p r Q R hf hk hq;obtain⟨r',er,ok⟩:=(F7 (s:=s) k).2.2.1 r hf hk;have hq:=fun h' v=>hq h' v r' er ok;have sm:=R.small;refine AC.fn' (g:=Lh) rfl (by simp only[List.length_cons,List.length_nil,Lh];decide) ?_;simp only[Lh,Mir.Ab.all];refine W0 ?_;intro b2 hb2;have np:=R.ne hb2;have z2:=R.new hb2;have R1:=R.put (o:=AObj.cells N0 false) hb2;have hb2':hadd h b2 (AObj.cells N0 false) b2=some (.cells N0 false):=by simp[hadd,hset]
 refine W0 ?_;unfold N0 at R1 hb2';generalize hadd h b2 _=h1 at R1 hb2'⊢;refine E.cut AC.mono (fun ex a' h'=>ex=.exit 0∧a'.d=[]∧a'.t 2=.ptr b2 0∧(∃n,RSl h0 h' p b2 n (a'.t 3))∧RdAt h0 h' p s r'∧h' b2=some (.cells N0 false)) ?_ ?_
 ·have hrem:rem s r≤300:=by unfold rem;split<;>omega
  refine E.loopX AC.mono (fun(x:Nat × RS × Nat) a' h'=>Ag s x.1 x.2.1=some r'∧x.1≤k∧RFine s x.2.1∧rem s x.2.1*4+1≤x.1∧x.2.2+rem s x.2.1≤300∧RdAt h0 h' p s x.2.1∧a'.d=[]∧a'.t 0=.ptr p 0∧a'.t 2=.ptr b2 0∧RSl h0 h' p b2 x.2.2 (a'.t 3)∧h' b2=some (.cells N0 false)) (fun x=>x.1) (k,r,0) ?_ ?_
  ·refine⟨er,Nat.le_refl _,hf,hk,by show 0+rem s r≤300;omega,R1,rfl,rfl,rfl,.inl ⟨rfl,rfl⟩,hb2'⟩
  ·rintro⟨k1,rr,n⟩ ⟨t,ds⟩ h2 ⟨hc,hk1,f1,hk2,hn,R2,hd,t0,t2,t3,hb⟩;simp only at hc hk1 f1 hk2 hn R2 hd t0 t2 t3;subst hd;obtain⟨k1,rfl⟩:∃k',k1=k'+1:=⟨k1-1,by omega⟩;have hp2:=R2.obj;unfold rsC at hp2;refine W2 t0 t2 ?_;refine gG R2 fun c ok e2 e3=>?_;rw[Ag,e2]at hc;have hdp:=R2.deep;cases ok
   ·have:=Option.some.inj hc;subst this;refine W3 t0 t2 hp2 ?_;exact⟨⟨_,t3⟩,R2,hb⟩
   simp only[if_true]at hc
   by_cases c124:c.toNat=124
   ·rw[if_pos (.inl (bJ.2 c124))]at hc;have:=Option.some.inj hc;subst this;refine W3 t0 t2 hp2 ?_;exact⟨⟨_,t3⟩,R2,hb⟩
   have c124':¬c=124:=fun e=>c124 (by rw[e];rfl)
   by_cases c41:c.toNat=41
   ·have c41':c=41:=bJ.2 c41
    by_cases dp:0<rr.deep
    ·rw[if_pos (.inr ⟨c41',dp⟩)]at hc;have:=Option.some.inj hc;subst this;refine W3 t0 t2 hp2 ?_;exact⟨⟨_,t3⟩,R2,hb⟩
    ·rw[if_neg (by simp[c124',dp]),if_pos c41']at hc;have:=Option.some.inj hc;subst this;refine W3 t0 t2 hp2 ?_;refine iq R2.re rr.i 9 fun h3 R3=>?_;refine W2 t0 t2 ?_;exact⟨⟨_,t3.keep R3⟩,R2.back R3,R3.keep (Ne.symm np) hb⟩
   ·have c41':¬c=41:=fun e=>c41 (by rw[e];rfl);rw[if_neg (by simp[c124',c41']),if_neg c41']at hc;have e2':rr.next s=some c:=e2;refine W3 t0 t2 hp2 ?_;refine hB k1 (by omega) _ _ _ _ c _ R2.re f1 e2' (by omega) fun h3 v ra e3 oa la R3 hv=>?_;rw[e3]at hc;simp only[Option.bind_some]at hc;have R3':=R2.back R3;have t3:=t3.keep R3;have hb:=R3.keep (Ne.symm np) hb;obtain⟨v1,v2,v3,v4,v5,v6,rfl,w1,w2,w3,w4,w5,w6⟩:=hv;refine W2 t0 t2 ?_;intro b6 hb6;have n62:b2≠b6:=fun e=>by rw[← e,hb]at hb6;cases hb6
    have z6:h0 b6=none:=R3'.new hb6;have np6:=R3'.ne hb6;have R4:=R3'.put (o:=AObj.cells [v1,v2,v3,v4,v5,v6] false) hb6;refine W8 w1 w2 w3 w4 w5 w6 t0 t2 ?_;have t3':RSl h0 (hadd h3 b6 (AObj.cells [v1,v2,v3,v4,v5,v6] false)) p b2 n (t 3):=by
     rcases t3 with A|⟨b,cs,h1,h2,h3,h4,h5⟩
     ·exact .inl A
     ·exact .inr ⟨b,cs,h1,h2,h3,by rw[ae (af hb6 h4)];exact h4,h5⟩
    have hb2':hadd h3 b6 (AObj.cells [v1,v2,v3,v4,v5,v6] false) b2=some (.cells N0 false):=by rw[ae n62];exact hb
    have S6:∀b o e m,t 3=.sl b o e m→b≠b6:=fun b o e m he=>by
     rcases t3 with⟨_,A⟩|⟨b',cs,h1,h2,h3,h4,h5⟩
     ·rw[A]at he;cases he
     ·rw[h3]at he;cases he;exact af hb6 h4
    refine E.cut AC.mono (fun ex a' h'=>ex=.exit 3∧a'.d=[]∧a'.t 0=.ptr p 0∧a'.t 2=.ptr b2 0∧a'.t 3=t 3∧a'.t 6=.ptr b6 0∧RSl h0 h' p b2 n (t 3)∧h' b2=some (.cells N0 false)∧(∃v1 v2 v3 v4 v5 v6,h' b6=some (.cells [v1,v2,v3,v4,v5,v6] false)∧v1.flat=true∧v2.flat=true∧v3.flat=true∧v4.flat=true∧v5.flat=true∧v6.flat=true)∧∃rb,uN s k1 ra=some rb∧RdAt h0 h' p s rb) ?_ ?_
    ·obtain⟨rb,eb,ob⟩:=BL (s:=s) k1 ra oa.fine (by omega);refine E.loopX AC.mono (fun(x:Nat × RS) a' h'=>uN s x.1 x.2=some rb∧x.1≤k1∧RdAt h0 h' p s x.2∧x.2.i≤400∧a'.d=[]∧a'.t 0=.ptr p 0∧a'.t 2=.ptr b2 0∧a'.t 3=t 3∧a'.t 6=.ptr b6 0∧RSl h0 h' p b2 n (t 3)∧h' b2=some (.cells N0 false)∧(∃v1 v2 v3 v4 v5 v6,h' b6=some (.cells [v1,v2,v3,v4,v5,v6] false)∧v1.flat=true∧v2.flat=true∧v3.flat=true∧v4.flat=true∧v5.flat=true∧v6.flat=true)) (fun x=>x.1) (k1,ra) ?_ ?_
     ·have:=oa.fine.sum;exact⟨eb,Nat.le_refl _,R4,by show ra.i≤400;omega,rfl,t0,t2,rfl,rfl,t3',hb2',⟨_,_,_,_,_,_,by simp[hadd,hset],w1,w2,w3,w4,w5,w6⟩⟩
     ·rintro⟨k2,rc⟩ ⟨t',ds⟩ h4 ⟨hs,hk2',R5,hi5,hd,t0,t2,t3'',t6,S5,hb,v1,v2,v3,v4,v5,v6,hb6,w1,w2,w3,w4,w5,w6⟩;simp only at hs hk2' R5 hi5 hd t0 t2 t3'' t6;subst hd;obtain⟨k2,rfl⟩:∃k',k2=k'+1:=⟨k2-1,by cases k2 with|zero=>simp[uN]at hs|succ k=>rfl⟩;refine W3 t0 t2 t6 ?_;refine gG R5 fun c ok e2 e3=>?_;rw[uN,e2]at hs;refine W3 t0 t2 t6 ?_;intro bm hbm;have npm:=R5.ne hbm;have zm:=R5.new hbm;have n6m:b6≠bm:=fun e=>by rw[← e,hb6]at hbm;cases hbm
      have n2m:b2≠bm:=fun e=>by rw[← e,hb]at hbm;cases hbm
      have S5m:∀o,RSl h0 (hadd h4 bm o) p b2 n (t 3):=fun o=>by
       rcases S5 with A|⟨b,cs,h1,h2,h3,h4,h5⟩
       ·exact .inl A
       ·exact .inr ⟨b,cs,h1,h2,h3,by rw[ae (af hbm h4)];exact h4,h5⟩
      by_cases st:ok=true∧(c.toNat=42∨c.toNat=43∨c.toNat=63)
      ·obtain⟨rfl,st⟩:=st;have st':c=42∨c=43∨c=63:=by
        rcases st with e|e|e
        ·exact .inl (bJ.2 e)
        ·exact .inr (.inl (bJ.2 e))
        ·exact .inr (.inr (bJ.2 e))
       simp only[if_true,if_pos st']at hs;have hp5:=R5.obj;unfold rsC at hp5;have hl:rc.i<s.length:=(iJ e2).2.1;have sm5:=R5.small;have R6:∀o,RdAt h0 (hadd (hadd h4 bm o) p (.cells [V.str s,V.int IntKind.i64 (↑rc.i+1),V.int IntKind.i64 ↑rc.deep,V.int IntKind.i64 ↑rc.err,V.int IntKind.i64 ↑rc.bad] false)) p s rc.step:=fun o=>by
        have R:=(R5.put (o:=o) hbm).setI (rc.i+1) (by omega);rw[show((rc.i+1:Nat):Int)=rc.i+1 from by omega]at R;exact R
       rcases st with e|e|e
       all_goals
        ((try simp -implicitDefEqProofs only [later,bW,bG,bM]);(repeat (first|simp -implicitDefEqProofs only [go_sem,↓reduceIte,Nat.reduceEqDiff,Nat.reduceAdd,Nat.reduceLeDiff,Nat.reduceLT,Nat.reduceMul,reduceCtorEq,Int.reduceEq,Int.reduceLT,Int.reduceLE,Int.reduceNeg,Int.reduceToNat,Int.reduceMul,Int.reduceAdd,Int.reduceSub,t0,t2,t6,aK,bH,hp5,npm,hb6,n6m,Ne.symm np6,w1,w2,w3,w4,w5,w6]|simp (disch:=(first|omega|(simp only[go_sem];done)|(simp only[lens];omega))) only [cds,t0,t2,t6,aK,bH,hp5,npm,hb6,n6m,Ne.symm np6,w1,w2,w3,w4,w5,w6])))
        generalize hM:AObj.map _ _=M;have R7:=R6 M;have h6b:hadd (hadd h4 bm M) p (.cells [V.str s,V.int IntKind.i64 (↑rc.i+1),V.int IntKind.i64 ↑rc.deep,V.int IntKind.i64 ↑rc.err,V.int IntKind.i64 ↑rc.bad] false) b6=some (.cells [v1,v2,v3,v4,v5,v6] false):=by
         rw[ae (Ne.symm np6),ae n6m];exact hb6
        have h2b:hadd (hadd h4 bm M) p (.cells [V.str s,V.int IntKind.i64 (↑rc.i+1),V.int IntKind.i64 ↑rc.deep,V.int IntKind.i64 ↑rc.err,V.int IntKind.i64 ↑rc.bad] false) b2=some (.cells N0 false):=by
         rw[ae (Ne.symm np),ae n2m];exact hb
        have S7:RSl h0 (hadd (hadd h4 bm M) p (.cells [V.str s,V.int IntKind.i64 (↑rc.i+1),V.int IntKind.i64 ↑rc.deep,V.int IntKind.i64 ↑rc.err,V.int IntKind.i64 ↑rc.bad] false)) p b2 n (t 3):=by
         rcases S5m M with A|⟨b,cs,h1,h2,h3,h4,h5⟩
         ·exact .inl A
         ·exact .inr ⟨b,cs,h1,h2,h3,by rw[ae h1.2.1];exact h4,h5⟩
        generalize hadd (hadd h4 bm M) p _=h5 at R7 h6b h2b S7⊢;intro bk hbk;have n6k:b6≠bk:=fun e=>by rw[← e,h6b]at hbk;cases hbk
        have n2k:b2≠bk:=fun e=>by rw[← e,h2b]at hbk;cases hbk
        refine W8 h6b w1 w2 w3 w4 w5 w6 (An2 t0 (An2 t2 t6)) ?_;refine⟨(k2,rc.step),by show k2<k2+1;omega,hs,by show k2≤k1;omega,(R7.put hbk).over z6 (Ne.symm np6),by show rc.i+1≤400;omega,t3'',?_,h2b,⟨_,_,_,_,_,_,rfl,rfl,rfl,rfl,rfl,rfl,rfl⟩⟩;rcases S7 with A|⟨b,cs,h1,h2,h3,h4,h5⟩
        ·exact .inl A
        ·exact .inr ⟨b,cs,h1,h2,h3,by rw[ae (S6 _ _ _ _ h3),ae (af hbk h4)];exact h4,h5⟩
      ·have hrb:rc=rb:=by
        cases ok
        ·exact Option.some.inj hs
        ·have st':¬(c=42∨c=43∨c=63):=fun e=>st ⟨rfl,by rcases e with e|e|e<;>simp[e]⟩;simp only[if_true,if_neg st']at hs;exact Option.some.inj hs
       subst hrb
       (have hI:c.toNat<42∨c.toNat=42∨c.toNat=43∨44≤c.toNat∧c.toNat<63∨c.toNat=63∨64≤c.toNat:=(by omega));rcases hI with hI|hI|hI|hI|hI|hI
       all_goals cases ok
       all_goals first
        |(exfalso;apply st;exact⟨rfl,by omega⟩)
        | (((try simp -implicitDefEqProofs only [later,bW,bG,bM]);(repeat (first|simp -implicitDefEqProofs only [go_sem,↓reduceIte,Nat.reduceEqDiff,Nat.reduceAdd,Nat.reduceLeDiff,Nat.reduceLT,Nat.reduceMul,reduceCtorEq,Int.reduceEq,Int.reduceLT,Int.reduceLE,Int.reduceNeg,Int.reduceToNat,Int.reduceMul,Int.reduceAdd,Int.reduceSub,t0,t2,t6,aK,bH]|simp (disch:=(first|omega|(simp only[go_sem];done)|(simp only[lens];omega))) only [cds,t0,t2,t6,aK,bH])))
           exact⟨t3'',S5m _,hb,⟨v1,v2,v3,v4,v5,v6,hb6,w1,w2,w3,w4,w5,w6⟩,_,eb,R5.put hbm⟩)
    ·rintro ex ⟨t',ds⟩ h4 ⟨rfl,hd,t0,t2,t3'',t6,S7,hb,⟨v1,v2,v3,v4,v5,v6,hb6,w1,w2,w3,w4,w5,w6⟩,rb,eb,R5⟩;simp only at hd t0 t2 t3'' t6;subst hd;rw[eb]at hc;obtain⟨rb',eb',ob⟩:=BL (s:=s) k1 ra oa.fine (by omega);have:=Option.some.inj (eb.symm.trans eb');subst this;have obr:=ob.rem;refine W8 t0 t2 t3'' t6 hb6 w1 w2 (An2 w3 (An2 w4 (An2 w5 w6))) ?_;intro bk hbk;have zk:=R5.new hbk;have R6:=R5.put (o:=AObj.cells [v1,v2,v3,v4,v5,v6] false) hbk;have cN:RCells 1 [v1,v2,v3,v4,v5,v6]:=.cons w1 w2 w3 w4 w5 w6 .nil;have n2k:b2≠bk:=fun e=>by rw[← e,hb]at hbk;cases hbk
     have fin:∀(h':H) (v:V) (ba:Nat) (cs:List V),RdAt h0 h' p s rb→h0 ba=none→ba≠p→ba≠b2→h' ba=some (.cells cs false)→RCells (n+1) cs→v=.sl ba 0 6 (n+1)→h' b2=some (.cells N0 false)→∃x':Nat × RS × Nat,x'.1<k1+1∧Ag s x'.1 x'.2.1=some r'∧x'.1≤k∧RFine s x'.2.1∧rem s x'.2.1*4+1≤x'.1∧x'.2.2+rem s x'.2.1≤300∧RdAt h0 h' p s x'.2.1∧RSl h0 h' p b2 x'.2.2 v∧h' b2=some (.cells N0 false):=fun h' v ba cs hR hz hp' hp2 hba hcs ht hb2 =>
      ⟨(k1,rb,n+1),by show k1<k1+1;omega,hc,by show k1≤k;omega,ob.fine,by show rem s rb*4+1≤k1;omega,by show n+1+rem s rb≤300;omega,hR,.inr ⟨ba,cs,⟨hz,hp',hp2⟩,by show 0<n+1;omega,ht,hba,hcs⟩,hb2⟩
     rcases S7 with⟨e0,e3⟩|⟨b,cs,q1,q2,q3,q4,q5⟩
     ·subst e0;refine W8 t0 t2 t3'' t6 hb6 w1 w2 (An2 w3 (An2 w4 (An2 w5 (An2 w6 e3)))) ?_;intro ba hba;refine W8 t0 t2 t3'' t6 hb6 w1 w2 (An2 w3 (An2 w4 (An2 w5 (An2 w6 e3)))) ?_;have nb2:b2≠ba:=fun e=>by rw[← e,ae n2k,hb]at hba;cases hba
      exact fin _ _ ba [v1,v2,v3,v4,v5,v6] (R6.put hba) (R6.new hba) (Ne.symm (R6.ne hba)) (Ne.symm nb2) (by simp[hadd,hset]) cN rfl (by rw[ae nb2,ae n2k];exact hb)
     ·have nbk:=af hbk q4;have cl:=q5.len;refine W8 t0 t2 t3'' t6 hb6 w1 w2 (An2 w3 (An2 w4 (An2 w5 (An2 w6 (An2 q3 (An2 q4 cl)))))) ?_;intro ba nba hba;refine W8 t0 t2 t3'' t6 hb6 w1 w2 (An2 w3 (An2 w4 (An2 w5 (An2 w6 (An2 q3 (An2 q4 cl)))))) ?_;have nb2:b2≠ba:=fun e=>by rw[← e,ae n2k,hb]at hba;cases hba
      have tk:List.take (n*6) cs=cs:=List.take_of_length_le (by omega);rw[tk];refine fin _ _ ba _ ((R6.lose q1.1 q1.2.1).put (by unfold hset;rw[if_neg nba];exact hba)) (R6.new hba) (Ne.symm (R6.ne hba)) (Ne.symm nb2) (by simp[hadd,hset]) (q5.app cN) rfl ?_;rw[ae nb2];unfold hset;rw[if_neg (Ne.symm q1.2.2)];rw[ae n2k];exact hb
 ·rintro ex ⟨t,ds⟩ h2 ⟨rfl,hd,t2,⟨n,S⟩,R2,hb⟩;simp only at hd t2 S;subst hd;have fin:∀o v,yJ v→∃h3,Mir.Sub h3 (hadd h2 b2 o)∧Q v h3:=fun o v hv=>⟨_,Sub.refl,hq _ _ (R2.over z2 (Ne.symm np)) hv⟩;rcases S with⟨e0,e3⟩|⟨b,cs,q1,q2,q3,q4,q5⟩
  ·refine W3 t2 e3 hb ?_;exact fin _ _ ⟨_,_,_,_,_,_,rfl,rfl,rfl,rfl,rfl,rfl,rfl⟩
  ·have cl:=q5.len
   by_cases n1:n=1
   ·subst n1;cases q5 with
    |cons w1 w2 w3 w4 w5 w6 q6 =>
      cases q6;refine W8 t2 q3 q4 hb w1 w2 w3 (An2 w4 (An2 w5 w6)) ?_;exact fin _ _ ⟨_,_,_,_,_,_,rfl,w1,w2,w3,w4,w5,w6⟩
   ·refine W3 t2 q3 hb ?_;exact fin _ _ ⟨_,_,_,_,_,_,rfl,rfl,rfl,rfl,rfl,rfl,rfl⟩
theorem QZ(k:Nat)(hC:∀j,j<k→QS s j):QR s k:=by
 intro h0 h p r Q R hf hk hq;obtain⟨r',er,ok⟩:=(F7 (s:=s) k).1 r hf hk;have hq':=fun h' v=>hq h' v r' er ok;have sm:=R.small;have hrem:rem s r≤300:=by unfold rem;split<;>omega
 obtain⟨k,rfl⟩:∃k',k=k'+1:=⟨k-1,by omega⟩;rw[Ey]at er;refine AC.fn' (g:=Ld) rfl (by simp only[List.length_cons,List.length_nil,Ld];decide) ?_;simp only[Ld,Mir.Ab.all];refine W0 ?_;intro b2 hb2;have np:=R.ne hb2;have z2:=R.new hb2;have R1:=R.put (o:=AObj.cells N0 false) hb2;have hb2':hadd h b2 (AObj.cells N0 false) b2=some (.cells N0 false):=by simp[hadd,hset]
 refine W0 ?_;unfold N0 at R1 hb2';generalize hadd h b2 _=h1 at R1 hb2'⊢;refine hC k (by omega) _ _ _ _ _ R1.re hf (by omega) fun h3 v ra e3 oa R3 hv=>?_;rw[e3]at er;simp only[Option.bind_some]at er;have R3':=R1.back R3;have hb:=R3.keep (Ne.symm np) hb2';have oar:=oa.rem;obtain⟨v1,v2,v3,v4,v5,v6,rfl,w1,w2,w3,w4,w5,w6⟩:=hv;refine W6 w1 w2 w3 w4 w5 w6 ?_;intro bk hbk;have n2k:b2≠bk:=fun e=>by rw[← e,hb]at hbk;cases hbk
 have R4:=R3'.put (o:=AObj.cells [v1,v2,v3,v4,v5,v6] false) hbk;have S4:RSl h0 (hadd h3 bk (AObj.cells [v1,v2,v3,v4,v5,v6] false)) p b2 1 (.sl bk 0 6 1):=.inr ⟨bk,_,⟨R3'.new hbk,Ne.symm (R3'.ne hbk),Ne.symm n2k⟩,by decide,rfl,by simp[hadd,hset],.cons w1 w2 w3 w4 w5 w6 .nil⟩;have hb4:hadd h3 bk (AObj.cells [v1,v2,v3,v4,v5,v6] false) b2=some (.cells N0 false):=by rw[ae n2k];exact hb
 refine W0 ?_;generalize hadd h3 bk _=h4 at R4 S4 hb4⊢;refine gG R4 fun c ok2 e2 _=>?_;refine W0 ?_;refine E.cut AC.mono (fun ex a' h'=>ex=.exit 0∧a'.d=[]∧a'.t 2=.ptr b2 0∧(∃n,0<n∧RSl h0 h' p b2 n (a'.t 3))∧RdAt h0 h' p s r'∧h' b2=some (.cells N0 false)) ?_ ?_
 ·refine E.loopX AC.mono (fun(x:Nat × RS × Nat) a' h'=>Hq s x.1 x.2.1=some r'∧x.1≤k∧RFine s x.2.1∧rem s x.2.1*4+1≤x.1∧0<x.2.2∧x.2.2+rem s x.2.1≤301∧RdAt h0 h' p s x.2.1∧a'.d=[]∧a'.t 0=.ptr p 0∧a'.t 2=.ptr b2 0∧RSl h0 h' p b2 x.2.2 (a'.t 3)∧h' b2=some (.cells N0 false)∧∃(c:UInt8) (ok:Bool),x.2.1.next s=(if ok then some c else none)∧a'.t 4=.int .u8 c.toNat∧a'.t 5=.bool ok) (fun x=>x.1) (k,ra,1) ?_ ?_
  ·exact⟨er,Nat.le_refl _,oa.fine,by show rem s ra*4+1≤k;omega,by show 0<1;omega,by show 1+rem s ra≤301;omega,R4,rfl,rfl,rfl,S4,hb4,c,ok2,e2,rfl,rfl⟩
  ·rintro⟨k1,rr,n⟩ ⟨t,ds⟩ h2 ⟨hc,hk1,f1,hk2,hn0,hn,R2,hd,t0,t2,S2,hb,c,okb,e2,t4,t5⟩;simp only at hc hk1 f1 hk2 hn0 hn R2 hd t0 t2 S2 e2 t4 t5;subst hd;obtain⟨k1,rfl⟩:∃k',k1=k'+1:=⟨k1-1,by omega⟩;have hp2:=R2.obj;unfold rsC at hp2;rw[Hq]at hc
   by_cases e124:rr.next s=some 124
   ·rw[if_pos e124]at hc;obtain⟨st,rm,es⟩:=f1.step e124;obtain⟨n1,n2,-⟩:=iJ e124;have q:okb=true∧c.toNat=124:=by
     rw[e124]at e2;cases okb
     ·cases e2
     ·have:=Option.some.inj e2;exact⟨rfl,by rw[← this];rfl⟩
    obtain⟨rfl,d⟩:=q;have R5:RdAt h0 (hadd h2 p (.cells [V.str s,V.int IntKind.i64 (↑rr.i+1),V.int IntKind.i64 ↑rr.deep,V.int IntKind.i64 ↑rr.err,V.int IntKind.i64 ↑rr.bad] false)) p s rr.step:=by
     have R:=R2.setI (rr.i+1) (by omega);rw[show((rr.i+1:Nat):Int)=rr.i+1 from by omega]at R;exact R
    have hb5:hadd h2 p (.cells [V.str s,V.int IntKind.i64 (↑rr.i+1),V.int IntKind.i64 ↑rr.deep,V.int IntKind.i64 ↑rr.err,V.int IntKind.i64 ↑rr.bad] false) b2=some (.cells N0 false):=by rw[ae (Ne.symm np)];exact hb
    have S5:RSl h0 (hadd h2 p (.cells [V.str s,V.int IntKind.i64 (↑rr.i+1),V.int IntKind.i64 ↑rr.deep,V.int IntKind.i64 ↑rr.err,V.int IntKind.i64 ↑rr.bad] false)) p b2 n (t 3):=by
     rcases S2 with A|⟨b,cs,h1,h2,h3,h4,h5⟩
     ·exact .inl A
     ·exact .inr ⟨b,cs,h1,h2,h3,by rw[ae h1.2.1];exact h4,h5⟩
    refine W5 t0 t2 t4 t5 hp2 ?_;generalize hadd h2 p _=h5 at R5 hb5 S5⊢;refine hC k1 (by omega) _ _ _ _ _ R5.re st.fine (by omega) fun h6 v rb e6 ob R6 hv=>?_;rw[e6]at hc;simp only[Option.bind_some]at hc;have R6':=R5.back R6;have hb:=R6.keep (Ne.symm np) hb5;have S6:=S5.keep R6;have obr:=ob.rem;obtain⟨v1,v2,v3,v4,v5,v6,rfl,w1,w2,w3,w4,w5,w6⟩:=hv;refine W8 w1 w2 w3 w4 w5 w6 t0 t2 ?_;intro bk hbk;have n2k:b2≠bk:=fun e=>by rw[← e,hb]at hbk;cases hbk
    have R7:=R6'.put (o:=AObj.cells [v1,v2,v3,v4,v5,v6] false) hbk;have cN:RCells 1 [v1,v2,v3,v4,v5,v6]:=.cons w1 w2 w3 w4 w5 w6 .nil;rcases S6 with⟨e0,e3⟩|⟨b,cs,q1,q2,q3,q4,q5⟩
    ·omega
    ·have nbk:=af hbk q4;have cl:=q5.len;have tk:List.take (n*6) cs=cs:=List.take_of_length_le (by omega);refine W8 t0 t2 w1 w2 w3 w4 w5 (An2 w6 (An2 q3 (An2 q4 cl))) ?_;intro ba nba hba;have nb2:b2≠ba:=fun e=>by rw[← e,ae n2k,hb]at hba;cases hba
     refine W8 t0 t2 w1 w2 w3 w4 w5 (An2 w6 (An2 q3 (An2 q4 (An2 cl tk)))) ?_;have R8:RdAt h0 (hadd (hset (hadd h6 bk (AObj.cells [v1,v2,v3,v4,v5,v6] false)) b none) ba (AObj.cells (cs++[v1,v2,v3,v4,v5,v6]) false)) p s rb:=(R7.lose q1.1 q1.2.1).put (by unfold hset;rw[if_neg nba];exact hba);have hb8:hadd (hset (hadd h6 bk (AObj.cells [v1,v2,v3,v4,v5,v6] false)) b none) ba (AObj.cells (cs++[v1,v2,v3,v4,v5,v6]) false) b2=some (.cells N0 false):=by
      rw[ae nb2];unfold hset;rw[if_neg (Ne.symm q1.2.2)];rw[ae n2k];exact hb
     have S8:RSl h0 (hadd (hset (hadd h6 bk (AObj.cells [v1,v2,v3,v4,v5,v6] false)) b none) ba (AObj.cells (cs++[v1,v2,v3,v4,v5,v6]) false)) p b2 (n+1) (.sl ba 0 6 (n+1)):=.inr ⟨ba,_,⟨R7.new hba,Ne.symm (R7.ne hba),Ne.symm nb2⟩,by omega,rfl,by simp[hadd,hset],q5.app cN⟩;generalize hadd (hset (hadd h6 bk (AObj.cells [v1,v2,v3,v4,v5,v6] false)) b none) ba _=h8 at R8 hb8 S8⊢;refine gG R8 fun c3 ok3 e9 _=>?_;refine W2 t0 t2 ?_;exact⟨(k1,rb,n+1),by show k1<k1+1;omega,hc,by show k1≤k;omega,ob.fine,by show rem s rb*4+1≤k1;omega,by show 0<n+1;omega,by show n+1+rem s rb≤301;omega,R8,S8,hb8,c3,ok3,e9,rfl,rfl⟩
   ·rw[if_neg e124]at hc;have:=Option.some.inj hc;subst this;cases okb
    ·refine W4 t0 t2 t4 t5 ?_;exact⟨⟨n,hn0,S2⟩,R2,hb⟩
    ·have d:¬c.toNat=124:=fun e=>e124 (by rw[e2,(bJ.2 e:c=124)];rfl);refine W4 t0 t2 t4 t5 ?_;exact⟨⟨n,hn0,S2⟩,R2,hb⟩
 ·rintro ex ⟨t,ds⟩ h2 ⟨rfl,hd,t2,⟨n,hn,S⟩,R2,hb⟩;simp only at hd t2 S;subst hd;have fin:∀o v,yJ v→∃h3,Mir.Sub h3 (hadd h2 b2 o)∧Q v h3:=fun o v hv=>⟨_,Sub.refl,hq' _ _ (R2.over z2 (Ne.symm np)) hv⟩;rcases S with⟨e0,e3⟩|⟨b,cs,q1,q2,q3,q4,q5⟩
  ·omega
  ·have cl:=q5.len
   by_cases n1:n=1
   ·subst n1;cases q5 with
    |cons w1 w2 w3 w4 w5 w6 q6 =>
      cases q6;refine W8 t2 q3 q4 hb w1 w2 w3 (An2 w4 (An2 w5 w6)) ?_;exact fin _ _ ⟨_,_,_,_,_,_,rfl,w1,w2,w3,w4,w5,w6⟩
   ·refine W3 t2 q3 hb ?_;exact fin _ _ ⟨_,_,_,_,_,_,rfl,rfl,rfl,rfl,rfl,rfl,rfl⟩
theorem TD(k:Nat):QR s k∧QS s k∧Jr s k:=by
 induction k using Nat.strongRecOn with
 |ind k ih =>
   refine⟨QZ k fun j hj=>(ih j hj).2.1,Rh k fun j hj=>(ih j hj).2.2,?_⟩;cases k with
   |zero=>intro h0 h p r c Q R hf e hk;have:=G8 e;omega
   |succ k=>exact OB k (ih k (Nat.lt_succ_self k)).1
end
section
open Mir
variable{h:H}{Q:V→H→Prop}
theorem F6(t:Txt)(ht:t.length<1000000)(hq:∀h' v (a:Nat),Sub h h'→yJ v→Q (.tup [v,.int .i64 a,.int .i64 (uK t)]) h'):AC pg (.fn 129) [.str t] h Q:=by
 refine AC.fn' (g:=KZ) rfl (by simp only[List.length_cons,List.length_nil,KZ];decide) ?_;simp only[KZ,Mir.Ab.all]
 by_cases c:300<t.length
 ·have e:uK t=12:=by simp[uK,TC,c]
  rw[e]at hq;refine W0 ?_;intro b2 hb2;refine W0 ?_;exact⟨_,(fun x o hx=>by repeat (first|exact hx|rw[ae (af hb2 hx)])),hq _ _ 0 (Sub.refl.put hb2) ⟨_,_,_,_,_,_,rfl,rfl,rfl,rfl,rfl,rfl,rfl⟩⟩
 ·have f0:RFine t ⟨0,0,0,0⟩:=⟨fun _=>⟨Nat.zero_le _,Nat.zero_le _⟩,by show 0+0≤_;omega⟩;have hrem:rem t ⟨0,0,0,0⟩=t.length:=by simp[rem]
  refine W0 ?_;intro b2 hb2;refine W0 ?_;intro b5 hb5;have n25:b2≠b5:=fun e=>by rw[← e]at hb5;simp[hadd,hset]at hb5
  have z5:h b5=none:=by rw[ae (Ne.symm n25)]at hb5;exact hb5
  have R:RdAt (hadd h b2 (AObj.cells N0 false)) (hadd (hadd h b2 (AObj.cells N0 false)) b5 (.cells (rsC t ⟨0,0,0,0⟩) false)) b5 t ⟨0,0,0,0⟩:=
   ⟨by simp[hadd,hset],hb5,(fun x o hx=>by repeat (first|exact hx|rw[ae (af hb5 hx)])),by omega,by show 0≤100000;omega,by show 0≤100000;omega⟩
  refine W0 ?_;refine(TD (4*t.length+10)).1 _ _ _ _ _ R f0 (by omega) fun h3 v r' e ok R3 hv=>?_;have hp3:=R3.obj;unfold rsC at hp3;have hb2':=R3.sub b2 (.cells N0 false) (by simp[hadd,hset]);obtain⟨v1,v2,v3,v4,v5,v6,rfl,w1,w2,w3,w4,w5,w6⟩:=hv;have er:uK t=if r'.err≠0 then r'.err else 0:=by
   unfold uK TC;rw[if_neg c,e];simp only[Option.map_some,Option.getD_some];split<;>rfl
  refine W0 ?_;intro b6 hb6;have n52:b2≠b6:=fun e=>by rw[← e,hb2']at hb6;cases hb6
  have np6:=R3.ne hb6;have s3:Sub h h3:=fun x o hx=>R3.sub _ _ (by rw[ae (af hb2 hx)];exact hx);have z6:h b6=none:=by
   cases e:h b6 with
   |none=>rfl
   |some o=>rw[s3 _ _ e]at hb6;cases hb6
  have s4:∀o o',Sub h (hadd (hadd h3 b6 o) b2 o'):=fun o o' x q hx=>by rw[ae (af hb2 hx),ae (af z6 hx)];exact s3 _ _ hx
  by_cases e0:r'.err=0
  ·rw[if_neg (by omega)]at er;rw[er]at hq;refine W8 hp3 w1 w2 w3 w4 w5 w6 (An2 hb2' (An2 np6 n52)) ?_;exact⟨_,Sub.refl,hq _ _ 0 (s4 _ _) ⟨_,_,_,_,_,_,rfl,w1,w2,w3,w4,w5,w6⟩⟩
  ·rw[if_pos e0]at er;rw[er]at hq;refine W8 hp3 w1 w2 w3 w4 w5 w6 (An2 hb2' (An2 np6 n52)) ?_;exact⟨_,Sub.refl,hq _ _ _ (s4 _ _) ⟨_,_,_,_,_,_,rfl,rfl,rfl,rfl,rfl,rfl,rfl⟩⟩
end
section
open Mir
variable{h:H}{Q:V→H→Prop}
mutual
inductive NodeV(h0 h:H)(p:Nat):Tree→V→Prop
 |mk {op t:Txt} {a:Nat} {l:List Tree} {kv:V}:KidsV h0 h p l kv→NodeV h0 h p (.nd op t a l) (.agg [.str op,.str t,.int .i64 a,kv])
inductive KidsV(h0 h:H)(p:Nat):List Tree→V→Prop
 |nil:KidsV h0 h p [] .nilsl
 |sl {l:List Tree} {b:Nat} {cs:List V}:l≠[]→h0 b=none→b≠p→h b=some (.cells cs false)→CellsV h0 h p l cs→KidsV h0 h p l (.sl b 0 4 l.length)
inductive CellsV(h0 h:H)(p:Nat):List Tree→List V→Prop
 |nil:CellsV h0 h p [] []
 |cons {op t:Txt} {a:Nat} {l:List Tree} {kv:V} {ns:List Tree} {cs:List V}:KidsV h0 h p l kv→CellsV h0 h p ns cs→CellsV h0 h p (.nd op t a l::ns) (.str op::.str t::.int .i64 a::kv::cs)
end
section
variable{h0 h1 h':H}{p:Nat}
mutual
theorem NodeV.move(hm:∀c o,h0 c=none→c≠p→h c=some o→h1 c=none∧h' c=some o):∀{t:Tree} {v:V},NodeV h0 h p t v→NodeV h1 h' p t v
 |_,_,.mk k=>.mk (KidsV.move hm k)
theorem KidsV.move(hm:∀c o,h0 c=none→c≠p→h c=some o→h1 c=none∧h' c=some o):∀{l:List Tree} {v:V},KidsV h0 h p l v→KidsV h1 h' p l v
 |_,_,.nil=>.nil
 |_,_,.sl a b c d e=>.sl a (hm _ _ b c d).1 c (hm _ _ b c d).2 (CellsV.move hm e)
theorem CellsV.move(hm:∀c o,h0 c=none→c≠p→h c=some o→h1 c=none∧h' c=some o):∀{l:List Tree} {cs:List V},CellsV h0 h p l cs→CellsV h1 h' p l cs
 |_,_,.nil=>.nil
 |_,_,.cons k c=>.cons (KidsV.move hm k) (CellsV.move hm c)
end
end
theorem KidsV.flat{h0:H}{p:Nat}{l:List Tree}{v:V}(k:KidsV h0 h p l v):v.flat=true:=by cases k<;>rfl
theorem CellsV.flat{h0:H}{p:Nat}{l:List Tree}{cs:List V}(k:CellsV h0 h p l cs):cs.all V.flat=true:=by
 induction l generalizing cs with
 |nil=>cases k;rfl
 |cons t l ih=>cases k with|cons a b=>have:=a.flat;simp only[List.all_cons,this,ih b,Bool.and_self,show ∀s,V.flat (.str s)=true from fun _=>rfl,show ∀k n,V.flat (.int k n)=true from fun _ _=>rfl]
theorem CellsV.len{h0:H}{p:Nat}{l:List Tree}{cs:List V}(k:CellsV h0 h p l cs):cs.length=4*l.length:=by
 induction l generalizing cs with
 |nil=>cases k;rfl
 |cons t l ih=>cases k with|cons a b=>simp only[List.length_cons,ih b];omega
theorem CellsV.app{h0:H}{p:Nat}{l m:List Tree}{cs ds:List V}(k:CellsV h0 h p l cs)(k':CellsV h0 h p m ds):CellsV h0 h p (l++m) (cs++ds):=by
 induction l generalizing cs with
 |nil=>cases k;exact k'
 |cons t l ih=>cases k with|cons a b=>exact .cons a (ih b)
theorem CellsV.one{h0:H}{p:Nat}{t:Tree}{cs:List V}(k:NodeV h0 h p t (.agg cs)):CellsV h0 h p [t] cs:=by cases k with|mk k=>exact .cons k .nil
def psC(tb n:Nat)(s:PS):List V:=[.sl tb 0 3 n,.int .i64 s.i,.int .i64 s.deep,.bool s.flat,.int .i64 s.err,.int .i64 s.bad]
structure PAt(h0 h:H)(p tb:Nat)(T:List Tokn)(s:PS):Prop where
 obj:h p=some (.cells (psC tb T.length s) false)
 toks:h0 tb=some (.cells (flat T) false)
 glob:∃m,h0 4=some (.cells [.int .i64 m] true)
 base:h0 p=none
 sub:Sub h0 h
 small:T.length≤100000
 lt:s.i<T.length
 deep:s.deep≤100000
variable{h0 h':H}{p tb:Nat}{T:List Tokn}{s s':PS}
theorem PAt.nt(A:PAt h0 h p tb T s):tb≠p:=af A.base A.toks
theorem PAt.tk(A:PAt h0 h p tb T s):h tb=some (.cells (flat T) false):=A.sub _ _ A.toks
theorem PAt.set(A:PAt h0 h p tb T s)(s':PS)(hi:s'.i<T.length)(hd:s'.deep≤100000):PAt h0 (hadd h p (.cells (psC tb T.length s') false)) p tb T s' :=
 ⟨by simp[hadd,hset],A.toks,A.glob,A.base,fun b o hb=>by rw[ae (af A.base hb)];exact A.sub _ _ hb,A.small,hi,hd⟩
theorem PAt.ne(A:PAt h0 h p tb T s){b:Nat}(hb:h b=none):p≠b:=fun e=>by rw[← e,A.obj]at hb;cases hb
theorem PAt.new(A:PAt h0 h p tb T s){b:Nat}(hb:h b=none):h0 b=none:=by
 cases e:h0 b with
 |none=>rfl
 |some o=>rw[A.sub _ _ e]at hb;cases hb
theorem PAt.over(A:PAt h0 h p tb T s){b:Nat}{o:AObj}(z:h0 b=none)(n:b≠p):PAt h0 (hadd h b o) p tb T s:=
 ⟨by rw[ae (Ne.symm n)];exact A.obj,A.toks,A.glob,A.base,fun x o hx=>by rw[ae (af z hx)];exact A.sub _ _ hx,A.small,A.lt,A.deep⟩
theorem PAt.put(A:PAt h0 h p tb T s){b:Nat}{o:AObj}(hb:h b=none):PAt h0 (hadd h b o) p tb T s:=A.over (A.new hb) (Ne.symm (A.ne hb))
theorem PAt.lose(A:PAt h0 h p tb T s){b:Nat}(z:h0 b=none)(n:b≠p):PAt h0 (hset h b none) p tb T s:=
 ⟨by unfold hset;rw[if_neg (Ne.symm n)];exact A.obj,A.toks,A.glob,A.base,fun x o hx=>by unfold hset;rw[if_neg (af z hx)];exact A.sub _ _ hx,A.small,A.lt,A.deep⟩
theorem PAt.re(A:PAt h0 h p tb T s):PAt (hset h p none) h p tb T s:=
 ⟨A.obj,by unfold hset;rw[if_neg A.nt];exact A.tk,A.glob.imp fun m hm=>by unfold hset;rw[if_neg (af A.base hm)];exact A.sub _ _ hm,by simp[hset],fun x o hx=>by unfold hset at hx;split at hx;(cases hx);exact hx,A.small,A.lt,A.deep⟩
theorem PAt.back(A:PAt h0 h p tb T s)(A':PAt (hset h p none) h' p tb T s'):PAt h0 h' p tb T s' :=
 ⟨A'.obj,A.toks,A.glob,A.base,fun x o hx=>A'.sub _ _ (by unfold hset;rw[if_neg (af A.base hx)];exact A.sub _ _ hx),A'.small,A'.lt,A'.deep⟩
theorem PAt.keep(A':PAt (hset h p none) h' p tb T s'){b:Nat}{o:AObj}(n:b≠p)(hb:h b=some o):h' b=some o:=
 A'.sub _ _ (by unfold hset;rw[if_neg n];exact hb)
theorem NodeV.keep{t:Tree}{v:V}(k:NodeV h0 h p t v)(A':PAt (hset h p none) h' p tb T s'):NodeV h0 h' p t v:=
 NodeV.move (fun c o z n hc=>⟨z,A'.keep n hc⟩) k
theorem KidsV.keep{l:List Tree}{v:V}(k:KidsV h0 h p l v)(A':PAt (hset h p none) h' p tb T s'):KidsV h0 h' p l v:=
 KidsV.move (fun c o z n hc=>⟨z,A'.keep n hc⟩) k
theorem CellsV.keep{l:List Tree}{v:List V}(k:CellsV h0 h p l v)(A':PAt (hset h p none) h' p tb T s'):CellsV h0 h' p l v:=
 CellsV.move (fun c o z n hc=>⟨z,A'.keep n hc⟩) k
theorem NodeV.back{t:Tree}{v:V}(A:PAt h0 h p tb T s)(k:NodeV (hset h p none) h' p t v):NodeV h0 h' p t v:=
 NodeV.move (fun c o z n hc=>⟨by
  cases e:h0 c with
  |none=>rfl
  |some o'=>(simp only[hset,if_neg n]at z;rw[A.sub _ _ e]at z;cases z),hc⟩) k
theorem KidsV.put{t:List Tree}{v:V}(k:KidsV h0 h p t v){b:Nat}{o:AObj}(hb:h b=none):KidsV h0 (hadd h b o) p t v:=
 KidsV.move (fun c o z n hc=>⟨z,by rw[ae (af hb hc)];exact hc⟩) k
theorem CellsV.put{t:List Tree}{v:List V}(k:CellsV h0 h p t v){b:Nat}{o:AObj}(hb:h b=none):CellsV h0 (hadd h b o) p t v:=
 CellsV.move (fun c o z n hc=>⟨z,by rw[ae (af hb hc)];exact hc⟩) k
theorem rH:∀(T:List Tokn) (i:Nat),i<T.length→((flat T).drop (i*3)).take 3=bC (T.getD i tkz)
 |[],_,h=>absurd h (Nat.not_lt_zero _)
 |t::T,0,_=>rfl
 |t::T,i+1,h=>by
   have:=rH T i (by simpa using h);rw[show(i+1)*3=i*3+3 from by omega];simpa[flat,bC]using this
theorem dL(A:PAt h0 h p tb T s)(hq:Q (.agg (bC (s.cur T))) h):AC pg (.fn 27) [.ptr p 0] h Q:=by
 have hp:=A.obj;have ht:=A.tk;have hl:=A.lt;have sm:=A.small;have fl:=jE T;unfold psC at hp;refine AC.fn' (g:=g27) rfl (by simp only[List.length_cons,List.length_nil,g27];decide) ?_;simp only[g27,Mir.Ab.all];refine W0 ?_;intro b2 hb2;have n2:=A.ne hb2;have nt2:tb≠b2:=fun e=>by rw[← e,ht]at hb2;cases hb2
 by_cases c:s.err=0
 ·rw[show s.cur T=T.getD s.i tkz from by simp[PS.cur,c]]at hq;have e:=rH T s.i hl
  ((try simp -implicitDefEqProofs only [later,bW,bG,bM]);(repeat (first|simp -implicitDefEqProofs only [go_sem,↓reduceIte,Nat.reduceEqDiff,Nat.reduceAdd,Nat.reduceLeDiff,Nat.reduceLT,Nat.reduceMul,reduceCtorEq,Int.reduceEq,Int.reduceLT,Int.reduceLE,Int.reduceNeg,Int.reduceToNat,Int.reduceMul,Int.reduceAdd,Int.reduceSub,hp,ht,e,fl,bC]|simp (disch:=(first|omega|(simp only[go_sem];done)|(simp only[lens];omega))) only [cds,hp,ht,e,fl,bC])))
  exact⟨h,(fun x o hx=>by repeat (first|exact hx|rw[ae (af hb2 hx)])),hq⟩
 ·rw[show s.cur T=tkz from by simp[PS.cur,c]]at hq;refine W1 hp ?_;exact⟨h,(fun x o hx=>by repeat (first|exact hx|rw[ae (af hb2 hx)])),hq⟩
end
section
open Mir
variable{h g g' h':H}{p q:Nat}
def PsV(g h:H)(p:Nat)(l:List Txt)(v:V):Prop:=
 (l=[]∧v=.nilsl)∨∃b,l≠[]∧g b=none∧b≠p∧v=.sl b 0 1 l.length∧h b=some (.cells (l.map V.str) false)
inductive FunsV(g:H)(q:Nat):List RFn→List V→Prop
 |nil:FunsV g q [] []
 | cons {f:RFn} {pv kv:V} {l:List RFn} {cs:List V}:f.ps.length≤100000→PsV (fun _=>none) g q f.ps pv→KidsV (fun _=>none) g q f.body.kids kv→FunsV g q l cs →
   FunsV g q (f::l) (.str f.name::pv::.nilsl::.str f.body.op::.str f.body.text::.int .i64 f.body.at'::kv::cs)
def FMap(g:H)(b:Nat)(F:List RFn):Prop:=∃es clock l,g b=some (.map es clock)∧Rep es clock l∧∀x,gJ l x=(eH F x).map fun(k:Nat)=>V.int .i64 (k:Int)
def rvC(fm ib am:Nat)(ov:V)(r:RSt):List V:=[.map fm,.ptr ib 0,.map am,ov,.int .i64 r.bad,.int .i64 r.err]
structure RvB(g:H)(q fm ib fb:Nat)(F:List RFn):Prop where
 info:∃cs,g ib=some (.cells [if F=[]then .nilsl else .sl fb 0 7 F.length,.nilsl,.nilsl] false)∧(F≠[]→g fb=some (.cells cs false))∧FunsV g q F cs
 names:FMap g fm F
 spec:g 0=some (.cells [.sl 600 0 1 8] true)∧g 600=some (.cells (special.map .str) true)
 small:F.length≤100000
def ArrB(g:H)(am:Nat)(A:List Sym):Prop:=∃es clock,g am=some (.map es clock)∧SymRep es clock A
structure RvS(g h:H)(p fm ib am:Nat)(U:List Txt)(r:RSt):Prop where
 obj:∃ov,h p=some (.cells (rvC fm ib am ov r) false)∧PsV g h p r.order ov
 base:g p=none
 sub:Sub g h
 nd:r.order.Nodup
 us:∀x∈r.order,x∈U
 small:U.length≤100000
theorem tN{α:Type}[DecidableEq α]:∀{l U:List α},l.Nodup→(∀x∈l,x∈U)→l.length≤U.length
 |[],_,_,_=>Nat.zero_le _
 |x::l,U,n,s=>by
   rw[List.nodup_cons]at n;have:=tN (l:=l) (U:=U.erase x) n.2 fun y hy=>(List.mem_erase_of_ne (show y≠x from fun e=>n.1 (by rw[← e];exact hy))).2 (s y (by simp[hy]));rw[List.length_erase_of_mem (s x (by simp))]at this;have:0<U.length:=List.length_pos_of_mem (s x (by simp));simp only[List.length_cons];omega
variable{fm ib am fb:Nat}{F:List RFn}{A:List Sym}{U:List Txt}{r:RSt}
theorem RvS.len(S:RvS g h p fm ib am U r):r.order.length≤100000:=Nat.le_trans (tN S.nd S.us) S.small
theorem PsV.mono(s:Sub g g'){l:List Txt}{v:V}(k:PsV (fun _=>none) g q l v):PsV (fun _=>none) g' q l v:=by
 rcases k with k|⟨b,h1,h2,h3,h4,h5⟩
 ·exact .inl k
 ·exact .inr ⟨b,h1,h2,h3,h4,s _ _ h5⟩
theorem KidsV.mono(s:Sub g g'){l:List Tree}{v:V}(k:KidsV (fun _=>none) g q l v):KidsV (fun _=>none) g' q l v:=
 KidsV.move (fun _ _ _ _ hc=>⟨rfl,s _ _ hc⟩) k
theorem CellsV.mono(s:Sub g g'){l:List Tree}{v:List V}(k:CellsV (fun _=>none) g q l v):CellsV (fun _=>none) g' q l v:=
 CellsV.move (fun _ _ _ _ hc=>⟨rfl,s _ _ hc⟩) k
theorem FunsV.mono(s:Sub g g'){l:List RFn}{cs:List V}(k:FunsV g q l cs):FunsV g' q l cs:=by
 induction k with
 |nil=>exact .nil
 |cons a b c _ ih=>exact .cons a (b.mono s) (c.mono s) ih
theorem RvB.mono(B:RvB g q fm ib fb F)(s:Sub g g'):RvB g' q fm ib fb F:=by
 obtain⟨⟨cs,a,b,c⟩,⟨es,ck,l,d,e,f⟩,⟨i,j⟩,k⟩:=B;exact⟨⟨cs,s _ _ a,fun x=>s _ _ (b x),c.mono s⟩,⟨es,ck,l,s _ _ d,e,f⟩,⟨s _ _ i,s _ _ j⟩,k⟩
theorem ArrB.mono(B:ArrB g am A)(s:Sub g g'):ArrB g' am A:=by
 obtain⟨es,ck,a,b⟩:=B;exact⟨es,ck,s _ _ a,b⟩
theorem PsV.set{l:List Txt}{v:V}(k:PsV g h p l v){o:AObj}:PsV g (hadd h p o) p l v:=by
 rcases k with k|⟨b,h1,h2,h3,h4,h5⟩
 ·exact .inl k
 ·exact .inr ⟨b,h1,h2,h3,h4,by rw[ae h3];exact h5⟩
theorem RvS.set(S:RvS g h p fm ib am U r){a e:Nat}{ov:V}(hov:PsV g h p r.order ov):RvS g (hadd h p (.cells (rvC fm ib am ov ⟨r.order,a,e⟩) false)) p fm ib am U ⟨r.order,a,e⟩:=
 ⟨⟨ov,ah,hov.set⟩,S.base,fun b o hb=>by rw[ae (af S.base hb)];exact S.sub _ _ hb,S.nd,S.us,S.small⟩
theorem RvS.ne(S:RvS g h p fm ib am U r){b:Nat}(hb:h b=none):p≠b:=fun e=>by
 obtain⟨ov,o,_⟩:=S.obj;rw[← e,o]at hb;cases hb
theorem RvS.new(S:RvS g h p fm ib am U r){b:Nat}(hb:h b=none):g b=none:=by
 cases e:g b with
 |none=>rfl
 |some o=>rw[S.sub _ _ e]at hb;cases hb
theorem fD{o:AObj}{b:Nat}(s:Sub g h):Sub (hadd g b o) (hadd h b o):=fun c x hc=>by
 by_cases e:c=b
 ·subst e;rw[ah]at hc⊢;exact hc
 ·rw[ae e]at hc⊢;exact s _ _ hc
theorem RvS.box(S:RvS g h p fm ib am U r){b:Nat}{o:AObj}(hb:h b=none):RvS (hadd g b o) (hadd h b o) p fm ib am U r:=by
 obtain⟨⟨ov,ho,hov⟩,base,sub,nd,us,small⟩:=S;refine⟨⟨ov,by rw[ae (af hb ho)];exact ho,?_⟩,by rw[ae (af hb ho)];exact base,fD sub,nd,us,small⟩;rcases hov with k|⟨c,h1,h2,h3,h4,h5⟩
 ·exact .inl k
 ·exact .inr ⟨c,h1,by rw[ae (af hb h5)];exact h2,h3,h4,by rw[ae (af hb h5)];exact h5⟩
theorem RvS.over(S:RvS g h p fm ib am U r){b:Nat}{o o':AObj}(hb:g b=some o):RvS (hadd g b o') (hadd h b o') p fm ib am U r:=by
 obtain⟨⟨ov,ho,hov⟩,base,sub,nd,us,small⟩:=S;have n:p≠b:=af base hb |>.symm;refine⟨⟨ov,by rw[ae n];exact ho,?_⟩,by rw[ae n];exact base,fD sub,nd,us,small⟩;rcases hov with k|⟨c,h1,h2,h3,h4,h5⟩
 ·exact .inl k
 ·have nc:c≠b:=(af h2 hb).symm;exact .inr ⟨c,h1,by rw[ae nc];exact h2,h3,h4,by rw[ae nc];exact h5⟩
theorem RvS.back(S:RvS g' h p fm ib am U r)(s:Sub g g'):RvS g h p fm ib am U r:=by
 obtain⟨⟨ov,ho,hov⟩,base,sub,nd,us,small⟩:=S;have key:∀b,g' b=none→g b=none:=fun b hb=>by
  cases e:g b with
  |none=>rfl
  |some o=>rw[s _ _ e]at hb;cases hb
 refine⟨⟨ov,ho,?_⟩,key _ base,fun b o hb=>sub _ _ (s _ _ hb),nd,us,small⟩;rcases hov with k|⟨c,h1,h2,h3,h4,h5⟩
 ·exact .inl k
 ·exact .inr ⟨c,h1,key _ h2,h3,h4,h5⟩
end
section
open Mir
variable{h g:H}{p q:Nat}{Q:V→H→Prop}{fm ib am fb:Nat}{F:List RFn}{A:List Sym}{U:List Txt}{r:RSt}
theorem dA(S:RvS g h p fm ib am U r){a e:Nat}(hq:∀h',RvS g h' p fm ib am U (r.fail a e)→Q (.tup []) h'):AC pg (.fn 53) [.ptr p 0,.int .i64 a,.int .i64 e] h Q:=by
 obtain⟨ov,ho,hov⟩:=S.obj;unfold rvC at ho;unfold RSt.fail at hq;refine AC.fn' (g:=g53) rfl (by simp only[List.length_cons,List.length_nil,g53];decide) ?_;simp only[g53,Mir.Ab.all]
 by_cases c:r.err=0
 ·refine W2 ho c ?_;rw[if_pos c]at hq;exact⟨_,Sub.refl,hq _ (S.set hov)⟩
 ·refine W2 ho c ?_;rw[if_neg c]at hq;exact⟨_,Sub.refl,hq _ S⟩
theorem FunsV.get{l:List RFn}{cs:List V}(k:FunsV g q l cs):∀{i:Nat},i<l.length→∃pv kv,(l.getD i default).ps.length≤100000∧PsV (fun _=>none) g q (l.getD i default).ps pv∧KidsV (fun _=>none) g q (l.getD i default).body.kids kv ∧
  (cs.drop (i*7)).take 7=[.str (l.getD i default).name,pv,.nilsl,.str (l.getD i default).body.op,.str (l.getD i default).body.text,.int .i64 (l.getD i default).body.at',kv]:=by
 induction k with
 |nil=>intro i hi;exact absurd hi (Nat.not_lt_zero _)
 |cons n a b c ih =>
   intro i hi;cases i with
   |zero=>exact⟨_,_,n,a,b,rfl⟩
   |succ i =>
     obtain⟨pv,kv,m,x,y,z⟩:=ih (i:=i) (by simpa using hi);refine⟨pv,kv,m,x,y,?_⟩;rw[show(i+1)*7=i*7+7 from by omega,← List.drop_drop];rw[List.drop_drop,Nat.add_comm,← List.drop_drop];exact z
theorem Ai{h:H}{w:Txt}(hq:Q (.bool false) h):AC pg (.fn 39) [.nilsl,.str w] h Q:=by
 refine AC.fn' (g:=g39) rfl (by simp only[List.length_cons,List.length_nil,g39];decide) ?_;simp only[g39,Mir.Ab.all];refine W0 ?_;refine AC.fn' (g:=g68) rfl (by simp only[List.length_cons,List.length_nil,g68];decide) ?_;simp only[g68,Mir.Ab.all];refine W0 ?_;refine E.loopX AC.mono (fun(i:Nat) a' h'=>h'=h∧a'.d=[]∧a'.t 7=.int .i64 0∧a'.t 8=.int .i64 0) (fun _=>0) 0 ?_ ?_
 ·exact⟨rfl,rfl,rfl,rfl⟩
 ·intro i a h' ⟨e,hd,t7,t8⟩;subst e;refine W3 t7 t8 hd ?_;exact⟨_,Sub.refl,_,Sub.refl,hq⟩
theorem qX{h g:H}{l:List Txt}{v:V}(k:PsV g h p l v)(hl:l.length≤100000)(w:Txt)(hq:Q (.bool (decide (w∈l))) h):AC pg (.fn 39) [v,.str w] h Q:=by
 rcases k with⟨rfl,rfl⟩|⟨b,_,_,_,rfl,c⟩
 ·exact Ai (by simpa using hq)
 ·exact bU c (by omega) w hq
theorem xZ{F:List RFn}{k:Nat}{x:Txt}:symOf F (some k) x=if x∈bD F k then(some k,x)else(none,x):=rfl
theorem oN{k:Nat}:(fnZ (some k)<0)=False:=by simp[fnZ]
theorem wB:(fnZ none<0)=True:=by simp[fnZ]
theorem Gx{k:Nat}:(0≤fnZ (some k))=True:=by simp[fnZ]
theorem KG:(0≤fnZ none)=False:=by simp[fnZ]
theorem qI{ov:V}(B:RvB h q fm ib fb F)(ho:h p=some (.cells (rvC fm ib am ov r) false)){fn:Option Nat}(hf:∀k,fn=some k→k<F.length){x:Txt}(hq:Q (symV (symOf F fn x)) h):AC pg (.fn 51) [.ptr p 0,.int .i64 (fnZ fn),.str x] h Q:=by
 obtain⟨cs,hi,hc,FV⟩:=B.info;unfold rvC at ho;refine AC.fn' (g:=g51) rfl (by simp only[List.length_cons,List.length_nil,g51];decide) ?_;simp only[g51,Mir.Ab.all];cases fn with
 |none =>
   refine W1 ho ?_;intro b hb;refine W3 ho wB KG ?_;exact⟨h,Sub.refl.put hb,hq⟩
 |some k =>
   have hk:=hf k rfl;have hne:F≠[]:=by intro e;rw[e]at hk;exact absurd hk (Nat.not_lt_zero _)
   have hb:=hc hne;rw[if_neg hne]at hi;obtain⟨pv,kv,pn,P,K,e⟩:=FV.get hk;refine W4 ho hi hb e ?_;intro b hb';have ek:fnZ (some k)=(k:Int):=rfl;have e3:cs[k*7+1]?=some pv:=by
    have:=congrArg (fun l=>l[1]?) e;simpa[List.getElem?_take,List.getElem?_drop]using this
   have wk:Sub h (hadd h b (.cells [.int .i64 0,.str []] false)):=Sub.refl.put hb';have g6:hadd h b (.cells [.int .i64 0,.str []] false) b=some (.cells [.int .i64 0,.str []] false):=ah;have ho:=wk _ _ ho;have hi:=wk _ _ hi;have hb:=wk _ _ hb;generalize hadd h b (.cells [.int .i64 0,.str []] false)=h1 at wk g6 ho hi hb⊢
   ((try simp -implicitDefEqProofs only [later,bW,bG,bM]);(repeat (first|simp -implicitDefEqProofs only [go_sem,↓reduceIte,Nat.reduceEqDiff,Nat.reduceAdd,Nat.reduceLeDiff,Nat.reduceLT,Nat.reduceMul,reduceCtorEq,Int.reduceEq,Int.reduceLT,Int.reduceLE,Int.reduceNeg,Int.reduceToNat,Int.reduceMul,Int.reduceAdd,Int.reduceSub,ho,hi,hb,oN,Gx,e3,g6,ek]|simp (disch:=(first|omega|(simp only[go_sem];done)|(simp only[lens];omega))) only [cds,ho,hi,hb,oN,Gx,e3,g6,ek])))
   have sb:∀{o:AObj},Sub h (hadd h1 b o):=fun c o hc=>by rw[ae (af hb' hc)];exact wk _ _ hc
   refine qX (P.mono wk) pn x ?_
   by_cases cx:x∈(F.getD k default).ps
   ·refine W3 g6 ek cx ?_;rw[xZ,if_pos (show x∈bD F k from cx)]at hq;exact⟨h,sb,hq⟩
   ·refine W3 g6 ek cx ?_;rw[xZ,if_neg (show x∉bD F k from cx)]at hq;exact⟨h,sb,hq⟩
end
section
open Mir
variable{h g:H}{p q:Nat}{Q:V→H→Prop}{fm ib am fb:Nat}{F:List RFn}{A:List Sym}{U:List Txt}{r:RSt}
theorem Gz{call:CP}{o:Option V}{d:Option Nat}{l:List IOp}{a:Mir.A}{h:H}{K:Mir.A→H→Prop}(hm:mF call)(R:Mir.A→H→Prop)(hE:goP o d call l a h R)(hR:∀a h,R a h→K a h):goP o d call l a h K:=by
 cases o with
 |none=>exact hE
 |some v=>exact gB hm hR hE
theorem FMap.find{h:H}(M:FMap h fm F)(x:Txt):∃es clock n,h fm=some (.map es clock)∧aK (.one .str) (.str x) es=some ((eH F x).map fun(k:Nat)=>(V.int .i64 (k:Int),n)):=by
 obtain⟨es,ck,l,e,R,hl⟩:=M;obtain⟨n,hn⟩:=R.find x;rw[hl x,Option.map_map]at hn;exact⟨es,ck,n,e,hn⟩
theorem ArrB.find{h:H}(M:ArrB h am A)(s:Sym):∃es clock n,h am=some (.map es clock)∧aK (.agg [.int,.str]) (symV s) es=some (if s∈A then some (V.bool true,n)else none):=by
 obtain⟨es,ck,e,R⟩:=M;obtain⟨n,hn⟩:=yR R.eq s;exact⟨es,ck,n,e,hn⟩
theorem ArrB.look{h:H}(M:ArrB h am A)(s:Sym):luE (.agg [.int,.str]) (.bool false) false (.map am) (.agg [.int .i64 (fnZ s.1),.str s.2]) h=some (.bool (decide (s∈A))):=by
 obtain⟨es,ck,n,hm,hn⟩:=M.find s;have hk:=Bf s s;rw[decide_eq_true rfl]at hk;unfold symV at hn hk;rw[MI hk,hm,GU,hn]
 by_cases c:s∈A
 ·rw[if_pos c,decide_eq_true c];rfl
 ·rw[if_neg c,decide_eq_false c];rfl
theorem aG{g:H}{b:Nat}{o:AObj}(hb:g b=none):Sub g (hadd g b o):=Sub.refl.put hb
theorem RvS.push(S:RvS g h p fm ib am U r){h':H}{b:Nat}{ov:V}(ho:h' p=some (.cells [.map fm,.ptr ib 0,.map am,ov,.int .i64 r.bad,.int .i64 r.err] false)){t:Txt}
  (hb:h' b=some (.cells (r.order.map V.str++[V.str t]) false)) (z:g b=none) (n:b≠p) (sb:Sub g h') (hU:t∈U) (cm:t∉r.order) {v:V} (hv:v=.sl b 0 1 (r.order.length+1)):
  RvS g (hadd h' p (.cells [.map fm,.ptr ib 0,.map am,v,.int .i64 r.bad,.int .i64 r.err] false)) p fm ib am U {r with order:=r.order++[t]}:=by
 subst hv;refine⟨⟨_,ah,.inr ⟨b,by simp,z,n,by simp,by rw[ae n,hb];simp⟩⟩,S.base,fun x o hx=>by rw[ae (af S.base hx)];exact sb _ _ hx,?_,?_,S.small⟩
 ·show(r.order++[t]).Nodup
  rw[List.nodup_append];exact⟨S.nd,by simp,fun x hx y hy=>by simp at hy;subst hy;exact fun e=>cm (e ▸ hx)⟩
 ·intro x hx;rcases List.mem_append.1 hx with hx|hx
  ·exact S.us x hx
  ·cases List.mem_singleton.1 hx;exact hU
theorem kV(B:RvB g q fm ib fb F)(A0:ArrB g am A)(S:RvS g h p fm ib am U r){fn:Option Nat}(hf:∀k,fn=some k→k<F.length){o t:Txt}{a:Nat}{kv:V}(kf:kv.flat=true)(hU:t∈U)(arr:Bool)
  (hq:∀h',RvS g h' p fm ib am U (iE F (fun s=>decide (s∈A)) fn t a arr r)→Q (.tup []) h'):AC pg (.fn 75) [.ptr p 0,.int .i64 (fnZ fn),.agg [.str o,.str t,.int .i64 a,kv],.bool arr] h Q:=by
 unfold iE at hq;refine AC.fn' (g:=g75) rfl (by simp only[List.length_cons,List.length_nil,g75];decide) ?_;simp only[g75,Mir.Ab.all];refine W1 kf ?_;intro b6 hb6;have sg:=aG (o:=AObj.cells [V.str o,V.str t,V.int .i64 a,kv] false) (S.new hb6);have S1:=S.box (o:=AObj.cells [V.str o,V.str t,V.int .i64 a,kv] false) hb6;have B1:=B.mono sg;have A1:=A0.mono sg;have c6:hadd g b6 (AObj.cells [V.str o,V.str t,V.int .i64 a,kv] false) b6=some (AObj.cells [V.str o,V.str t,V.int .i64 a,kv] false):=ah;generalize hadd g b6 (AObj.cells [V.str o,V.str t,V.int .i64 a,kv] false)=g1 at *;generalize hadd h b6 (AObj.cells [V.str o,V.str t,V.int .i64 a,kv] false)=h1 at *;obtain⟨ov,ho,hov⟩:=S1.obj;have h6:=S1.sub _ _ c6;obtain⟨es,ck,n,hm,hn⟩:=(B1.mono S1.sub).names.find t;have ho':=ho;unfold rvC at ho;cases hN:eH F t with
 |some k =>
   rw[hN]at hn hq;simp only[Option.map_some,Option.map_none]at hn;refine W4 ho hm hn h6 ?_;refine dA S1 fun h2 S2=>?_;refine W0 ?_;exact⟨_,Sub.refl,hq _ (S2.back sg)⟩
 |none =>
   rw[hN]at hn hq;simp only[Option.map_some,Option.map_none]at hn;rw[if_neg (by simp)]at hq;dsimp only at hq;refine W4 ho hm hn h6 ?_;refine qI (B1.mono S1.sub) ho' hf ?_;refine W0 ?_;intro b hb;generalize hs:symOf F fn t=s at hq⊢;obtain⟨s1,s2⟩:=s;unfold symV
   ((try simp -implicitDefEqProofs only [later,bW,bG,bM]);(repeat (first|simp -implicitDefEqProofs only [go_sem,↓reduceIte,Nat.reduceEqDiff,Nat.reduceAdd,Nat.reduceLeDiff,Nat.reduceLT,Nat.reduceMul,reduceCtorEq,Int.reduceEq,Int.reduceLT,Int.reduceLE,Int.reduceNeg,Int.reduceToNat,Int.reduceMul,Int.reduceAdd,Int.reduceSub,ah]|simp (disch:=(first|omega|(simp only[go_sem];done)|(simp only[lens];omega))) only [cds,ah])))
   have sg2:=aG (o:=AObj.cells [V.int .i64 (fnZ s1),V.str s2] false) (S1.new hb);have S2:=S1.box (o:=AObj.cells [V.int .i64 (fnZ s1),V.str s2] false) hb;have B2:=B1.mono sg2;have A2:=A1.mono sg2;have d6:=sg2 _ _ c6;have c10:hadd g1 b (AObj.cells [V.int .i64 (fnZ s1),V.str s2] false) b=some (AObj.cells [V.int .i64 (fnZ s1),V.str s2] false):=ah;replace sg2:Sub g _:=fun x o hx=>sg2 _ _ (sg _ _ hx);generalize hadd g1 b (AObj.cells [V.int .i64 (fnZ s1),V.str s2] false)=g2 at sg2 S2 B2 A2 d6 c10;generalize hadd h1 b (AObj.cells [V.int .i64 (fnZ s1),V.str s2] false)=h2 at S2⊢;clear ho ho' hov hm hn h6 S1 B1 A1 c6;obtain⟨ov,ho,hov⟩:=S2.obj;have ho':=ho;unfold rvC at ho;have h6:=S2.sub _ _ d6;have h10:=S2.sub _ _ c10;have hn:=(A2.mono S2.sub).look (s1,s2);dsimp only at hn;obtain⟨sp1,sp2⟩:=(B2.mono S2.sub).spec;generalize hr1:(if decide ((s1,s2)∈A)≠arr∨arr=true∧s1=none∧t∈special then r.fail a 11 else r)=r1 at hq;generalize hbad:decide (decide ((s1,s2)∈A)≠arr∨arr=true∧s1=none∧t∈special)=bad;refine Gz AC.mono (fun a' h'=>h'=h2∧a'.d=[]∧a'.t 0=.ptr p 0∧a'.t 6=.ptr b6 0∧a'.t 10=.ptr b 0∧a'.t 52=.bool bad) ?_ ?_
   ·by_cases cA:(s1,s2)∈A
    ·rw[decide_eq_true cA]at hn;rw[decide_eq_true cA]at hbad;cases arr
     ·refine W4 ho hn h6 h10 ?_;rw[← hbad];rfl
     ·cases s1 with
      |some k =>
        ((try simp -implicitDefEqProofs only [later,bW,bG,bM]);(repeat (first|simp -implicitDefEqProofs only [go_sem,↓reduceIte,Nat.reduceEqDiff,Nat.reduceAdd,Nat.reduceLeDiff,Nat.reduceLT,Nat.reduceMul,reduceCtorEq,Int.reduceEq,Int.reduceLT,Int.reduceLE,Int.reduceNeg,Int.reduceToNat,Int.reduceMul,Int.reduceAdd,Int.reduceSub,ho,hn,h6,h10,oN]|simp (disch:=(first|omega|(simp only[go_sem];done)|(simp only[lens];omega))) only [cds,ho,hn,h6,h10,oN])))
        rw[← hbad];rfl
      |none =>
        refine W6 ho hn h6 h10 wB sp1 ?_;refine bU sp2 (by decide) t ?_;refine W0 ?_;rw[← hbad];simp
    ·rw[decide_eq_false cA]at hn;rw[decide_eq_false cA]at hbad;cases arr
     ·refine W4 ho hn h6 h10 ?_;rw[← hbad];rfl
     ·refine W4 ho hn h6 h10 ?_;rw[← hbad];rfl
   ·rintro⟨t',d'⟩ h' ⟨rfl,hd,t0,t6,t10,t52⟩;dsimp only at hd t0 t6 t10 t52;subst hd;clear ho ho' hov h6 h10 hn sp1 sp2;refine dn AC.mono (fun ex a' h'=>ex=.nm∧a'.d=[]∧a'.t 0=.ptr p 0∧a'.t 6=.ptr b6 0∧a'.t 10=.ptr b 0∧RvS g2 h' p fm ib am U r1) ?_ ?_
    ·have h6:=S2.sub _ _ d6;cases bad
     ·rw[if_neg (of_decide_eq_false hbad)]at hr1;subst hr1;refine W1 t52 ?_;exact⟨t0,t6,t10,S2⟩
     ·rw[if_pos (of_decide_eq_true hbad)]at hr1;subst hr1;refine W4 t52 t0 t6 h6 ?_;refine dA S2 fun h3 S3=>?_;refine W3 t0 t6 t10 ?_;exact S3
    ·rintro _ ⟨t'',d''⟩ h3 ⟨rfl,hd,t0',t6',t10',S3⟩;dsimp only at hd t0' t6' t10';subst hd;replace hq:∀h',RvS g h' p fm ib am U (if s1=none∧t∉r1.order then {r1 with order:=r1.order++[t]} else r1)→Q (V.tup []) h':=hq;clear S2 t52 t0 t6 t10;have h6:=S3.sub _ _ d6;have h10:=S3.sub _ _ c10;obtain⟨ov,ho,hov⟩:=S3.obj;have ho':=ho;unfold rvC at ho;cases s1 with
     |some k =>
       rw[if_neg (by simp)]at hq
       ((try simp -implicitDefEqProofs only [later,bW,bG,bM]);(repeat (first|simp -implicitDefEqProofs only [go_sem,↓reduceIte,Nat.reduceEqDiff,Nat.reduceAdd,Nat.reduceLeDiff,Nat.reduceLT,Nat.reduceMul,reduceCtorEq,Int.reduceEq,Int.reduceLT,Int.reduceLE,Int.reduceNeg,Int.reduceToNat,Int.reduceMul,Int.reduceAdd,Int.reduceSub,t0',t6',t10',h10,h6,ho,oN]|simp (disch:=(first|omega|(simp only[go_sem];done)|(simp only[lens];omega))) only [cds,t0',t6',t10',h10,h6,ho,oN])))
       exact⟨_,Sub.refl,hq _ (S3.back sg2)⟩
     |none =>
       refine W7 t0' t6' t10' h10 h6 ho wB ?_;refine qX hov S3.len t ?_
       by_cases cm:t∈r1.order
       ·rw[if_neg (fun x=>x.2 cm)]at hq;refine W7 t0' t6' t10' h10 h6 ho cm ?_;exact⟨_,Sub.refl,hq _ (S3.back sg2)⟩
       ·rw[if_pos ⟨rfl,cm⟩]at hq;have len:=S3.len;rcases hov with⟨e5,rfl⟩|⟨b5,n5,z5,m5,rfl,c5⟩
        ·refine W7 t0' t6' t10' h10 h6 ho cm ?_;intro bn hbn;have ho2:hadd h3 bn (AObj.cells [V.str t] false) p=_:=(ae (S3.ne hbn)).trans ho;have hn2:hadd h3 bn (AObj.cells [V.str t] false) bn=_:=ah;have sb:Sub g2 (hadd h3 bn (AObj.cells [V.str t] false)):=fun x o hx=>by rw[ae (af hbn (S3.sub _ _ hx))];exact S3.sub _ _ hx
         generalize hadd h3 bn (AObj.cells [V.str t] false)=h4 at ho2 hn2 sb⊢;refine W2 ho2 hn2 ?_;intro ba hba;have nab:=af hba ho2;have ho3:hadd h4 ba (AObj.cells [V.str t] false) p=_:=(ae (af hba ho2)).trans ho2;have hn3:hadd h4 ba (AObj.cells [V.str t] false) ba=_:=ah;have sb3:Sub g2 (hadd h4 ba (AObj.cells [V.str t] false)):=fun x o hx=>by rw[ae (af hba (sb _ _ hx))];exact sb _ _ hx
         have z3:g2 ba=none:=by
          cases e:g2 ba with
          |none=>rfl
          |some o=>rw[sb _ _ e]at hba;cases hba
         generalize hadd h4 ba (AObj.cells [V.str t] false)=h5 at ho3 hn3 sb3⊢;refine W1 ho3 ?_;refine⟨_,Sub.refl,hq _ ((?_:RvS g2 _ p fm ib am U _).back sg2)⟩;refine RvS.push (r:=r1) S3 (b:=ba) ho3 (by rw[e5];exact hn3) z3 (Ne.symm nab) sb3 hU cm ?_;rw[e5];rfl
        ·refine W7 t0' t6' t10' h10 h6 ho cm ?_;intro bn hbn;have ho2:hadd h3 bn (AObj.cells [V.str t] false) p=_:=(ae (S3.ne hbn)).trans ho;have hc2:hadd h3 bn (AObj.cells [V.str t] false) b5=_:=(ae (af hbn c5)).trans c5;have hn2:hadd h3 bn (AObj.cells [V.str t] false) bn=_:=ah;have sb:Sub g2 (hadd h3 bn (AObj.cells [V.str t] false)):=fun x o hx=>by rw[ae (af hbn (S3.sub _ _ hx))];exact S3.sub _ _ hx
         generalize hadd h3 bn (AObj.cells [V.str t] false)=h4 at ho2 hn2 sb hc2⊢;have hl:(List.map V.str r1.order).length=r1.order.length:=List.length_map ..;have hfl:(List.map V.str r1.order).all V.flat=true:=by simp[V.flat]
         have tk:List.take r1.order.length (List.map V.str r1.order)=List.map V.str r1.order:=List.take_of_length_le (by omega);refine W6 ho2 hn2 hc2 hl hfl tk ?_;intro ba nab5 hba;have nab:=af hba ho2;have ho3:hadd (hset h4 b5 none) ba (AObj.cells (List.map V.str r1.order++[V.str t]) false) p=_:=(ae nab).trans ((if_neg (Ne.symm m5)).trans ho2);have hn3:hadd (hset h4 b5 none) ba (AObj.cells (List.map V.str r1.order++[V.str t]) false) ba=_:=ah;have sb3:Sub g2 (hadd (hset h4 b5 none) ba (AObj.cells (List.map V.str r1.order++[V.str t]) false)):=fun x o hx=>by rw[ae (af hba (sb _ _ hx))];exact(if_neg (af z5 hx)).trans (sb _ _ hx)
         have z3:g2 ba=none:=by
          cases e:g2 ba with
          |none=>rfl
          |some o=>rw[sb _ _ e]at hba;cases hba
         generalize hadd (hset h4 b5 none) ba (AObj.cells (List.map V.str r1.order++[V.str t]) false)=h5 at ho3 hn3 sb3⊢;refine W1 ho3 ?_;exact⟨_,Sub.refl,hq _ ((RvS.push (r:=r1) S3 (b:=ba) ho3 hn3 z3 (Ne.symm nab) sb3 hU cm rfl).back sg2)⟩
end
section
open Mir
variable{h:H}{Q:V→H→Prop}{h0 h':H}{p tb:Nat}{T:List Tokn}{s s':PS}
theorem gu(A:PAt h0 h p tb T s){b:Nat}{ss:List Txt}(hb:h b=some (.cells (ss.map .str) false))(hn:ss.length<1000)(hq:Q (.bool (s.isAt T ss)) h):
  AC pg (.fn 26) [.ptr p 0,.sl b 0 1 ss.length] h Q:=by
 refine AC.fn' (g:=g26) rfl (by simp only[List.length_cons,List.length_nil,g26];decide) ?_;simp only[g26,Mir.Ab.all];refine W0 ?_;refine dL A ?_;unfold bC;refine W0 ?_;intro b2 hb2;have hb':∀o,hadd h b2 o b=some (.cells (ss.map .str) false):=fun o=>by rw[ae (af hb2 hb)];exact hb
 unfold PS.isAt at hq
 by_cases c8:(s.cur T).k=8
 ·refine W0 ?_;refine bU (hb' _) (by omega) _ ?_;refine W0 ?_;simp only[c8,decide_true,Bool.true_or,Bool.true_and]at hq;exact⟨h,(fun x o hx=>by repeat (first|exact hx|rw[ae (af hb2 hx)])),hq⟩
 ·by_cases c7:(s.cur T).k=7
  ·refine W0 ?_;refine bU (hb' _) (by omega) _ ?_;refine W0 ?_;simp only[c7,decide_true,Bool.or_true,Bool.true_and]at hq;exact⟨h,(fun x o hx=>by repeat (first|exact hx|rw[ae (af hb2 hx)])),hq⟩
  ·refine W0 ?_;simp only[c8,c7,decide_false,Bool.false_or,Bool.false_and]at hq;exact⟨h,(fun x o hx=>by repeat (first|exact hx|rw[ae (af hb2 hx)])),hq⟩
theorem aZ(A:PAt h0 h p tb T s)(hq:∀h',PAt h0 h' p tb T (s.step T)→Q (.tup []) h'):AC pg (.fn 28) [.ptr p 0] h Q:=by
 have hp:=A.obj;have hl:=A.lt;have sm:=A.small;unfold psC at hp;refine AC.fn' (g:=g28) rfl (by simp only[List.length_cons,List.length_nil,g28];decide) ?_;simp only[g28,Mir.Ab.all]
 by_cases c:s.err=0
 ·by_cases c1:s.i+1<T.length
  ·rw[show s.step T={s with i:=s.i+1} from by simp[PS.step,c,c1]]at hq;have B:PAt h0 (hadd h p (.cells [.sl tb 0 3 T.length,.int .i64 (↑s.i+1),.int .i64 s.deep,.bool s.flat,.int .i64 s.err,.int .i64 s.bad] false)) p tb T {s with i:=s.i+1}:=by
    have:=A.set {s with i:=s.i+1} c1 A.deep;unfold psC at this;rw[show((({s with i:=s.i+1}:PS).i:Nat):Int)=s.i+1 from by show((s.i+1:Nat):Int)=_;omega]at this;exact this
   refine W1 hp ?_;exact⟨_,Sub.refl,hq _ B⟩
  ·rw[show s.step T=s from by simp[PS.step,c1]]at hq;refine W1 hp ?_;exact⟨_,Sub.refl,hq _ A⟩
 ·rw[show s.step T=s from by simp[PS.step,c]]at hq;refine W1 hp ?_;exact⟨_,Sub.refl,hq _ A⟩
theorem PAt.setE(A:PAt h0 h p tb T s)(e b:Nat):PAt h0 (hadd h p (.cells [.sl tb 0 3 T.length,.int .i64 s.i,.int .i64 s.deep,.bool s.flat,.int .i64 e,.int .i64 b] false)) p tb T {s with err:=e,bad:=b}:=
 A.set {s with err:=e,bad:=b} A.lt A.deep
theorem PAt.setF(A:PAt h0 h p tb T s)(f:Bool):PAt h0 (hadd h p (.cells [.sl tb 0 3 T.length,.int .i64 s.i,.int .i64 s.deep,.bool f,.int .i64 s.err,.int .i64 s.bad] false)) p tb T {s with flat:=f}:=
 A.set {s with flat:=f} A.lt A.deep
theorem gX(A:PAt h0 h p tb T s)(hq:∀h',PAt h0 h' p tb T (s.fail T)→Q (.tup []) h'):AC pg (.fn 47) [.ptr p 0] h Q:=by
 refine AC.fn' (g:=g47) rfl (by simp only[List.length_cons,List.length_nil,g47];decide) ?_;simp only[g47,Mir.Ab.all];refine W0 ?_;refine dL A ?_;unfold bC;refine W0 ?_;intro b2 hb2;have n2:=A.ne hb2;have z2:=A.new hb2;have A1:=A.put (o:=AObj.cells [V.int IntKind.i64 ↑(s.cur T).k,V.str (s.cur T).t,V.int IntKind.i64 ↑(s.cur T).a] false) hb2;have hp:=A.obj;unfold psC at hp;unfold PS.fail at hq
 by_cases c:s.err=0
 ·rw[if_neg (by omega)]at hq
  by_cases c10:(s.cur T).k=10
  ·rw[if_pos (.inl c10)]at hq;refine W1 hp ?_;exact⟨_,Sub.refl,hq _ (A1.setE 10 (s.cur T).a)⟩
  ·by_cases c8:(s.cur T).k=8
   ·by_cases ct:(s.cur T).t=[124]
    ·rw[if_pos (.inr ⟨c8,ct⟩)]at hq;refine W2 hp ct ?_;exact⟨_,Sub.refl,hq _ (by have:=A1.setE 10 (s.cur T).a;rw[ct]at this;exact this)⟩
    ·rw[if_neg (by simp[c10,ct])]at hq;refine W2 hp ct ?_;exact⟨_,Sub.refl,hq _ (A1.setE 9 (s.cur T).a)⟩
   ·rw[if_neg (by simp[c10,c8])]at hq;refine W1 hp ?_;exact⟨_,Sub.refl,hq _ (A1.setE 9 (s.cur T).a)⟩
 ·rw[if_pos c]at hq;refine W1 hp ?_;exact⟨_,Sub.refl,hq _ A1⟩
theorem aO(A:PAt h0 h p tb T s)(x:Txt)(hq:∀h',PAt h0 h' p tb T (if s.isAt T [x]=true then s.step T else s)→Q (.bool (s.isAt T [x])) h'):AC pg (.fn 40) [.ptr p 0,.str x] h Q:=by
 refine AC.fn' (g:=g40) rfl (by simp only[List.length_cons,List.length_nil,g40];decide) ?_;simp only[g40,Mir.Ab.all];refine W0 ?_;intro b2 hb2;refine W0 ?_;refine gu (ss:=[x]) (A.put hb2) (by simp[hadd,hset]) (by simp) ?_;cases e:s.isAt T [x]
 ·rw[e]at hq;refine W0 ?_;exact⟨h,(fun x o hx=>by repeat (first|exact hx|rw[ae (af hb2 hx)])),hq _ A⟩
 ·rw[e]at hq;refine W0 ?_;refine aZ (A.put hb2) fun h1 A1=>?_;refine W0 ?_;exact⟨_,Sub.refl,hq _ A1⟩
theorem bT(A:PAt h0 h p tb T s)(x:Txt)(hq:∀h',PAt h0 h' p tb T (s.expect T x)→Q (.tup []) h'):AC pg (.fn 44) [.ptr p 0,.str x] h Q:=by
 refine AC.fn' (g:=g44) rfl (by simp only[List.length_cons,List.length_nil,g44];decide) ?_;simp only[g44,Mir.Ab.all];refine W0 ?_;refine aO A x fun h1 A1=>?_;unfold PS.expect at hq;cases e:s.isAt T [x]
 ·simp only[e,if_false,Bool.false_eq_true]at hq A1;refine W0 ?_;refine gX A1 fun h2 A2=>?_;refine W0 ?_;exact⟨_,Sub.refl,hq _ A2⟩
 ·simp only[e,if_true]at hq A1;refine W0 ?_;exact⟨_,Sub.refl,hq _ A1⟩
theorem ve(A:PAt h0 h p tb T s)(hd:s.deep<1000)(hq:∀h',PAt h0 h' p tb T (s.down T)→Q (.tup []) h'):AC pg (.fn 71) [.ptr p 0] h Q:=by
 have hp:=A.obj;unfold psC at hp;unfold PS.down at hq;have B:PAt h0 (hadd h p (.cells [.sl tb 0 3 T.length,.int .i64 s.i,.int .i64 (↑s.deep+1),.bool s.flat,.int .i64 s.err,.int .i64 s.bad] false)) p tb T {s with deep:=s.deep+1}:=by
  have:=A.set {s with deep:=s.deep+1} A.lt (by show s.deep+1≤_;omega);unfold psC at this;rw[show((({s with deep:=s.deep+1}:PS).deep:Nat):Int)=s.deep+1 from by show((s.deep+1:Nat):Int)=_;omega]at this;exact this
 refine AC.fn' (g:=g71) rfl (by simp only[List.length_cons,List.length_nil,g71];decide) ?_;simp only[g71,Mir.Ab.all]
 by_cases c:50<s.deep+1
 ·by_cases c1:s.err=0
  ·rw[if_pos ⟨c,c1⟩]at hq;refine W1 hp ?_;refine dL B ?_;rw[show({s with deep:=s.deep+1}:PS).cur T=s.cur T from rfl];unfold bC;have B2:=B.setE 14 (s.cur T).a;rw[show((({s with deep:=s.deep+1}:PS).deep:Nat):Int)=s.deep+1 from by show((s.deep+1:Nat):Int)=_;omega]at B2;refine W0 ?_;rw[wK]at B2;exact⟨_,Sub.refl,hq _ B2⟩
  ·rw[if_neg (by simp[c1])]at hq;refine W1 hp ?_;exact⟨_,Sub.refl,hq _ B⟩
 ·rw[if_neg (by simp[c])]at hq;refine W1 hp ?_;exact⟨_,Sub.refl,hq _ B⟩
theorem Et(A:PAt h0 h p tb T s)(hd:1≤s.deep)(hq:∀h',PAt h0 h' p tb T s.up→Q (.tup []) h'):AC pg (.fn 72) [.ptr p 0] h Q:=by
 have hp:=A.obj;have dd:=A.deep;unfold psC at hp;have B:PAt h0 (hadd h p (.cells [.sl tb 0 3 T.length,.int .i64 s.i,.int .i64 (↑s.deep-1),.bool s.flat,.int .i64 s.err,.int .i64 s.bad] false)) p tb T s.up:=by
  have:=A.set s.up A.lt (by show s.deep-1≤_;omega);unfold psC at this;rw[show((s.up.deep:Nat):Int)=s.deep-1 from by show((s.deep-1:Nat):Int)=_;omega]at this;exact this
 refine AC.fn' (g:=g72) rfl (by simp only[List.length_cons,List.length_nil,g72];decide) ?_;simp only[g72,Mir.Ab.all];refine W1 hp ?_;exact⟨_,Sub.refl,hq _ B⟩
theorem bI(A:PAt h0 h p tb T s)(hE:(T.getD (T.length-1) tkz).k=0)(hq:∀h',PAt h0 h' p tb T (s.lines T)→Q (.tup []) h'):AC pg (.fn 45) [.ptr p 0] h Q:=by
 refine AC.fn' (g:=g45) rfl (by simp only[List.length_cons,List.length_nil,g45];decide) ?_;simp only[g45,Mir.Ab.all];refine W0 ?_;refine E.loopX AC.mono (fun(x:Nat × PS) a' h'=>linesN T x.1 x.2=s.lines T∧(x.2.err=0→T.length≤x.2.i+x.1)∧PAt h0 h' p tb T x.2∧a'.d=[]∧a'.t 0=.ptr p 0) (fun x=>x.1) (T.length,s) ?_ ?_
 ·exact⟨rfl,fun _=>by show T.length≤s.i+T.length;omega,A,rfl,rfl⟩
 ·rintro⟨k,r⟩ ⟨t,ds⟩ h2 ⟨hk,hr,A2,hd,t0⟩;simp only at hk hr A2 hd t0;subst hd;have hl:=A2.lt;refine W1 t0 ?_;refine dL A2 ?_;unfold bC
  by_cases c:(r.cur T).k=1
  ·have e0:r.err=0:=by
    unfold PS.cur at c;split at c
    ·cases c
    ·omega
   have ne:r.i≠T.length-1:=fun e=>by
    unfold PS.cur at c;rw[if_neg (by omega),e,hE]at c;cases c
   obtain⟨k,rfl⟩:∃k',k=k'+1:=⟨k-1,by have:=hr e0;omega⟩;rw[linesN,if_pos c]at hk;refine W1 t0 ?_;refine aZ A2 fun h3 A3=>?_;refine W1 t0 ?_;refine⟨(k,r.step T),by show k<k+1;omega,hk,fun _=>?_,A3⟩;have:=hr e0
   show T.length≤(r.step T).i+k
   rw[show r.step T={r with i:=r.i+1} from by unfold PS.step;rw[if_pos ⟨e0,by omega⟩]]
   show T.length≤r.i+1+k
   omega
  ·have:r=s.lines T:=by
    rw[← hk];cases k with
    |zero=>rfl
    |succ k=>rw[linesN,if_neg c]
   subst this;refine W1 t0 ?_;exact⟨_,Sub.refl,hq _ A2⟩
theorem aS(op:Txt){l:List Tree}{kv:V}(hk:kv.flat=true)(hq:Q (.agg [.str op,.str [],.int .i64 0,kv]) h):AC pg (.fn 25) [.str op,kv] h Q:=by
 refine AC.fn' (g:=g25) rfl (by simp only[List.length_cons,List.length_nil,g25];decide) ?_;simp only[g25,Mir.Ab.all];refine W0 ?_;intro b2 hb2;refine W1 hk ?_;exact⟨h,(fun x o hx=>by repeat (first|exact hx|rw[ae (af hb2 hx)])),hq⟩
theorem aQ(op:Txt)(t:Tokn){kv:V}(hk:kv.flat=true)(hq:Q (.agg [.str op,.str t.t,.int .i64 t.a,kv]) h):AC pg (.fn 42) [.str op,.agg (bC t),kv] h Q:=by
 refine AC.fn' (g:=g42) rfl (by simp only[List.length_cons,List.length_nil,g42];decide) ?_;simp only[g42,Mir.Ab.all];unfold bC;refine W0 ?_;intro b2 hb2;refine W0 ?_;intro b3 hb3;have n23:b2≠b3:=fun e=>by rw[← e]at hb3;simp[hadd,hset]at hb3
 have z3:h b3=none:=by rw[ae (Ne.symm n23)]at hb3;exact hb3
 refine W1 hk ?_;exact⟨h,(fun x o hx=>by repeat (first|exact hx|rw[ae (af z3 hx)]|rw[ae (af hb2 hx)])),hq⟩
theorem xE(op t:Txt)(a:Nat)(l:List Tree){kv:V}(hk:kv.flat=true)(hq:Q (.bool (Tree.nd op t a l).isPlace) h):AC pg (.fn 74) [.agg [.str op,.str t,.int .i64 a,kv]] h Q:=by
 refine AC.fn' (g:=g74) rfl (by simp only[List.length_cons,List.length_nil,g74];decide) ?_;simp only[g74,Mir.Ab.all];refine W1 hk ?_;intro b2 hb2;refine W1 hk ?_;intro b3 hb3;have n23:b2≠b3:=fun e=>by rw[← e]at hb3;simp[hadd,hset]at hb3
 have z3:h b3=none:=by rw[ae (Ne.symm n23)]at hb3;exact hb3
 refine W1 hk ?_;refine bU (ss:=[[118,97,114],[105,110,100,101,120],[102,105,101,108,100]]) (ro:=false) (by simp[hadd,hset]) (by decide) op ?_;refine W0 ?_;exact⟨h,(fun x o hx=>by repeat (first|exact hx|rw[ae (af z3 hx)]|rw[ae (af hb2 hx)])),hq⟩
theorem oW(A:PAt h0 h p tb T s){b:Nat}{ks:List Nat}(hb:h b=some (.cells (uC (ks.map fun(k:Nat)=>(k:Int))) false))(hn:ks.length<1000)(hq:∀h',PAt h0 h' p tb T (s.name T ks).2→Q (.agg (bC (s.name T ks).1)) h'):
  AC pg (.fn 43) [.ptr p 0,.sl b 0 1 ks.length] h Q:=by
 refine AC.fn' (g:=g43) rfl (by simp only[List.length_cons,List.length_nil,g43];decide) ?_;simp only[g43,Mir.Ab.all];refine W0 ?_;intro b2 hb2;refine W0 ?_;refine dL (A.put hb2) ?_;unfold bC;refine W0 ?_;intro b3 hb3;have n23:b2≠b3:=fun e=>by rw[← e]at hb3;simp[hadd,hset]at hb3
 have z3:h b3=none:=by rw[ae (Ne.symm n23)]at hb3;exact hb3
 have nbb2:=af hb2 hb;have nbb3:=af z3 hb;have hbb:∀o o',hadd (hadd h b2 o) b3 o' b=some (.cells (uC (ks.map fun(k:Nat)=>(k:Int))) false):=fun o o'=>by
  rw[ae nbb3,ae nbb2];exact hb
 have len:(ks.map fun(k:Nat)=>(k:Int)).length=ks.length:=by simp
 have A2:∀o o',PAt h0 (hadd (hadd h b2 o) b3 o') p tb T s:=fun o o'=>(A.put hb2).put (by rw[ae (Ne.symm n23)];exact z3);refine W0 ?_;rw[← len];refine qW (hbb _ _) (by rw[len];omega) _ ?_;have e:decide (((s.cur T).k:Int)∈ks.map fun(k:Nat)=>(k:Int))=decide ((s.cur T).k∈ks):=by
  congr 1;simp only[List.mem_map,eq_iff_iff];constructor
  ·rintro⟨x,h1,h2⟩;rwa[← Int.ofNat.inj h2]
  ·intro h;exact⟨_,h,rfl⟩
 rw[e];unfold PS.name at hq
 by_cases c:(s.cur T).k∈ks
 ·rw[if_pos c]at hq;simp only[c,decide_true];refine W0 ?_;refine aZ (A2 _ _).re fun h3 A3=>?_;have h3b:=A3.keep (b:=b3) (o:=.cells (bC (s.cur T)) false) (Ne.symm ((A.put hb2).ne hb3)) (by simp[hadd,hset,bC]);have h2b:=A3.keep (b:=b2) (o:=.cells [V.int IntKind.i64 0,V.str [],V.int IntKind.i64 0] false) (Ne.symm (A.ne hb2)) (by rw[ae n23];simp[hadd,hset]);unfold bC at h3b;refine W2 h3b h2b ?_;exact⟨_,Sub.refl,hq _ (((A2 _ _).back A3).over (A.new hb2) (Ne.symm (A.ne hb2)))⟩
 ·rw[if_neg c]at hq;simp only[c,decide_false];refine W0 ?_;refine gX (A2 _ _).re fun h3 A3=>?_;have h2b:=A3.keep (b:=b2) (o:=.cells [V.int IntKind.i64 0,V.str [],V.int IntKind.i64 0] false) (Ne.symm (A.ne hb2)) (by rw[ae n23];simp[hadd,hset]);refine W1 h2b ?_;exact⟨_,Sub.refl,hq _ (((A2 _ _).back A3).over (A.new hb2) (Ne.symm (A.ne hb2)))⟩
theorem qN(A:PAt h0 h p tb T s)(n:Nat)(hn:n<1000)(hq:Q (.agg (bC (s.ahead T n))) h):AC pg (.fn 96) [.ptr p 0,.int .i64 n] h Q:=by
 have hp:=A.obj;have ht:=A.tk;have hl:=A.lt;have sm:=A.small;have fl:=jE T;unfold psC at hp;unfold PS.ahead at hq;refine AC.fn' (g:=g96) rfl (by simp only[List.length_cons,List.length_nil,g96];decide) ?_;simp only[g96,Mir.Ab.all];refine W0 ?_;intro b2 hb2;have n2:=A.ne hb2;have nt2:tb≠b2:=fun e=>by rw[← e,ht]at hb2;cases hb2
 by_cases c:s.err=0
 ·by_cases c1:T.length≤s.i+n
  ·rw[if_pos (.inr c1)]at hq;refine W1 hp ?_;exact⟨h,(fun x o hx=>by repeat (first|exact hx|rw[ae (af hb2 hx)])),hq⟩
  ·rw[if_neg (by omega)]at hq;have e:=rH T (s.i+n) (by omega);have e':((s.i:Int)+n).toNat=s.i+n:=by omega
   ((try simp -implicitDefEqProofs only [later,bW,bG,bM]);(repeat (first|simp -implicitDefEqProofs only [go_sem,↓reduceIte,Nat.reduceEqDiff,Nat.reduceAdd,Nat.reduceLeDiff,Nat.reduceLT,Nat.reduceMul,reduceCtorEq,Int.reduceEq,Int.reduceLT,Int.reduceLE,Int.reduceNeg,Int.reduceToNat,Int.reduceMul,Int.reduceAdd,Int.reduceSub,hp,ht,e,e',fl,bC]|simp (disch:=(first|omega|(simp only[go_sem];done)|(simp only[lens];omega))) only [cds,hp,ht,e,e',fl,bC])))
   exact⟨h,(fun x o hx=>by repeat (first|exact hx|rw[ae (af hb2 hx)])),hq⟩
 ·rw[if_pos (.inl c)]at hq;refine W1 hp ?_;exact⟨h,(fun x o hx=>by repeat (first|exact hx|rw[ae (af hb2 hx)])),hq⟩
end
section
open Mir
variable{h:H}{Q:V→H→Prop}{h0 h':H}{p tb:Nat}{T:List Tokn}{s s':PS}{N:Nat}
def lvl(n c:Nat)(s:PS):Prop:=(s.err=0→s.deep+n=51)∧s.deep≤c
theorem lvl.fwd{n c:Nat}(l:lvl n c s)(f:Fwd T N s s'):lvl n c s':=⟨fun h=>by rw[f.deep];exact l.1 (f.err h),by rw[f.deep];exact l.2⟩
structure FC(T:List Tokn)(N n c:Nat)(f:Nat)(M:PF):Prop where
 run:∀(h0 h:H) (p tb:Nat) (s:PS) (Q:V→H→Prop),PAt h0 h p tb T s→SOk T N s→lvl n c s→(∀h' v,PAt h0 h' p tb T (M s).2→NodeV h0 h' p (M s).1 v→Q v h')→AC pg (.fn f) [.ptr p 0] h Q
 fwd:∀s,SOk T N s→lvl n c s→Fwd T N s (M s).2
 adv:∀s,SOk T N s→lvl n c s→Adv s (M s).2
def Qz(es:Ents)(ops:List (Txt × Txt)):Prop:=∀t:Txt,(aK (.one .str) (.str t) es=some none∧ops.lookup t=none)∨∃v i,aK (.one .str) (.str t) es=some (some (.str v,i))∧ops.lookup t=some v∧v≠[]
theorem vS(W:TkOk T N){n c:Nat}{M:PF}(hf:∀s,SOk T N s→lvl n c s→Fwd T N s (M s).2)(ln:Bool)(ops:List (Txt × Txt)):∀(k:Nat) {t:Tree} {s:PS},SOk T N s→lvl n c s→Fwd T N s (chainN T M ln ops k t s).2
 |0,_,_,hs,_=>Fwd.refl hs
 |k+1,t,s,hs,hl=>by
   unfold chainN;split
   ·split
    ·exact Fwd.refl hs
    ·have f1:Fwd T N s (if ln then(s.step T).lines T else s.step T):=by
      split
      ·exact(ak W hs).trans (aA W (ak W hs).ok)
      ·exact ak W hs
     have f2:=hf _ f1.ok (hl.fwd f1);exact(f1.trans f2).trans (vS W hf ln ops k f2.ok (hl.fwd (f1.trans f2)))
   ·exact Fwd.refl hs
theorem jd(t:Tokn):bC t=[.int .i64 t.k,.str t.t,.int .i64 t.a]:=rfl
theorem NodeV.inv{t:Tree}{v:V}(k:NodeV h0 h p t v):∃kv,v=.agg [.str t.op,.str t.text,.int .i64 t.at',kv]∧KidsV h0 h p t.kids kv:=by
 cases k with|mk k=>exact⟨_,rfl,k⟩
theorem NodeV.of{t:Tree}{kv:V}(k:KidsV h0 h p t.kids kv):NodeV h0 h p t (.agg [.str t.op,.str t.text,.int .i64 t.at',kv]):=by
 cases t;exact .mk k
theorem NodeV.wk{t:Tree}{v:V}{g0:H}(s:Sub g0 h0)(k:NodeV h0 h p t v):NodeV g0 h p t v:=
 NodeV.move (fun c o z n hc=>⟨by
  cases e:g0 c with
  |none=>rfl
  |some o'=>(rw[s _ _ e]at z;cases z),hc⟩) k
theorem mV(W:TkOk T N){n c f:Nat}{M:PF}(C:FC T N n c f M)(ln:Bool){bm:Nat}{es:Ents}{ck:Nat}{ops:List (Txt × Txt)}(A:PAt h0 h p tb T s)(hs:SOk T N s)(hl:lvl n c s)
  (hm:h bm=some (.map es ck)) (hes:Qz es ops) (hq:∀h' v,PAt h0 h' p tb T (dO T M ln ops s).2→NodeV h0 h' p (dO T M ln ops s).1 v→Q v h'):
  AC pg (.fn 90) [.ptr p 0,.fn f [.ptr p 0] [],.bool ln,.map bm] h Q:=by
 have nm:bm≠p:=fun e=>by rw[e,A.obj]at hm;cases hm
 refine AC.fn' (g:=g90) rfl (by simp only[List.length_cons,List.length_nil,g90];decide) ?_;simp only[g90,Mir.Ab.all];refine W0 ?_;intro b8 hb8;have n8:=A.ne hb8;have z8:=A.new hb8;have nm8:bm≠b8:=af hb8 hm;have A1:=A.put (o:=AObj.cells [V.str [],V.str [],V.int IntKind.i64 0,V.nilsl] false) hb8;refine W0 ?_;refine C.run _ _ _ _ _ _ A1.re hs hl fun h1 v A2 k2=>?_;have F1:=C.fwd s hs hl;have A3:=A1.back A2;have hm2:=A2.keep nm (b:=bm) (o:=.map es ck) (by rw[ae nm8];exact hm);have h8:=A2.keep (Ne.symm n8) (b:=b8) (o:=.cells [V.str [],V.str [],V.int IntKind.i64 0,V.nilsl] false) (by simp[hadd,hset]);obtain⟨kv,rfl,k3⟩:=k2.inv;have kf:=k3.flat;refine W0 ?_;intro b9 hb9;have n9:=A3.ne hb9;have z9:=A3.new hb9;have n89:b8≠b9:=af hb9 h8;have nm9:bm≠b9:=af hb9 hm2;refine W1 kf ?_;have A4:=A3.put (o:=AObj.cells [V.str (M s).1.op,V.str (M s).1.text,V.int IntKind.i64 (M s).1.at',kv] false) hb9;obtain⟨g9,hg⟩:∃g9:H,g9=hadd (hadd h0 b8 (.cells [] false)) b9 (.cells [] false):=⟨_,rfl⟩;have C0:∀c,g9 c=none→c≠b9∧c≠b8∧h0 c=none:=fun c hc=>by
  rw[hg]at hc;have n:c≠b9:=fun e=>by simp[e,hadd,hset]at hc
  have n':c≠b8:=fun e=>by simp[e,hadd,hset,n89]at hc
  exact⟨n,n',by rw[ae n,ae n']at hc;exact hc⟩
 have C1:∀c,c≠b9→c≠b8→h0 c=none→g9 c=none:=fun c n n' hc=>by rw[hg,ae n,ae n'];exact hc
 have k4:KidsV g9 (hadd h1 b9 (AObj.cells [V.str (M s).1.op,V.str (M s).1.text,V.int IntKind.i64 (M s).1.at',kv] false)) p (M s).1.kids kv:=
  KidsV.move (fun c o z n hc=>⟨by
   rw[show hset _ p none c=_ from if_neg n]at z;exact C1 c (af hb9 hc) (fun e=>by rw[e]at z;simp[hadd,hset]at z) (A1.new z),by rw[ae (af hb9 hc)];exact hc⟩) k3
 refine E.loopX AC.mono (fun(x:Nat × Tree × PS) a' h'=>chainN T M ln ops x.1 x.2.1 x.2.2=dO T M ln ops s∧(x.2.2.err=0→T.length<x.2.2.i+x.1)∧SOk T N x.2.2∧lvl n c x.2.2∧PAt h0 h' p tb T x.2.2∧h' bm=some (.map es ck)∧h' b8=some (.cells [V.str [],V.str [],V.int IntKind.i64 0,V.nilsl] false)∧(∃kv,h' b9=some (.cells [V.str x.2.1.op,V.str x.2.1.text,V.int IntKind.i64 x.2.1.at',kv] false)∧KidsV g9 h' p x.2.1.kids kv)∧a'.d=[]∧a'.t 0=.ptr p 0∧a'.t 1=.fn f [.ptr p 0] []∧a'.t 2=.bool ln∧a'.t 3=.map bm∧a'.t 8=.ptr b8 0∧a'.t 9=.ptr b9 0) (fun x=>x.1) (T.length+1,(M s).1,(M s).2) ?_ ?_
 ·exact⟨rfl,fun _=>by show T.length<(M s).2.i+(T.length+1);omega,F1.ok,hl.fwd F1,A4,by rw[ae nm9];exact hm2,by rw[ae n89];exact h8,⟨kv,by simp[hadd,hset],k4⟩,rfl,rfl,rfl,rfl,rfl,rfl,rfl⟩
 ·rintro⟨k,m,r⟩ ⟨t,ds⟩ h2 ⟨hk,hr,sr,lr,A5,hm5,h85,⟨kv,h95,k5⟩,hd,t0,t1,t2,t3,t8,t9⟩;simp only at hk hr sr lr A5 h95 k5 hd t0 t1 t2 t3 t8 t9;subst hd;have kf:=k5.flat;refine W6 t0 t1 t2 t3 t8 t9 ?_;refine dL A5 ?_;rw[jd];refine W6 t0 t1 t2 t3 t8 t9 ?_;intro b10 hb10;have n810:=af hb10 h85;have n910:=af hb10 h95;have nm10:=af hb10 hm5;have np10:=A5.ne hb10;have A6:=A5.put (o:=AObj.cells [.int .i64 (r.cur T).k,.str (r.cur T).t,.int .i64 (r.cur T).a] false) hb10;have k6:=k5.put (o:=AObj.cells [.int .i64 (r.cur T).k,.str (r.cur T).t,.int .i64 (r.cur T).a] false) hb10;have h96:hadd h2 b10 (AObj.cells [.int .i64 (r.cur T).k,.str (r.cur T).t,.int .i64 (r.cur T).a] false) b9=some (.cells [V.str m.op,V.str m.text,V.int IntKind.i64 m.at',kv] false):=by rw[ae n910];exact h95
  have h86:hadd h2 b10 (AObj.cells [.int .i64 (r.cur T).k,.str (r.cur T).t,.int .i64 (r.cur T).a] false) b8=some (.cells [V.str [],V.str [],V.int IntKind.i64 0,V.nilsl] false):=by rw[ae n810];exact h85
  have hm6:hadd h2 b10 (AObj.cells [.int .i64 (r.cur T).k,.str (r.cur T).t,.int .i64 (r.cur T).a] false) bm=some (.map es ck):=by rw[ae nm10];exact hm5
  have h106:hadd h2 b10 (AObj.cells [.int .i64 (r.cur T).k,.str (r.cur T).t,.int .i64 (r.cur T).a] false) b10=some (AObj.cells [.int .i64 (r.cur T).k,.str (r.cur T).t,.int .i64 (r.cur T).a] false):=by simp[hadd,hset]
  have out:(m,r)=dO T M ln ops s→∃h4,Mir.Sub h4 (hadd (hadd h2 b10 (AObj.cells [.int .i64 (r.cur T).k,.str (r.cur T).t,.int .i64 (r.cur T).a] false)) b8 (.cells [V.str m.op,V.str m.text,V.int IntKind.i64 m.at',kv] false))∧Q (.agg [V.str m.op,V.str m.text,V.int IntKind.i64 m.at',kv]) h4:=fun e=>by
   rw[← e]at hq;exact⟨_,Sub.refl,hq _ _ (A6.over z8 (Ne.symm n8)) (NodeV.of (KidsV.move (fun c o z n hc=>⟨(C0 c z).2.2,by rw[ae (C0 c z).2.1];exact hc⟩) k6))⟩
  by_cases c8:(r.cur T).k=8
  ·rcases hes (r.cur T).t with⟨e1,e2⟩|⟨v,i,e1,e2,e3⟩
   ·refine W8 t0 t1 t2 t3 t8 t9 h95 (An2 h85 (An2 hm5 (An2 e1 kf))) ?_;apply out;rw[← hk];cases k with
    |zero=>rfl
    |succ k=>rw[chainN,if_pos c8,e2]
   ·have e0:r.err=0:=iM (T:=T) (by omega);have nl:=kQ W (by omega) sr;obtain⟨k,rfl⟩:∃k',k=k'+1:=⟨k-1,by have:=hr e0;omega⟩;rw[chainN,if_pos c8,e2]at hk;simp only at hk;refine W8 t0 t1 t2 t3 t8 t9 h95 (An2 h85 (An2 hm5 (An2 e1 (An2 kf e3)))) ?_;refine aZ A6.re fun h4 A7=>?_;have A7':=A6.back A7;have h97:=A7.keep (Ne.symm n9) h96;have h87:=A7.keep (Ne.symm n8) h86;have hm7:=A7.keep nm hm6;have k7:=k6.keep A7;have sf:=ak W sr;have sa:=jJ W sr (by omega);obtain⟨r1,hr1⟩:∃r1,r1=if ln then(r.step T).lines T else r.step T:=⟨_,rfl⟩
    rw[← hr1]at hk;have sf1:Fwd T N r r1:=by
     rw[hr1];cases ln
     ·exact sf
     ·exact sf.trans (aA W sf.ok)
    have sa1:Adv r r1:=by
     rw[hr1];cases ln
     ·exact sa
     ·exact sa.left (aA W sf.ok)
    refine W1 t2 ?_;refine dn AC.mono (fun ex a' h'=>ex=.nm∧a'.d=[]∧a'.t 0=.ptr p 0∧a'.t 1=.fn f [.ptr p 0] []∧a'.t 2=.bool ln∧a'.t 3=.map bm∧a'.t 8=.ptr b8 0∧a'.t 9=.ptr b9 0∧a'.t 11=.str v∧PAt h0 h' p tb T r1∧h' bm=some (.map es ck)∧h' b8=some (.cells [V.str [],V.str [],V.int IntKind.i64 0,V.nilsl] false)∧h' b9=some (.cells [V.str m.op,V.str m.text,V.int IntKind.i64 m.at',kv] false)∧KidsV g9 h' p m.kids kv) ?_ ?_
    ·cases ln
     ·simp only[if_false,Bool.false_eq_true]at hr1;subst hr1;refine W6 t0 t1 t2 t3 t8 t9 ?_;exact⟨A7',hm7,h87,h97,k7⟩
     ·simp only[if_true]at hr1;subst hr1;refine W6 t0 t1 t2 t3 t8 t9 ?_;refine bI A7'.re W.last fun h5 A8=>?_;refine W6 t0 t1 t2 t3 t8 t9 ?_;exact⟨A7'.back A8,A8.keep nm hm7,A8.keep (Ne.symm n8) h87,A8.keep (Ne.symm n9) h97,k7.keep A8⟩
    ·rintro ex ⟨t,ds⟩ h5 ⟨rfl,hd,t0,t1,t2,t3,t8,t9,t11,A8,hm8,h88,h98,k8⟩;simp only at hd t0 t1 t2 t3 t8 t9 t11;subst hd;have kf:=k8.flat;refine W8 t0 t1 t2 t3 t8 t9 t11 (An2 h98 kf) ?_;refine C.run _ _ _ _ _ _ A8.re sf1.ok (lr.fwd sf1) fun h6 v2 A9 k9=>?_;have A9':=A8.back A9;have h99:=A9.keep (Ne.symm n9) h98;have h89:=A9.keep (Ne.symm n8) h88;have hm9:=A9.keep nm hm8;have k8':=k8.keep A9;obtain⟨kv2,rfl,k9b⟩:=k9.inv;have kf2:=k9b.flat;have k9':KidsV g9 h6 p (M r1).1.kids kv2:=KidsV.move (fun c o z n hc=>⟨by
      rw[show hset _ p none c=_ from if_neg n]at z;exact C1 c (fun e=>by rw[e,h98]at z;cases z) (fun e=>by rw[e,h88]at z;cases z) (A8.new z),hc⟩) k9b
     refine W8 t0 t1 t2 t3 t8 t9 t11 (An2 h99 (An2 kf kf2)) ?_;intro bs hbs;have nps:=A9'.ne hbs;have zs:=A9'.new hbs;have n9s:=af hbs h99;have n8s:=af hbs h89;have nms:=af hbs hm9;have A10:=A9'.put (o:=AObj.cells [V.str m.op,V.str m.text,V.int IntKind.i64 ↑m.at',kv,V.str (M r1).fst.op,V.str (M r1).fst.text,V.int IntKind.i64 ↑(M r1).fst.at',kv2] false) hbs;have k10:KidsV g9 (hadd h6 bs (AObj.cells [V.str m.op,V.str m.text,V.int IntKind.i64 ↑m.at',kv,V.str (M r1).fst.op,V.str (M r1).fst.text,V.int IntKind.i64 ↑(M r1).fst.at',kv2] false)) p [m,(M r1).1] (.sl bs 0 4 2):=
      .sl (by simp) (C1 bs (Ne.symm n9s) (Ne.symm n8s) zs) (Ne.symm nps) (by simp[hadd,hset]) ((CellsV.one (NodeV.of (k8'.put hbs))).app (CellsV.one (NodeV.of (k9'.put hbs))))
     refine W7 h99 t0 t1 t2 t3 t8 t9 ?_;refine aS v (l:=[m,(M r1).1]) rfl ?_;refine W7 h99 t0 t1 t2 t3 t8 t9 ?_;have f3:=C.fwd r1 sf1.ok (lr.fwd sf1);refine⟨(k,nodeM v [m,(M r1).1],(M r1).2),by show k<k+1;omega,hk,fun e=>?_,f3.ok,lr.fwd (sf1.trans f3),A10.over z9 (Ne.symm n9),?_,?_,⟨_,rfl,KidsV.move (fun c o z n hc=>⟨z,by rw[ae (C0 c z).1];exact hc⟩) k10⟩⟩
     ·have e1:r1.err=0:=f3.err e;rcases sa1 e0 with d|d
      ·have d2:=f3.le;have:=hr e0
       show T.length<(M r1).2.i+k
       omega
      ·exact absurd e1 d
     ·exact hm9
     ·exact h89
  ·have fin:(m,r)=dO T M ln ops s:=by
    rw[← hk];cases k with
    |zero=>rfl
    |succ k=>rw[chainN,if_neg c8]
   rcases hes (r.cur T).t with⟨e1,e2⟩|⟨v,i,e1,e2,e3⟩
   ·refine W8 t0 t1 t2 t3 t8 t9 h95 (An2 h85 (An2 hm5 (An2 e1 kf))) ?_;exact out fin
   ·refine W8 t0 t1 t2 t3 t8 t9 h95 (An2 h85 (An2 hm5 (An2 e1 kf))) ?_;exact out fin
end
section
open Mir
variable{h:H}{Q:V→H→Prop}{h0 h':H}{p tb:Nat}{T:List Tokn}{s s':PS}{N n c:Nat}
abbrev Z4:List V:=[V.str [],V.str [],V.int IntKind.i64 0,V.nilsl]
theorem jI(A:PAt h0 h p tb T s)(A':PAt (hset h p none) h' p tb T s'){b:Nat}{o':AObj}(hb:h b=some o')(n:b≠p)(z:h0 b=none){t:Tree}{v:V}(k:NodeV (hset h p none) h' p t v)(o:AObj):
  PAt h0 (hadd h' b o) p tb T s'∧NodeV h0 (hadd h' b o) p t v:=
 ⟨(A.back A').over z n,NodeV.move (fun c o' q nc hc=>by
   rw[show hset _ p none c=_ from if_neg nc]at q;exact⟨A.new q,by rw[ae (fun e=>by rw[e,hb]at q;cases q)];exact hc⟩) k⟩
theorem fH(W:TkOk T N){f:Nat}{M:PF}(C:FC T N n c f M)(ln:Bool)(ops:List (Txt × Txt))(hs:SOk T N s)(hl:lvl n c s):Fwd T N s (dO T M ln ops s).2∧Adv s (dO T M ln ops s).2:=by
 have f1:=C.fwd s hs hl;have f2:=vS W C.fwd ln ops (T.length+1) (t:=(M s).1) f1.ok (hl.fwd f1);exact⟨f1.trans f2,(C.adv s hs hl).left f2⟩
def aI:List (Txt × Txt)→Nat→Ents
 |[],_=>[]
 |(k,v)::l,i=>(.str k,.str v,i)::aI l (i+1)
theorem kL{ops:List (Txt × Txt)}(hv:∀x∈ops,x.2≠[]):Qz (aI ops 0) ops:=by
 intro t
 suffices H:∀i,(aK (.one .str) (.str t) (aI ops i)=some none∧ops.lookup t=none)∨∃v j,aK (.one .str) (.str t) (aI ops i)=some (some (.str v,j))∧ops.lookup t=some v∧v≠[]from H 0
 induction ops with
 |nil=>intro i;exact .inl ⟨rfl,rfl⟩
 |cons x l ih =>
   intro i;obtain⟨k,v⟩:=x
   by_cases e:t=k
   ·subst e;exact .inr ⟨v,i,by simp[aI,aK,bH,eQ],by simp[List.lookup],hv _ (List.mem_cons_self ..)⟩
   ·have e':(t==k)=false:=by simpa using e
    rcases ih (fun x hx=>hv x (List.mem_cons_of_mem _ hx)) (i+1)with⟨h1,h2⟩|⟨w,j,h1,h2,h3⟩
    ·exact .inl ⟨by simp[aI,aK,bH,eQ,e',h1],by simp[List.lookup,e',h2]⟩
    ·exact .inr ⟨w,j,by simp[aI,aK,bH,eQ,e',h1],by simp[List.lookup,e',h2],h3⟩
theorem MN(W:TkOk T N){U:PF}(C:FC T N n c 126 (U)):FC T N n c 123 (rX T U):=by
 refine⟨fun h0 h p tb s Q A hs hl hq=>?_,fun s hs hl=>(fH W C _ _ hs hl).1,fun s hs hl=>(fH W C _ _ hs hl).2⟩;refine AC.fn' (g:=KW) rfl (by simp only[List.length_cons,List.length_nil,KW];decide) ?_;simp only[KW,Mir.Ab.all];refine W0 ?_;intro b2 hb2;have np:=A.ne hb2;have z2:=A.new hb2;have A1:=A.put (o:=AObj.cells Z4 false) hb2;have h2:hadd h b2 (AObj.cells Z4 false) b2=some (.cells Z4 false):=by simp[hadd,hset]
 refine W0 ?_;intro b5 hb5;have n25:=af hb5 h2;have m0:aK (KC.one EqC.str) (V.str [42]) []=some none:=rfl;have m1:aK (KC.one EqC.str) (V.str [47]) [(V.str [42],V.str [109,117,108],0)]=some none:=rfl;have m2:aK (KC.one EqC.str) (V.str [37]) [(V.str [42],V.str [109,117,108],0),(V.str [47],V.str [100,105,118],1)]=some none:=rfl;refine W3 m0 m1 m2 ?_;have A2:=A1.put (o:=.map (aI [([42],[109,117,108]),([47],[100,105,118]),([37],[109,111,100])] 0) 3) hb5;refine mV W C false A2.re hs hl ah (kL (ops:=[([42],[109,117,108]),([47],[100,105,118]),([37],[109,111,100])]) (by decide)) fun h3 v A3 k3=>?_;obtain⟨kv,rfl,kk⟩:=k3.inv;have kf:=kk.flat;have h2':=A3.keep (Ne.symm np) (b:=b2) (o:=.cells Z4 false) (by rw[ae n25];exact h2);unfold Z4 at h2';refine W2 h2' kf ?_;obtain⟨A4,k4⟩:=jI A2 A3 (by rw[ae n25];exact h2) (Ne.symm np) z2 k3 (.cells [V.str (rX T U s).1.op,V.str (rX T U s).1.text,V.int .i64 (rX T U s).1.at',kv] false);exact⟨_,Sub.refl,hq _ _ A4 k4⟩
theorem Ju(W:TkOk T N){U:PF}(C:FC T N n c 123 (rX T U)):FC T N n c 115 (gI T U):=by
 refine⟨fun h0 h p tb s Q A hs hl hq=>?_,fun s hs hl=>(fH W C _ _ hs hl).1,fun s hs hl=>(fH W C _ _ hs hl).2⟩;refine AC.fn' (g:=KR) rfl (by simp only[List.length_cons,List.length_nil,KR];decide) ?_;simp only[KR,Mir.Ab.all];refine W0 ?_;intro b2 hb2;have np:=A.ne hb2;have z2:=A.new hb2;have A1:=A.put (o:=AObj.cells Z4 false) hb2;have h2:hadd h b2 (AObj.cells Z4 false) b2=some (.cells Z4 false):=by simp[hadd,hset]
 refine W0 ?_;intro b5 hb5;have n25:=af hb5 h2;have m0:aK (KC.one EqC.str) (V.str [43]) []=some none:=rfl;have m1:aK (KC.one EqC.str) (V.str [45]) [(V.str [43],V.str [97,100,100],0)]=some none:=rfl;refine W2 m0 m1 ?_;have A2:=A1.put (o:=.map (aI [([43],[97,100,100]),([45],[115,117,98])] 0) 2) hb5;refine mV W C false A2.re hs hl ah (kL (ops:=[([43],[97,100,100]),([45],[115,117,98])]) (by decide)) fun h3 v A3 k3=>?_;obtain⟨kv,rfl,kk⟩:=k3.inv;have kf:=kk.flat;have h2':=A3.keep (Ne.symm np) (b:=b2) (o:=.cells Z4 false) (by rw[ae n25];exact h2);unfold Z4 at h2';refine W2 h2' kf ?_;obtain⟨A4,k4⟩:=jI A2 A3 (by rw[ae n25];exact h2) (Ne.symm np) z2 k3 (.cells [V.str (gI T U s).1.op,V.str (gI T U s).1.text,V.int .i64 (gI T U s).1.at',kv] false);exact⟨_,Sub.refl,hq _ _ A4 k4⟩
theorem MJ(W:TkOk T N){U:PF}(C:FC T N n c 116 (uY T U)):FC T N n c 107 (fB T U):=by
 refine⟨fun h0 h p tb s Q A hs hl hq=>?_,fun s hs hl=>(fH W C _ _ hs hl).1,fun s hs hl=>(fH W C _ _ hs hl).2⟩;refine AC.fn' (g:=KP) rfl (by simp only[List.length_cons,List.length_nil,KP];decide) ?_;simp only[KP,Mir.Ab.all];refine W0 ?_;intro b2 hb2;have np:=A.ne hb2;have z2:=A.new hb2;have A1:=A.put (o:=AObj.cells Z4 false) hb2;have h2:hadd h b2 (AObj.cells Z4 false) b2=some (.cells Z4 false):=by simp[hadd,hset]
 refine W0 ?_;intro b5 hb5;have n25:=af hb5 h2;have m0:aK (KC.one EqC.str) (V.str [126]) []=some none:=rfl;have m1:aK (KC.one EqC.str) (V.str [33,126]) [(V.str [126],V.str [109,97,116,99,104],0)]=some none:=rfl;refine W2 m0 m1 ?_;have A2:=A1.put (o:=.map (aI [([126],[109,97,116,99,104]),([33,126],[110,111,109,97,116,99,104])] 0) 2) hb5;refine mV W C false A2.re hs hl ah (kL (ops:=[([126],[109,97,116,99,104]),([33,126],[110,111,109,97,116,99,104])]) (by decide)) fun h3 v A3 k3=>?_;obtain⟨kv,rfl,kk⟩:=k3.inv;have kf:=kk.flat;have h2':=A3.keep (Ne.symm np) (b:=b2) (o:=.cells Z4 false) (by rw[ae n25];exact h2);unfold Z4 at h2';refine W2 h2' kf ?_;obtain⟨A4,k4⟩:=jI A2 A3 (by rw[ae n25];exact h2) (Ne.symm np) z2 k3 (.cells [V.str (fB T U s).1.op,V.str (fB T U s).1.text,V.int .i64 (fB T U s).1.at',kv] false);exact⟨_,Sub.refl,hq _ _ A4 k4⟩
theorem Q3(W:TkOk T N){U:PF}(C:FC T N n c 99 (inM T U)):FC T N n c 91 (andM T U):=by
 refine⟨fun h0 h p tb s Q A hs hl hq=>?_,fun s hs hl=>(fH W C _ _ hs hl).1,fun s hs hl=>(fH W C _ _ hs hl).2⟩;refine AC.fn' (g:=g91) rfl (by simp only[List.length_cons,List.length_nil,g91];decide) ?_;simp only[g91,Mir.Ab.all];refine W0 ?_;intro b2 hb2;have np:=A.ne hb2;have z2:=A.new hb2;have A1:=A.put (o:=AObj.cells Z4 false) hb2;have h2:hadd h b2 (AObj.cells Z4 false) b2=some (.cells Z4 false):=by simp[hadd,hset]
 refine W0 ?_;intro b5 hb5;have n25:=af hb5 h2;have m0:aK (KC.one EqC.str) (V.str [38,38]) []=some none:=rfl;refine W1 m0 ?_;have A2:=A1.put (o:=.map (aI [([38,38],[97,110,100])] 0) 1) hb5;refine mV W C true A2.re hs hl ah (kL (ops:=[([38,38],[97,110,100])]) (by decide)) fun h3 v A3 k3=>?_;obtain⟨kv,rfl,kk⟩:=k3.inv;have kf:=kk.flat;have h2':=A3.keep (Ne.symm np) (b:=b2) (o:=.cells Z4 false) (by rw[ae n25];exact h2);unfold Z4 at h2';refine W2 h2' kf ?_;obtain⟨A4,k4⟩:=jI A2 A3 (by rw[ae n25];exact h2) (Ne.symm np) z2 k3 (.cells [V.str (andM T U s).1.op,V.str (andM T U s).1.text,V.int .i64 (andM T U s).1.at',kv] false);exact⟨_,Sub.refl,hq _ _ A4 k4⟩
theorem UB(W:TkOk T N){U:PF}(C:FC T N n c 91 (andM T U)):FC T N n c 73 (orM T U):=by
 refine⟨fun h0 h p tb s Q A hs hl hq=>?_,fun s hs hl=>(fH W C _ _ hs hl).1,fun s hs hl=>(fH W C _ _ hs hl).2⟩;refine AC.fn' (g:=g73) rfl (by simp only[List.length_cons,List.length_nil,g73];decide) ?_;simp only[g73,Mir.Ab.all];refine W0 ?_;intro b2 hb2;have np:=A.ne hb2;have z2:=A.new hb2;have A1:=A.put (o:=AObj.cells Z4 false) hb2;have h2:hadd h b2 (AObj.cells Z4 false) b2=some (.cells Z4 false):=by simp[hadd,hset]
 refine W0 ?_;intro b5 hb5;have n25:=af hb5 h2;have m0:aK (KC.one EqC.str) (V.str [124,124]) []=some none:=rfl;refine W1 m0 ?_;have A2:=A1.put (o:=.map (aI [([124,124],[111,114])] 0) 1) hb5;refine mV W C true A2.re hs hl ah (kL (ops:=[([124,124],[111,114])]) (by decide)) fun h3 v A3 k3=>?_;obtain⟨kv,rfl,kk⟩:=k3.inv;have kf:=kk.flat;have h2':=A3.keep (Ne.symm np) (b:=b2) (o:=.cells Z4 false) (by rw[ae n25];exact h2);unfold Z4 at h2';refine W2 h2' kf ?_;obtain⟨A4,k4⟩:=jI A2 A3 (by rw[ae n25];exact h2) (Ne.symm np) z2 k3 (.cells [V.str (orM T U s).1.op,V.str (orM T U s).1.text,V.int .i64 (orM T U s).1.at',kv] false);exact⟨_,Sub.refl,hq _ _ A4 k4⟩
end
section
open Mir
variable{h:H}{Q:V→H→Prop}{h0 h':H}{p tb:Nat}{T:List Tokn}{s s':PS}{N n c:Nat}
def gg(h0:H)(b8 b9:Nat):H:=hadd (hadd h0 b8 (.cells [] false)) b9 (.cells [] false)
theorem dM{b8 b9:Nat}{x:Nat}(hc:gg h0 b8 b9 x=none):x≠b9∧x≠b8∧h0 x=none:=by
 unfold gg at hc;have n:x≠b9:=fun e=>by simp[e,hadd,hset]at hc
 have n':x≠b8:=fun e=>by rw[ae n,e]at hc;simp[hadd,hset]at hc
 exact⟨n,n',by rw[ae n,ae n']at hc;exact hc⟩
theorem pW{b8 b9:Nat}{x:Nat}(n:x≠b9)(n':x≠b8)(hc:h0 x=none):gg h0 b8 b9 x=none:=by
 unfold gg;rw[ae n,ae n'];exact hc
abbrev nodeC(m:Tree)(kv:V):List V:=[.str m.op,.str m.text,.int .i64 m.at',kv]
structure AccAt(h0 h:H)(p b8 b9:Nat)(m:Tree)(kv:V):Prop where
 c8:h b8=some (.cells Z4 false)
 z8:h0 b8=none
 n8:b8≠p
 c9:h b9=some (.cells (nodeC m kv) false)
 z9:h0 b9=none
 n9:b9≠p
 n89:b8≠b9
 kids:KidsV (gg h0 b8 b9) h p m.kids kv
variable{b8 b9:Nat}{m:Tree}{kv:V}
theorem AccAt.keep(K:AccAt h0 h p b8 b9 m kv)(A':PAt (hset h p none) h' p tb T s'):AccAt h0 h' p b8 b9 m kv:=
 ⟨A'.keep K.n8 K.c8,K.z8,K.n8,A'.keep K.n9 K.c9,K.z9,K.n9,K.n89,K.kids.keep A'⟩
theorem AccAt.put(K:AccAt h0 h p b8 b9 m kv){b:Nat}{o:AObj}(hb:h b=none):AccAt h0 (hadd h b o) p b8 b9 m kv:=
 ⟨by rw[ae (af hb K.c8)];exact K.c8,K.z8,K.n8,by rw[ae (af hb K.c9)];exact K.c9,K.z9,K.n9,K.n89,K.kids.put hb⟩
theorem AccAt.back(K:AccAt h0 h p b8 b9 m kv)(A:PAt h0 h p tb T s){l:List Tree}{v:V}(k:KidsV (hset h p none) h' p l v):KidsV (gg h0 b8 b9) h' p l v:=
 KidsV.move (fun x o z nx hx=>⟨by
  rw[show hset _ p none x=_ from if_neg nx]at z;exact pW (fun e=>by rw[e,K.c9]at z;cases z) (fun e=>by rw[e,K.c8]at z;cases z) (A.new z),hx⟩) k
theorem AccAt.store(K:AccAt h0 h p b8 b9 m kv){m':Tree}{kv':V}(k:KidsV (gg h0 b8 b9) h p m'.kids kv'):AccAt h0 (hadd h b9 (.cells (nodeC m' kv') false)) p b8 b9 m' kv' :=
 ⟨by rw[ae K.n89];exact K.c8,K.z8,K.n8,ah,K.z9,K.n9,K.n89,KidsV.move (fun x o z nx hx=>⟨z,by rw[ae (dM z).1];exact hx⟩) k⟩
theorem AccAt.ret(K:AccAt h0 h p b8 b9 m kv)(A:PAt h0 h p tb T s)(o:AObj):PAt h0 (hadd h b8 o) p tb T s∧NodeV h0 (hadd h b8 o) p m (.agg (nodeC m kv)):=
 ⟨A.over K.z8 K.n8,NodeV.of (KidsV.move (fun x o z nx hx=>⟨(dM z).2.2,by rw[ae (dM z).2.1];exact hx⟩) K.kids)⟩
theorem AccAt.row(K:AccAt h0 h p b8 b9 m kv)(A:PAt h0 h p tb T s){b:Nat}(hb:h b=none){l:List Tree}{cs:List V}(hl:l≠[])(k:CellsV (gg h0 b8 b9) h p l cs):KidsV (gg h0 b8 b9) (hadd h b (.cells cs false)) p l (.sl b 0 4 l.length):=
 .sl hl (pW (af hb K.c9).symm (af hb K.c8).symm (A.new hb)) (Ne.symm (A.ne hb)) ah (k.put hb)
theorem vP{M:PF}(hf:∀s,SOk T N s→lvl n c s→Fwd T N s (M s).2):∀(k:Nat) {t:Tree} {s:PS},SOk T N s→lvl n c s→Fwd T N s (catN T M k t s).2
 |0,_,_,hs,_=>Fwd.refl hs
 |k+1,t,s,hs,hl=>by
   unfold catN;split
   ·have f2:=hf _ hs hl;exact f2.trans (vP hf k f2.ok (hl.fwd f2))
   ·exact Fwd.refl hs
theorem Bc(W:TkOk T N):∀(k:Nat) {t:Tree} {s:PS},SOk T N s→Fwd T N s (inN T k t s).2
 |0,_,_,hs=>Fwd.refl hs
 |k+1,t,s,hs=>by
   unfold inN;split
   ·have f1:=ak W hs;have f2:=dU W f1.ok [5];exact(f1.trans f2).trans (Bc W k f2.ok)
   ·exact Fwd.refl hs
theorem IA{call:CP}{l:List IOp}{a:A}{h:H}{K:A→H→Prop}(hm:mF call)(R:A→H→Prop)(hE:later call l a h R)(hR:∀a h,R a h→K a h):later call l a h K:=gB hm hR hE
theorem JU(W:TkOk T N){U:PF}(C:FC T N n c 115 (gI T U)):FC T N n c 106 (aX T U):=by
 refine⟨fun h0 h p tb s Q A hs hl hq=>?_,fun s hs hl=>(C.fwd s hs hl).trans (vP C.fwd _ (C.fwd s hs hl).ok (hl.fwd (C.fwd s hs hl))),fun s hs hl=>(C.adv s hs hl).left (vP C.fwd _ (C.fwd s hs hl).ok (hl.fwd (C.fwd s hs hl)))⟩;refine AC.fn' (g:=KO) rfl (by simp only[List.length_cons,List.length_nil,KO];decide) ?_;simp only[KO,Mir.Ab.all];refine W0 ?_;intro b8 hb8;have z8:=A.new hb8;have A1:=A.put (o:=AObj.cells Z4 false) hb8;refine W0 ?_;refine C.run _ _ _ _ _ _ A1.re hs hl fun h1 v A2 k2=>?_;have F1:=C.fwd s hs hl;have A3:=A1.back A2;have h8:=A2.keep (Ne.symm (A.ne hb8)) (b:=b8) (o:=.cells Z4 false) ah;obtain⟨kv,rfl,k3⟩:=k2.inv;have kf:=k3.flat;refine W0 ?_;intro b9 hb9;have n89:b8≠b9:=af hb9 h8;have K:AccAt h0 (hadd h1 b9 (.cells (nodeC (gI T U s).1 kv) false)) p b8 b9 (gI T U s).1 kv:=
  ⟨by rw[ae n89];exact h8,z8,Ne.symm (A.ne hb8),ah,A3.new hb9,Ne.symm (A3.ne hb9),n89,KidsV.move (fun x o z nx hx=>⟨by
   rw[show hset _ p none x=_ from if_neg nx]at z;exact pW (af hb9 hx) (fun e=>by rw[e]at z;simp[hadd,hset]at z) (A1.new z),by rw[ae (af hb9 hx)];exact hx⟩) k3⟩
 refine W1 kf ?_;refine E.loopX AC.mono (fun(x:Nat × Tree × PS) a' h'=>catN T (gI T U) x.1 x.2.1 x.2.2=aX T U s∧(x.2.2.err=0→T.length<x.2.2.i+x.1)∧SOk T N x.2.2∧lvl n c x.2.2∧PAt h0 h' p tb T x.2.2∧(∃kv,AccAt h0 h' p b8 b9 x.2.1 kv)∧a'.d=[]∧a'.t 0=.ptr p 0∧a'.t 2=.ptr b8 0∧a'.t 3=.ptr b9 0) (fun x=>x.1) (T.length+1,(gI T U s).1,(gI T U s).2) ?_ ?_
 ·exact⟨rfl,fun _=>by show T.length<(gI T U s).2.i+(T.length+1);omega,F1.ok,hl.fwd F1,A3.put hb9,⟨kv,K⟩,rfl,rfl,rfl,rfl⟩
 ·rintro⟨k,m,r⟩ ⟨t,ds⟩ h2 ⟨hk,hr,sr,lr,A5,⟨kv,K5⟩,hd,t0,t2,t3⟩;simp only at hk hr sr lr A5 K5 hd t0 t2 t3;subst hd;have kf:=K5.kids.flat;refine W3 t0 t2 t3 ?_;refine dL A5 ?_;rw[jd];refine W3 t0 t2 t3 ?_;intro b10 hb10;have A6:=A5.put (o:=AObj.cells [.int .i64 (r.cur T).k,.str (r.cur T).t,.int .i64 (r.cur T).a] false) hb10;have K6:=K5.put (o:=AObj.cells [.int .i64 (r.cur T).k,.str (r.cur T).t,.int .i64 (r.cur T).a] false) hb10;refine W3 t0 t2 t3 ?_;intro b11 hb11;have A7:=A6.put (o:=AObj.cells [.int .i64 2,.int .i64 3,.int .i64 5,.int .i64 6,.int .i64 9] false) hb11;have K7:=K6.put (o:=AObj.cells [.int .i64 2,.int .i64 3,.int .i64 5,.int .i64 6,.int .i64 9] false) hb11;have n1011:b10≠b11:=fun e=>by rw[← e]at hb11;simp[hadd,hset]at hb11
  refine W3 t0 t2 t3 ?_;refine qW (ss:=[2,3,5,6,9]) (ro:=false) ah (by decide) _ ?_;obtain⟨cc,hcc⟩:∃cc:Bool,cc=decide ((r.cur T).k∈[2,3,5,6,9]∨r.isAt T [[36],[40]]=true):=⟨_,rfl⟩;have ei:decide (((r.cur T).k:Int)∈[2,3,5,6,9])=decide ((r.cur T).k∈[2,3,5,6,9]):=by
   simp only[List.mem_cons,List.not_mem_nil,or_false];congr 1;simp only[eq_iff_iff];omega
  rw[ei];refine IA AC.mono (fun a' h'=>a'.d=[]∧a'.t 0=.ptr p 0∧a'.t 2=.ptr b8 0∧a'.t 3=.ptr b9 0∧a'.t 19=.bool (!cc)∧PAt h0 h' p tb T r∧AccAt h0 h' p b8 b9 m kv) ?_ ?_
  ·by_cases ci:(r.cur T).k∈[2,3,5,6,9]
   ·have:cc=true:=by rw[hcc];simp[ci]
    subst this;simp only[ci,decide_true];refine W3 t0 t2 t3 ?_;exact⟨A7,K7⟩
   ·simp only[ci,decide_false];refine W3 t0 t2 t3 ?_;intro b16 hb16;refine W3 t0 t2 t3 ?_;refine gu (ss:=[[36],[40]]) (A7.put hb16) ah (by decide) ?_;have:cc=r.isAt T [[36],[40]]:=by rw[hcc];simp[ci]
    rw[← this];refine W3 t0 t2 t3 ?_;exact⟨A7.put hb16,K7.put hb16⟩
  ·rintro⟨t,ds⟩ h3 ⟨hd,t0,t2,t3,t19,A8,K8⟩;simp only at hd t0 t2 t3 t19;subst hd;have c9:=K8.c9;have c8:=K8.c8;cases cc
   ·have fin:(m,r)=aX T U s:=by
     rw[← hk];cases k with
     |zero=>rfl
     |succ k=>rw[catN,if_neg (of_decide_eq_false hcc.symm)]
    rw[← fin]at hq;refine W7 t0 t2 t3 t19 c9 c8 kf ?_;obtain⟨A9,k9⟩:=K8.ret A8 (.cells (nodeC m kv) false);exact⟨_,Sub.refl,hq _ _ A9 k9⟩
   ·have hc:=of_decide_eq_true hcc.symm;have ek:(r.cur T).k≠0:=by
     rcases hc with e|e
     ·simp at e;omega
     ·rcases at_k e with e|e<;>omega
    have e0:r.err=0:=iM ek;have nl:=kQ W ek sr;obtain⟨k,rfl⟩:∃k',k=k'+1:=⟨k-1,by have:=hr e0;omega⟩;rw[catN,if_pos hc]at hk;simp only at hk;refine W7 t0 t2 t3 t19 c9 c8 kf ?_;refine C.run _ _ _ _ _ _ A8.re sr lr fun h6 v2 A9 k9=>?_;have f3:=C.fwd r sr lr;have a3:=C.adv r sr lr;have A9':=A8.back A9;have K9:=K8.keep A9;obtain⟨kv2,rfl,k9b⟩:=k9.inv;have k9':=K8.back A8 k9b;have kf2:=k9b.flat;have c9':=K9.c9;refine W6 t0 t2 t3 c9' kf kf2 ?_;intro bs hbs;have nbs:=af hbs c9';refine W6 t0 t2 t3 c9' kf kf2 ?_;refine aS [99,97,116] (l:=[m,(gI T U r).1]) rfl ?_;have kr:=K9.row A9' hbs (l:=[m,(gI T U r).1]) (by simp) ((CellsV.one (NodeV.of K9.kids)).app (CellsV.one (NodeV.of k9')));have K10:=(K9.put (o:=.cells (nodeC m kv++nodeC (gI T U r).1 kv2) false) hbs).store (m':=nodeM [99,97,116] [m,(gI T U r).1]) kr;refine W6 t0 t2 t3 c9' kf kf2 ?_;refine⟨(k,nodeM [99,97,116] [m,(gI T U r).1],(gI T U r).2),by show k<k+1;omega,hk,fun e=>?_,f3.ok,lr.fwd f3,(A9'.put hbs).over K.z9 K.n9,_,K10⟩;rcases a3 e0 with d|d
    ·have:=hr e0
     show T.length<(gI T U r).2.i+k
     omega
    ·exact absurd e d
theorem Ba(U:PF)(s:PS):inM T U s=inN T (T.length+1) (fB T U s).1 (fB T U s).2:=by unfold inM;rfl
theorem Uw(W:TkOk T N){U:PF}(C:FC T N n c 107 (fB T U)):FC T N n c 99 (inM T U):=by
 refine⟨fun h0 h p tb s Q A hs hl hq=>?_,fun s hs hl=>(C.fwd s hs hl).trans (Bc W _ (C.fwd s hs hl).ok),fun s hs hl=>(C.adv s hs hl).left (Bc W _ (C.fwd s hs hl).ok)⟩;have hy:=Ba (T:=T) U s;generalize inM T U s=y0 at hq hy;refine AC.fn' (g:=g99) rfl (by simp only[List.length_cons,List.length_nil,g99];decide) ?_;simp only[g99,Mir.Ab.all];refine W0 ?_;intro b8 hb8;have z8:=A.new hb8;have A1:=A.put (o:=AObj.cells Z4 false) hb8;refine W0 ?_;refine C.run _ _ _ _ _ _ A1.re hs hl fun h1 v A2 k2=>?_;have F1:=C.fwd s hs hl;generalize fB T U s=x0 at hy k2 A2 F1;have A3:=A1.back A2;have h8:=A2.keep (Ne.symm (A.ne hb8)) (b:=b8) (o:=.cells Z4 false) ah;obtain⟨kv,rfl,k3⟩:=k2.inv;have kf:=k3.flat;refine W0 ?_;intro b9 hb9;have n89:b8≠b9:=af hb9 h8;have K:AccAt h0 (hadd h1 b9 (.cells (nodeC x0.1 kv) false)) p b8 b9 x0.1 kv:=
  ⟨by rw[ae n89];exact h8,z8,Ne.symm (A.ne hb8),ah,A3.new hb9,Ne.symm (A3.ne hb9),n89,KidsV.move (fun x o z nx hx=>⟨by
   rw[show hset _ p none x=_ from if_neg nx]at z;exact pW (af hb9 hx) (fun e=>by rw[e]at z;simp[hadd,hset]at z) (A1.new z),by rw[ae (af hb9 hx)];exact hx⟩) k3⟩
 refine W1 kf ?_;refine E.cut AC.mono (fun ex a' h'=>ex=.exit 0∧a'.d=[]∧a'.t 2=.ptr b8 0∧a'.t 3=.ptr b9 0∧PAt h0 h' p tb T (y0).2∧∃kv,AccAt h0 h' p b8 b9 (y0).1 kv) ?_ ?_
 ·refine E.loopX AC.mono (fun(x:Nat × Tree × PS) a' h'=>inN T x.1 x.2.1 x.2.2=y0∧(x.2.2.err=0→T.length<x.2.2.i+x.1)∧SOk T N x.2.2∧PAt h0 h' p tb T x.2.2∧(∃kv,AccAt h0 h' p b8 b9 x.2.1 kv)∧a'.d=[]∧a'.t 0=.ptr p 0∧a'.t 2=.ptr b8 0∧a'.t 3=.ptr b9 0) (fun x=>x.1) (T.length+1,x0.1,x0.2) ?_ ?_
  ·refine⟨hy.symm,fun _=>by show T.length<x0.2.i+(T.length+1);omega,F1.ok,A3.put hb9,⟨kv,K⟩,rfl,rfl,rfl,rfl⟩
  ·rintro⟨k,m,r⟩ ⟨t,ds⟩ h2 ⟨hk,hr,sr,A5,⟨kv,K5⟩,hd,t0,t2,t3⟩;simp only at hk hr sr A5 K5 hd t0 t2 t3;subst hd;have kf:=K5.kids.flat;refine W3 t0 t2 t3 ?_;refine aO A5.re [105,110] fun h3 A6=>?_;cases e:r.isAt T [[105,110]]
   ·simp only[e,if_false,Bool.false_eq_true]at A6;have fin:(m,r)=y0:=by
     rw[← hk];cases k with
     |zero=>rfl
     |succ k=>rw[inN,if_neg (by rw[e];decide)]
    rw[← fin];refine W3 t0 t2 t3 ?_;exact⟨A5.back A6,_,K5.keep A6⟩
   ·simp only[e,if_true]at A6;have e0:r.err=0:=iF e;have ek:(r.cur T).k≠0:=by rcases at_k e with e|e<;>omega
    have nl:=kQ W ek sr;obtain⟨k,rfl⟩:∃k',k=k'+1:=⟨k-1,by have:=hr e0;omega⟩;rw[inN,if_pos e]at hk;simp only at hk;have A6':=A5.back A6;have K6:=K5.keep A6;have c9:=K6.c9;have f1:=ak W sr;have a1:=gU W sr e;refine W5 t0 t2 t3 c9 kf ?_;intro b10 hb10;have n910:=af hb10 c9;have A7:=A6'.put (o:=AObj.cells [.int .i64 5] false) hb10;have K7:=K6.put (o:=AObj.cells [.int .i64 5] false) hb10;refine W5 t0 t2 t3 c9 kf ?_;refine oW (ks:=[5]) A7.re ah (by decide) fun h4 A8=>?_;have A8':=A7.back A8;have K8:=K7.keep A8;have c9':=K8.c9;have f2:=dU W f1.ok [5];refine W5 t0 t2 t3 c9' kf ?_;intro bs hbs;have nbs:=af hbs c9';refine W5 t0 t2 t3 c9' kf ?_;refine aQ [105,110] _ rfl ?_;have kr:=K8.row A8' hbs (l:=[m]) (by simp) (CellsV.one (NodeV.of K8.kids));have K10:=(K8.put (o:=.cells (nodeC m kv) false) hbs).store (m':=aN [105,110] (PS.name T (r.step T) [5]).1 [m]) kr;refine W5 t0 t2 t3 c9' kf ?_;refine⟨(k,aN [105,110] (PS.name T (r.step T) [5]).1 [m],(PS.name T (r.step T) [5]).2),by show k<k+1;omega,hk,fun e=>?_,f2.ok,(A8'.put hbs).over K8.z9 K8.n9,_,K10⟩;have:=f2.le;rcases a1 e0 with d|d
    ·have:=hr e0
     show T.length<(PS.name T (r.step T) [5]).2.i+k
     omega
    ·exact absurd (f2.err e) d
 ·rintro ex ⟨t,ds⟩ h3 ⟨rfl,hd,t2,t3,A8,kv,K8⟩;simp only at hd t2 t3;subst hd;have c9:=K8.c9;have c8:=K8.c8;have kf:=K8.kids.flat;refine W5 t2 t3 c9 c8 kf ?_;obtain⟨A9,k9⟩:=K8.ret A8 (.cells (nodeC (y0).1 kv) false);exact⟨_,Sub.refl,hq _ _ A9 k9⟩
end
section
open Mir
variable{h:H}{Q:V→H→Prop}{h0 h':H}{p tb:Nat}{T:List Tokn}{s s':PS}{N n c:Nat}
theorem AccAt.ret'{b8 b9:Nat}{m:Tree}{kv:V}(K:AccAt h0 h p b8 b9 m kv)(A:PAt h0 h p tb T s){m':Tree}{kv':V}(k:KidsV (gg h0 b8 b9) h p m'.kids kv')(o:AObj):PAt h0 (hadd h b8 o) p tb T s∧NodeV h0 (hadd h b8 o) p m' (.agg (nodeC m' kv')):=
 ⟨A.over K.z8 K.n8,NodeV.of (KidsV.move (fun x o z nx hx=>⟨(dM z).2.2,by rw[ae (dM z).2.1];exact hx⟩) k)⟩
def relStep(T:List Tokn)(C:PF)(x:Tree × PS):Tree × PS:=
 if(x.2.cur T).k=8∧¬((x.2.cur T).t=[62]∧x.2.flat=true)then match relOps.lookup (x.2.cur T).t with
  |none=>x
  |some op=>(nodeM op [x.1,(C (x.2.step T)).1],(C (x.2.step T)).2)
 else x
theorem lL(U:PF)(s:PS):uY T U s=relStep T (aX T U) (aX T U s):=by unfold uY relStep;rfl
theorem uM(W:TkOk T N){C:PF}(hf:∀s,SOk T N s→lvl n c s→Fwd T N s (C s).2){x:Tree × PS}(hs:SOk T N x.2)(hl:lvl n c x.2):Fwd T N x.2 (relStep T C x).2:=by
 unfold relStep;split
 ·split
  ·exact Fwd.refl hs
  ·have f1:=ak W hs;exact f1.trans (hf _ f1.ok (hl.fwd f1))
 ·exact Fwd.refl hs
theorem TE(W:TkOk T N){U:PF}(C:FC T N n c 106 (aX T U)):FC T N n c 116 (uY T U):=by
 refine⟨fun h0 h p tb s Q A hs hl hq=>?_,fun s hs hl=>?_,fun s hs hl=>?_⟩
 ·have hy:=lL (T:=T) U s;generalize uY T U s=y0 at hq hy;have F1:=C.fwd s hs hl;have R1:=C.run;have f3:=C.fwd;generalize aX T U=M at hy F1 R1 f3;refine AC.fn' (g:=KT) rfl (by simp only[List.length_cons,List.length_nil,KT];decide) ?_;simp only[KT,Mir.Ab.all];refine W0 ?_;intro b8 hb8;have z8:=A.new hb8;have A1:=A.put (o:=AObj.cells Z4 false) hb8;refine W0 ?_;refine R1 _ _ _ _ _ _ A1.re hs hl fun h1 v A2 k2=>?_;generalize M s=x0 at hy k2 A2 F1;obtain⟨m,r⟩:=x0;simp only at hy k2 A2 F1;have A3:=A1.back A2;have h8:=A2.keep (Ne.symm (A.ne hb8)) (b:=b8) (o:=.cells Z4 false) ah;obtain⟨kv,rfl,k3⟩:=k2.inv;have kf:=k3.flat;refine W0 ?_;intro b9 hb9;have n89:b8≠b9:=af hb9 h8;have K:AccAt h0 (hadd h1 b9 (.cells (nodeC m kv) false)) p b8 b9 m kv:=
   ⟨by rw[ae n89];exact h8,z8,Ne.symm (A.ne hb8),ah,A3.new hb9,Ne.symm (A3.ne hb9),n89,KidsV.move (fun x o z nx hx=>⟨by
    rw[show hset _ p none x=_ from if_neg nx]at z;exact pW (af hb9 hx) (fun e=>by rw[e]at z;simp[hadd,hset]at z) (A1.new z),by rw[ae (af hb9 hx)];exact hx⟩) k3⟩
  have A4:=A3.put (o:=.cells (nodeC m kv) false) hb9;have c9:=K.c9;have c8:=K.c8;refine W1 kf ?_;generalize hadd h1 b9 _=h2 at K A4 c9 c8⊢;refine dL A4 ?_;rw[jd];refine W0 ?_;intro b10 hb10;refine W0 ?_;have A5:=A4.put (o:=AObj.cells [.int .i64 (r.cur T).k,.str (r.cur T).t,.int .i64 (r.cur T).a] false) hb10;have K5:=K.put (o:=AObj.cells [.int .i64 (r.cur T).k,.str (r.cur T).t,.int .i64 (r.cur T).a] false) hb10;intro b11 hb11;have n1011:b10≠b11:=fun e=>by rw[← e]at hb11;simp[hadd,hset]at hb11
  have m0:aK (KC.one EqC.str) (V.str [60]) []=some none:=rfl;have m1:aK (KC.one EqC.str) (V.str [60,61]) [(V.str [60],V.str [108,101,115,115],0)]=some none:=rfl;have m2:aK (KC.one EqC.str) (V.str [61,61]) [(V.str [60],V.str [108,101,115,115],0),(V.str [60,61],V.str [108,101,115,115,101,113],1)]=some none:=rfl;have m3:aK (KC.one EqC.str) (V.str [33,61]) [(V.str [60],V.str [108,101,115,115],0),(V.str [60,61],V.str [108,101,115,115,101,113],1),(V.str [61,61],V.str [101,113,117,97,108],2)]=some none:=rfl;have m4:aK (KC.one EqC.str) (V.str [62]) [(V.str [60],V.str [108,101,115,115],0),(V.str [60,61],V.str [108,101,115,115,101,113],1),(V.str [61,61],V.str [101,113,117,97,108],2),(V.str [33,61],V.str [110,111,116,101,113,117,97,108],3)]=some none:=rfl;have m5:aK (KC.one EqC.str) (V.str [62,61]) [(V.str [60],V.str [108,101,115,115],0),(V.str [60,61],V.str [108,101,115,115,101,113],1),(V.str [61,61],V.str [101,113,117,97,108],2),(V.str [33,61],V.str [110,111,116,101,113,117,97,108],3),(V.str [62],V.str [103,114,101,97,116,101,114],4)]=some none:=rfl;have A6:=A5.put (o:=.map (aI relOps 0) 6) hb11;have K6:=K5.put (o:=.map (aI relOps 0) 6) hb11;have c9':=K6.c9;have c8':=K6.c8;have hp:=A4.obj;unfold psC at hp;have n10:=A4.ne hb10;have n11:=A5.ne hb11;have mo:=kL (ops:=relOps) (by decide) (r.cur T).t;unfold relStep at hy;simp only at hy;have fin:(m,r)=y0→∃h4,Mir.Sub h4 (hadd (hadd (hadd h2 b10 (AObj.cells [.int .i64 (r.cur T).k,.str (r.cur T).t,.int .i64 (r.cur T).a] false)) b11 (.map (aI relOps 0) 6)) b8 (.cells (nodeC m kv) false))∧Q (.agg (nodeC m kv)) h4:=fun e=>by
   rw[← e]at hq;obtain⟨A9,k9⟩:=K6.ret A6 (.cells (nodeC m kv) false);exact⟨_,Sub.refl,hq _ _ A9 k9⟩
  have em:aI relOps 0=[(V.str [60],V.str [108,101,115,115],0),(V.str [60,61],V.str [108,101,115,115,101,113],1),(V.str [61,61],V.str [101,113,117,97,108],2),(V.str [33,61],V.str [110,111,116,101,113,117,97,108],3),(V.str [62],V.str [103,114,101,97,116,101,114],4),(V.str [62,61],V.str [103,114,101,97,116,101,114,101,113],5)]:=rfl;rw[em]at mo fin;have n910:=af hb10 c9;have n911:=af hb11 K5.c9;have n810:=af hb10 c8;have n811:=af hb11 K5.c8
  by_cases c8':(r.cur T).k=8
  ·rcases mo with⟨e1,e2⟩|⟨v,i,e1,e2,e3⟩
   ·have e:(m,r)=y0:=by rw[hy];split<;>first|rw[e2]|rfl
    refine W8 m0 m1 m2 m3 m4 m5 e1 (An2 c9 (An2 c8 (An2 kf hp))) ?_;exact fin e
   ·by_cases go:(r.cur T).t=[62]∧r.flat=true
    ·have e:(m,r)=y0:=by rw[hy,if_neg (by simp[go])]
     have cg:((r.cur T).t=[62])=True:=eq_true go.1;rw[go.2]at hp;refine W8 m0 m1 m2 m3 m4 m5 e1 (An2 e3 (An2 c9 (An2 c8 (An2 kf (An2 hp cg))))) ?_;exact fin e
    rw[if_pos ⟨c8',go⟩,e2]at hy;simp only at hy;have go':(((r.cur T).t=[62])=True∧r.flat=false)∨((r.cur T).t=[62])=False:=by
     by_cases cg:(r.cur T).t=[62]
     ·exact .inl ⟨eq_true cg,by cases e:r.flat with|false=>rfl|true=>exact absurd ⟨cg,e⟩ go⟩
     ·exact .inr (eq_false cg)
    have nxt:∀h4,PAt (hset (hadd (hadd h2 b10 (AObj.cells [.int .i64 (r.cur T).k,.str (r.cur T).t,.int .i64 (r.cur T).a] false)) b11 (.map (aI relOps 0) 6)) p none) h4 p tb T (r.step T)→True:=fun _ _=>trivial;rcases go' with⟨cg,cf⟩|cg
    all_goals
     try rw[cf]at hp
     refine W8 m0 m1 m2 m3 m4 m5 e1 (An2 e3 (An2 c9 (An2 c8 (An2 kf (An2 hp cg))))) ?_;refine aZ A6.re fun h4 A7=>?_;have A7':=A6.back A7;have K7:=K6.keep A7;have c9'':=K7.c9;have f1:=ak W F1.ok;have l1:=(hl.fwd F1).fwd f1;refine W2 c9'' kf ?_;refine R1 _ _ _ _ _ _ A7'.re f1.ok l1 fun h6 v2 A9 k9=>?_;have A9':=A7'.back A9;have K9:=K7.keep A9;generalize M (r.step T)=x1 at hy k9 A9 A9';obtain⟨kv2,rfl,k9b⟩:=k9.inv;have k9':=K7.back A7' k9b;have kf2:=k9b.flat;have c9x:=K9.c9;have c8x:=K9.c8;refine W3 c9x kf kf2 ?_;intro bs hbs;have nbs:=af hbs c9x;have nbs8:=af hbs c8x;refine W4 c9x c8x kf kf2 ?_;refine aS v (l:=[m,x1.1]) rfl ?_;have kr:=K9.row A9' hbs (l:=[m,x1.1]) (by simp) ((CellsV.one (NodeV.of K9.kids)).app (CellsV.one (NodeV.of k9')));obtain⟨A10,k10⟩:=(K9.put (o:=.cells (nodeC m kv++nodeC x1.1 kv2) false) hbs).ret' (A9'.put hbs) (m':=nodeM v [m,x1.1]) kr (.cells (nodeC (nodeM v [m,x1.1]) (.sl bs 0 4 2)) false);rw[hy]at hq;refine W4 c9x c8x kf kf2 ?_;exact⟨_,Sub.refl,hq _ _ A10 k10⟩
  ·have e:(m,r)=y0:=by rw[hy,if_neg (by simp[c8'])]
   rcases mo with⟨e1,e2⟩|⟨v,i,e1,e2,e3⟩
   ·refine W8 m0 m1 m2 m3 m4 m5 e1 (An2 c9 (An2 c8 (An2 kf hp))) ?_;exact fin e
   ·refine W8 m0 m1 m2 m3 m4 m5 e1 (An2 c9 (An2 c8 (An2 kf hp))) ?_;exact fin e
 ·rw[lL];have F1:=C.fwd s hs hl;exact F1.trans (uM W C.fwd F1.ok (hl.fwd F1))
 ·rw[lL];have F1:=C.fwd s hs hl;exact(C.adv s hs hl).left (uM W C.fwd F1.ok (hl.fwd F1))
end
section
open Mir
variable{h:H}{Q:V→H→Prop}{h0 h1 h':H}{p tb:Nat}{T:List Tokn}{s s':PS}{N n c:Nat}
theorem AccAt.start{b8 b9:Nat}{m:Tree}{kv:V}(A:PAt h0 h p tb T s)(h8:h b8=some (.cells Z4 false))(z8:h0 b8=none)(n8:b8≠p)(A':PAt (hset h p none) h' p tb T s')(k:KidsV (hset h p none) h' p m.kids kv)(hb9:h' b9=none):
  AccAt h0 (hadd h' b9 (.cells (nodeC m kv) false)) p b8 b9 m kv:=by
 have h8':=A'.keep n8 h8;have A3:=A.back A';exact⟨by rw[ae (af hb9 h8')];exact h8',z8,n8,ah,A3.new hb9,Ne.symm (A3.ne hb9),af hb9 h8',KidsV.move (fun x o z nx hx=>⟨by
  rw[show hset _ p none x=_ from if_neg nx]at z;exact pW (af hb9 hx) (fun e=>by rw[e,h8]at z;cases z) (A.new z),by rw[ae (af hb9 hx)];exact hx⟩) k⟩
theorem AccAt.setp{b8 b9:Nat}{m:Tree}{kv:V}(K:AccAt h0 h p b8 b9 m kv){o:AObj}:AccAt h0 (hadd h p o) p b8 b9 m kv:=
 ⟨by rw[ae K.n8];exact K.c8,K.z8,K.n8,by rw[ae K.n9];exact K.c9,K.z9,K.n9,K.n89,KidsV.move (fun x o z nx hx=>⟨z,by rw[ae nx];exact hx⟩) K.kids⟩
def SlAt(h0 h:H)(p:Nat)(l:List Tree)(v:V):Prop:=
 (l=[]∧v=.nilsl)∨∃b cs,l≠[]∧h0 b=none∧b≠p∧v=.sl b 0 4 l.length∧h b=some (.cells cs false)∧CellsV (hadd h0 b (.cells [] false)) h p l cs
theorem ax{b x:Nat}{o:AObj}(hc:hadd h0 b o x=none):x≠b∧h0 x=none:=by
 have n:x≠b:=fun e=>by rw[e]at hc;simp[hadd,hset]at hc
 exact⟨n,by rw[ae n]at hc;exact hc⟩
theorem SlAt.kids{l:List Tree}{v:V}(k:SlAt h0 h p l v):KidsV h0 h p l v:=by
 rcases k with⟨rfl,rfl⟩|⟨b,cs,h1,h2,h3,rfl,h5,h6⟩
 ·exact .nil
 ·exact .sl h1 h2 h3 h5 (CellsV.move (fun x o z nx hx=>⟨(ax z).2,hx⟩) h6)
theorem SlAt.keep{l:List Tree}{v:V}(k:SlAt h0 h p l v)(A':PAt (hset h p none) h' p tb T s'):SlAt h0 h' p l v:=by
 rcases k with k|⟨b,cs,h1,h2,h3,h4,h5,h6⟩
 ·exact .inl k
 ·exact .inr ⟨b,cs,h1,h2,h3,h4,A'.keep h3 h5,h6.keep A'⟩
theorem SlAt.put{l:List Tree}{v:V}(k:SlAt h0 h p l v){b:Nat}{o:AObj}(hb:h b=none):SlAt h0 (hadd h b o) p l v:=by
 rcases k with k|⟨b',cs,h1,h2,h3,h4,h5,h6⟩
 ·exact .inl k
 ·exact .inr ⟨b',cs,h1,h2,h3,h4,by rw[ae (af hb h5)];exact h5,h6.put hb⟩
theorem SlAt.set{l:List Tree}{v:V}(k:SlAt h0 h p l v){o:AObj}:SlAt h0 (hadd h p o) p l v:=by
 rcases k with k|⟨b',cs,h1,h2,h3,h4,h5,h6⟩
 ·exact .inl k
 ·exact .inr ⟨b',cs,h1,h2,h3,h4,by rw[ae h3];exact h5,CellsV.move (fun x o z nx hx=>⟨z,by rw[ae nx];exact hx⟩) h6⟩
theorem SlAt.ll{l:List Tree}{v:V}(k:SlAt h0 h p l v):llE v=some (.int .i64 l.length):=by
 rcases k with⟨rfl,rfl⟩|⟨b,cs,h1,h2,h3,rfl,h5,h6⟩
 ·rfl
 ·simp[GR]
theorem SlAt.first(A:PAt h0 h p tb T s){bn ba:Nat}{o:AObj}{t:Tree}{ds:List V}(hn:h bn=none)(ha:hadd h bn o ba=none)(k:CellsV h0 h p [t] ds):
  SlAt h0 (hadd (hadd h bn o) ba (.cells ds false)) p [t] (.sl ba 0 4 1):=by
 have na:ba≠bn:=fun e=>by rw[e]at ha;simp[hadd,hset]at ha
 have ha':h ba=none:=by rw[ae na]at ha;exact ha
 exact .inr ⟨ba,ds,by simp,A.new ha',Ne.symm (A.ne ha'),rfl,ah,CellsV.move (fun x o' z nx hx=>⟨by rw[ae (af ha' hx)];exact z,by rw[ae (af ha' hx),ae (af hn hx)];exact hx⟩) k⟩
theorem SlAt.more(A:PAt h0 h p tb T s){b bn ba:Nat}{o:AObj}{l:List Tree}{t:Tree}{cs ds:List V}(hl:l≠[])(k:CellsV (hadd h0 b (.cells [] false)) h p l cs)(hn:h bn=none)(nab:ba≠b)(ha:hadd h bn o ba=none)(kt:CellsV (hadd h0 b (.cells [] false)) h p [t] ds):
  SlAt h0 (hadd (hset (hadd h bn o) b none) ba (.cells (cs++ds) false)) p (l++[t]) (.sl ba 0 4 (l.length+1)):=by
 have na:ba≠bn:=fun e=>by rw[e]at ha;simp[hadd,hset]at ha
 have ha':h ba=none:=by rw[ae na]at ha;exact ha
 exact .inr ⟨ba,_,by simp,A.new ha',Ne.symm (A.ne ha'),by simp,ah,CellsV.move (fun x o' z nx hx=>⟨by rw[ae (af ha' hx)];exact(ax z).2,by
  rw[ae (af ha' hx)];show hset _ b none x=_;unfold hset;rw[if_neg (ax z).1];show hadd h bn o x=_;rw[ae (af hn hx)];exact hx⟩) (k.app kt)⟩
theorem CellsV.off(A:PAt h0 h p tb T s){b:Nat}{o:AObj}(hb:h b=some o){l:List Tree}{ds:List V}(k:CellsV (hset h p none) h' p l ds):CellsV (hadd h0 b (.cells [] false)) h' p l ds:=
 CellsV.move (fun x o' z nx hx=>⟨by
  rw[show hset _ p none x=_ from if_neg nx]at z;rw[ae (fun e=>by rw[e,hb]at z;cases z)];exact A.new z,hx⟩) k
theorem CellsV.wk0(A:PAt h0 h p tb T s){l:List Tree}{ds:List V}(k:CellsV (hset h p none) h' p l ds):CellsV h0 h' p l ds:=
 CellsV.move (fun x o' z nx hx=>⟨by rw[show hset _ p none x=_ from if_neg nx]at z;exact A.new z,hx⟩) k
theorem y8(W:TkOk T N){M:PF}(hf:∀s,SOk T N s→lvl n c s→Fwd T N s (M s).2)(e:Txt):∀(k:Nat) {l:List Tree} {s:PS},SOk T N s→lvl n c s→Fwd T N s (listN T M e k l s).2
 |0,_,_,hs,_=>Fwd.refl hs
 |k+1,l,s,hs,hl=>by
   unfold listN;split
   ·have f1:Fwd T N s (if l=[]then s else(s.expect T [44]).lines T):=by
     split
     ·exact Fwd.refl hs
     ·exact(ay W hs _).trans (aA W (ay W hs _).ok)
    have f2:=f1.trans (hf _ f1.ok (hl.fwd f1));have f3:=f2.trans (aA W f2.ok);exact f3.trans (y8 W hf e k f3.ok (hl.fwd f3))
   ·exact Fwd.refl hs
theorem oU(W:TkOk T N){M:PF}(hf:∀s,SOk T N s→lvl n c s→Fwd T N s (M s).2)(e:Txt)(hs:SOk T N s)(hl:lvl n c s):Fwd T N s (listM T M e s).2:=by
 unfold listM;have f1:=eX hs false;have f2:=f1.trans (aA W f1.ok);have f3:=f2.trans (y8 W hf e (T.length+1) (l:=[]) f2.ok (hl.fwd f2));have f4:=f3.trans (ay W f3.ok e);exact f4.trans (eX f4.ok _)
theorem eY(W:TkOk T N){M:PF}(hf:∀s,SOk T N s→lvl n c s→Fwd T N s (M s).2)(e:Txt)(hs:SOk T N s)(hl:lvl n c s):Fwd T N s (insideM T M e s).2:=by
 unfold insideM;have f1:=eX hs false;have f2:=f1.trans (aA W f1.ok);have f3:=f2.trans (hf _ f2.ok (hl.fwd f2));have f4:=f3.trans (aA W f3.ok);have f5:=f4.trans (ay W f4.ok e);exact f5.trans (eX f5.ok _)
theorem kH(W:TkOk T N){M:PF}(C:FC T N n c 46 M)(e:Txt)(A:PAt h0 h p tb T s)(hs:SOk T N s)(hl:lvl n c s)
  (hq:∀h' v,PAt h0 h' p tb T (insideM T M e s).2→NodeV h0 h' p (insideM T M e s).1 v→Q v h'):AC pg (.fn 84) [.ptr p 0,.str e] h Q:=by
 unfold insideM at hq;have f1:=eX hs false;have f2:=f1.trans (aA W f1.ok);have hp:=A.obj;unfold psC at hp;refine AC.fn' (g:=g84) rfl (by simp only[List.length_cons,List.length_nil,g84];decide) ?_;simp only[g84,Mir.Ab.all];refine W0 ?_;intro b8 hb8;have np:=A.ne hb8;have z8:=A.new hb8;have A1:=(A.put (o:=AObj.cells Z4 false) hb8).setF false;refine W1 hp ?_;refine bI A1.re W.last fun h1 A2=>?_;have A2':=A1.back A2;have h8:=A2.keep (Ne.symm np) (b:=b8) (o:=.cells Z4 false) (by rw[ae (Ne.symm np)];exact ah);refine W0 ?_;refine C.run _ _ _ _ _ _ A2'.re f2.ok (hl.fwd f2) fun h2 v A3 k3=>?_;have f3:=f2.trans (C.fwd _ f2.ok (hl.fwd f2));generalize M (PS.lines T {s with flat:=false})=x0 at hq A3 k3 f3;obtain⟨m,r⟩:=x0;simp only at hq A3 k3 f3;have A3':=A2'.back A3;obtain⟨kv,rfl,kb⟩:=k3.inv;have kf:=kb.flat;refine W0 ?_;intro b9 hb9;have K:=AccAt.start A2' h8 z8 (Ne.symm np) A3 kb hb9;have A4:=A3'.put (o:=.cells (nodeC m kv) false) hb9;refine W1 kf ?_;generalize hadd h2 b9 _=h3 at K A4⊢;refine bI A4.re W.last fun h4 A5=>?_;have A5':=A4.back A5;have K5:=K.keep A5;refine W0 ?_;refine bT A5'.re e fun h5 A6=>?_;have A6':=A5'.back A6;have K6:=K5.keep A6;have hp6:=A6'.obj;unfold psC at hp6;have A7:=A6'.setF s.flat;have K7:=K6.setp (o:=.cells [.sl tb 0 3 T.length,.int .i64 ((r.lines T).expect T e).i,.int .i64 ((r.lines T).expect T e).deep,.bool s.flat,.int .i64 ((r.lines T).expect T e).err,.int .i64 ((r.lines T).expect T e).bad] false);have c9:=K6.c9;have c8:=K6.c8;have n9:=K6.n9;have n89:=K6.n89;obtain⟨A8,k8⟩:=K7.ret A7 (.cells (nodeC m kv) false);refine W4 hp6 c9 c8 kf ?_;exact⟨_,Sub.refl,hq _ _ A8 k8⟩
theorem Bo(W:TkOk T N){M:PF}(C:FC T N n c 46 M)(e:Txt)(A:PAt h0 h p tb T s)(hs:SOk T N s)(hl:lvl n c s)
  (hq:∀h' v,PAt h0 h' p tb T (listM T M e s).2→SlAt h0 h' p (listM T M e s).1 v→Q v h'):AC pg (.fn 105) [.ptr p 0,.str e] h Q:=by
 unfold listM at hq;have f1:=eX hs false;have f2:=f1.trans (aA W f1.ok);have hp:=A.obj;unfold psC at hp;have A1:=A.setF false;generalize hx:listN T M e (T.length+1) [] (PS.lines T {s with flat:=false})=x at hq;refine AC.fn' (g:=KN) rfl (by simp only[List.length_cons,List.length_nil,KN];decide) ?_;simp only[KN,Mir.Ab.all];refine W1 hp ?_;refine bI A1.re W.last fun h1 A2=>?_;have A2':=A1.back A2;refine W0 ?_;refine E.cut AC.mono (fun ex a' h'=>ex=.exit 0∧a'.d=[]∧a'.t 0=.ptr p 0∧a'.t 1=.str e∧a'.t 6=.bool s.flat∧PAt h0 h' p tb T x.2∧SlAt h0 h' p x.1 (a'.t 5)) ?_ ?_
 ·refine E.loopX AC.mono (fun(y:Nat × List Tree × PS) a' h'=>listN T M e y.1 y.2.1 y.2.2=x∧(y.2.2.err=0→T.length<y.2.2.i+y.1∧y.2.1.length≤y.2.2.i)∧SOk T N y.2.2∧lvl n c y.2.2∧PAt h0 h' p tb T y.2.2∧SlAt h0 h' p y.2.1 (a'.t 5)∧a'.d=[]∧a'.t 0=.ptr p 0∧a'.t 1=.str e∧a'.t 6=.bool s.flat) (fun y=>y.1) (T.length+1,[],PS.lines T {s with flat:=false}) ?_ ?_
  ·exact⟨hx,fun _=>⟨by show T.length<(PS.lines T {s with flat:=false}).i+(T.length+1);omega,Nat.zero_le _⟩,f2.ok,hl.fwd f2,A2',.inl ⟨rfl,rfl⟩,rfl,rfl,rfl,rfl⟩
  ·rintro⟨k,l,r⟩ ⟨t,ds⟩ h2 ⟨hk,hr,sr,lr,A3,S3,hd,t0,t1,t6⟩;simp only at hk hr sr lr A3 S3 hd t0 t1 t6;subst hd;have hp3:=A3.obj;unfold psC at hp3;have hlt:=A3.lt;have sm:=A3.small
   by_cases e0:r.err=0
   ·obtain⟨hr1,hr2⟩:=hr e0;refine W4 t0 t1 t6 hp3 ?_;intro ba hba;refine W4 t0 t1 t6 hp3 ?_;refine gu (ss:=[e]) (A3.put hba) ah (by simp) ?_;obtain⟨k,rfl⟩:∃k',k=k'+1:=⟨k-1,by omega⟩;cases ea:r.isAt T [e]
    ·rw[listN,if_pos ⟨e0,ea⟩]at hk;simp only at hk;have A4:=A3.put (o:=.cells [.str e] false) hba;have S4:=S3.put (o:=.cells [.str e] false) hba;have ll:=S3.ll;refine W4 t0 t1 t6 ll ?_;generalize hr1:(if l=[]then r else(r.expect T [44]).lines T)=r1 at hk;have g1:Fwd T N r r1:=by
      rw[← hr1];split
      ·exact Fwd.refl sr
      ·exact(ay W sr _).trans (aA W (ay W sr _).ok)
     generalize hv5:t 5=v5 at S4⊢;refine dn AC.mono (fun ex a' h'=>ex=.nm∧a'.d=[]∧a'.t 0=.ptr p 0∧a'.t 1=.str e∧a'.t 6=.bool s.flat∧a'.t 5=v5∧PAt h0 h' p tb T r1∧SlAt h0 h' p l v5) ?_ ?_
     ·by_cases el:l=[]
      ·rw[if_pos el]at hr1;subst hr1;have:l.length=0:=by rw[el];rfl
       refine W3 t0 t1 t6 ?_;exact⟨hv5,A4,S4⟩
      ·rw[if_neg el]at hr1;subst hr1;have:0<l.length:=List.length_pos_iff.2 el;refine W3 t0 t1 t6 ?_;refine bT A4.re [44] fun h4 A5=>?_;refine W3 t0 t1 t6 ?_;refine bI (A4.back A5).re W.last fun h5 A6=>?_;refine W3 t0 t1 t6 ?_;exact⟨hv5,(A4.back A5).back A6,(S4.keep A5).keep A6⟩
     ·rintro ex ⟨t,ds⟩ h4 ⟨rfl,hd,t0,t1,t6,t5,A5,S5⟩;simp only at hd t0 t1 t6 t5;subst hd;refine W4 t0 t1 t6 t5 ?_;refine C.run _ _ _ _ _ _ A5.re g1.ok (lr.fwd g1) fun h5 v A6 k6=>?_;have g2:=g1.trans (C.fwd _ g1.ok (lr.fwd g1));have a2:=Adv.right g1 (C.adv _ g1.ok (lr.fwd g1)) (C.fwd _ g1.ok (lr.fwd g1));generalize M r1=y at hk A6 k6 g2 a2;obtain⟨m,r2⟩:=y;simp only at hk A6 k6 g2 a2;have A6':=A5.back A6;obtain⟨kv,rfl,kb⟩:=k6.inv;have kf:=kb.flat;refine W5 t0 t1 t6 t5 kf ?_;intro bn hbn;have f5:=aA W g2.ok;have bnd:(r2.lines T).err=0→T.length<(r2.lines T).i+k∧(l++[m]).length≤(r2.lines T).i:=fun e1=>by
       have:=f5.le;rw[List.length_append]
       show _∧l.length+1≤_
       rcases a2 e0 with d|d
       ·omega
       ·exact absurd (f5.err e1) d
      rcases S5 with⟨el,ev⟩|⟨b,cs,q1,q2,q3,q4,q5,q6⟩
      ·subst el;refine W5 t0 t1 t6 t5 ev ?_;intro ba hba;have S6:=SlAt.first A6' (o:=.cells (nodeC m kv) false) hbn hba (CellsV.wk0 A5 (CellsV.one k6));have A7:=(A6'.put (o:=.cells (nodeC m kv) false) hbn).put (o:=.cells (nodeC m kv) false) hba;refine W5 t0 t1 t6 t5 ev ?_;refine bI A7.re W.last fun h7 A8=>?_;refine W5 t0 t1 t6 t5 ev ?_;exact⟨(k,[m],r2.lines T),by show k<k+1;omega,hk,bnd,(g2.trans f5).ok,lr.fwd (g2.trans f5),A7.back A8,S6.keep A8⟩
      ·have q5':=A6.keep q3 q5;have cl:=q6.len;have nbn:=af hbn q5';have tk:List.take (l.length*4) cs=cs:=List.take_of_length_le (by omega);refine W7 t0 t1 t6 t5 q4 q5' cl ?_;intro ba nab hba;have S6:=SlAt.more A6' (o:=.cells (nodeC m kv) false) q1 (q6.keep A6) hbn nab hba (CellsV.off A5 q5 (CellsV.one k6));have A7:=((A6'.put (o:=.cells (nodeC m kv) false) hbn).lose q2 q3).put (o:=.cells (cs++nodeC m kv) false) (by unfold hset;rw[if_neg nab];exact hba);refine W6 t0 t1 t6 t5 q4 tk ?_;refine bI A7.re W.last fun h7 A8=>?_;refine W4 t0 t1 t6 t5 ?_;exact⟨(k,l++[m],r2.lines T),by show k<k+1;omega,hk,bnd,(g2.trans f5).ok,lr.fwd (g2.trans f5),A7.back A8,S6.keep A8⟩
    ·have fin:(l,r)=x:=by rw[← hk,listN,if_neg (by simp[ea])]
     rw[← fin];refine W3 t0 t1 t6 ?_;exact⟨A3.put hba,S3.put hba⟩
   ·have fin:(l,r)=x:=by
     rw[← hk];cases k with
     |zero=>rfl
     |succ k=>rw[listN,if_neg (by simp[e0])]
    rw[← fin];refine W4 t0 t1 t6 hp3 ?_;exact⟨A3,S3⟩
 ·rintro ex ⟨t,ds⟩ h2 ⟨rfl,hd,t0,t1,t6,A3,S3⟩;simp only at hd t0 t1 t6 S3;subst hd;refine W3 t0 t1 t6 ?_;refine bT A3.re e fun h4 A4=>?_;have A4':=A3.back A4;have S4:=S3.keep A4;have hp4:=A4'.obj;unfold psC at hp4;have A5:=A4'.setF s.flat;have S5:=S4.set (o:=.cells [.sl tb 0 3 T.length,.int .i64 (x.2.expect T e).i,.int .i64 (x.2.expect T e).deep,.bool s.flat,.int .i64 (x.2.expect T e).err,.int .i64 (x.2.expect T e).bad] false);refine W4 t0 t1 t6 hp4 ?_;have out:rtE (t 5)=some (t 5):=by rcases S3 with⟨_,e⟩|⟨_,_,_,_,_,e,_⟩<;>rw[e]<;>rfl
  refine W1 out ?_;exact⟨_,Sub.refl,hq _ _ A5 S5⟩
end
end Go.Proofs.YtkfbldogmgofoaaGreatDoor
namespace Mir
section
mutual
def TQ:Tree→Txt
 |.nd o t _ l=>40::o++((if t=[]then []else 32::UInt8.ofNat (48+t.length)::58::t)++(G9 l++[41]))
def G9:List Tree→Txt
 |[]=>[]
 |k::l=>32::TQ k++G9 l
end
mutual
def tsz:Tree→Nat
 |.nd _ _ _ l=>cO l+1
def cO:List Tree→Nat
 |[]=>0
 |k::l=>tsz k+cO l+1
end
end
end Mir
namespace Go.Proofs.YtkfbldogmgofoaaGreatDoor
section
open Mir
variable{h:H}{Q:V→H→Prop}{h0 g:H}{p b:Nat}{t:Txt}
theorem CellsV.get:∀{l:List Tree} {cs:List V},CellsV h0 h p l cs→∀{i:Nat},i<l.length→∃kv,(cs.drop (i*4)).take 4=nodeC (l.getD i .zero) kv∧KidsV h0 h p (l.getD i .zero).kids kv
 |_,_,.nil,i,hi=>absurd hi (Nat.not_lt_zero _)
 |_,_,.cons (kv:=kv) k c,0,_=>⟨kv,rfl,k⟩
 |_,_,.cons k c,i+1,hi=>by
   obtain⟨kv,e,k'⟩:=c.get (i:=i) (by simpa using hi);refine⟨kv,?_,k'⟩;rw[show(i+1)*4=i*4+4 from by omega];exact e
theorem KidsV.ll{l:List Tree}{v:V}(k:KidsV h0 h p l v):llE v=some (.int .i64 l.length):=by cases k<;>rfl
theorem iw:∀{l:List Tree} {i:Nat},i<l.length→tsz (l.getD i .zero)<cO l
 |[],_,hi=>absurd hi (Nat.not_lt_zero _)
 |k::l,0,_=>by show tsz k<tsz k+cO l+1;omega
 |k::l,i+1,hi=>by have:=iw (l:=l) (i:=i) (by simpa using hi);show tsz (l.getD i .zero)<tsz k+cO l+1;omega
end
section
open Mir
variable{h g:H}{p q:Nat}{Q:V→H→Prop}{fm ib am fb:Nat}{F:List RFn}{A:List Sym}{U:List Txt}{r:RSt}
def plC(l:Pl):List V:=[.bool l.loop,.bool l.fn,.bool l.rule]
theorem lJ:∀(t:Tree) (v:V),nodeC t v=[.str t.op,.str t.text,.int .i64 t.at',v]:=fun _ _=>rfl
theorem UM:∀s:Sym,symV s=.agg [.int .i64 (fnZ s.1),.str s.2]:=fun _=>rfl
theorem P9:∀l:Pl,plC l=[.bool l.loop,.bool l.fn,.bool l.rule]:=fun _=>rfl
def CK(F:List RFn)(A:List Sym)(U:List Txt)(p q fm ib am fb:Nat)(t:Tree):Prop:=
 ∀(g h:H) (r:RSt) (pl:Pl) (v:V) (fn:Option Nat) (Q:V→H→Prop),(∀k,fn=some k→k<F.length)→RvB g q fm ib fb F→ArrB g am A→NodeV (fun _=>none) g q t v→tsz t≤1000000→(∀n∈nodes t,n.text∈U)→RvS g h p fm ib am U r →
   (∀h',RvS g h' p fm ib am U (dK F (fun s=>decide (s∈A)) fn t pl r)→Q (.tup []) h')→AC pg (.fn 52) [.ptr p 0,.int .i64 (fnZ fn),v,.agg (plC pl)] h Q
theorem FI{F:List RFn}{A:Sym→Bool}{fn:Option Nat}{l:List Tree}{i:Nat}(h:i<l.length){pl:Pl}{r:RSt}:dH F A fn (l.drop i) pl r=dH F A fn (l.drop (i+1)) pl (dK F A fn (l.getD i .zero) pl r):=by
 rw[List.drop_eq_getElem_cons h,dH,List.getD_eq_getElem?_getD,List.getElem?_eq_getElem h];rfl
theorem fA:∀{l:List Tree},l.length≤cO l
 |[]=>Nat.zero_le _
 |k::l=>by rw[cO];have:=fA (l:=l);simp only[List.length_cons];omega
theorem qC{t:Tree}:t∈nodes t:=by cases t;unfold nodes;simp
theorem kN{l:List Tree}{i:Nat}(h:i<l.length){n:Tree}(hn:n∈nodes (l.getD i .zero)):n∈bP l:=by
 induction l generalizing i with
 |nil=>cases h
 |cons k l ih =>
   unfold bP;cases i with
   |zero=>exact List.mem_append.2 (.inl hn)
   |succ i=>exact List.mem_append.2 (.inr (ih (by simpa using h) hn))
theorem JW{o t:Txt}{a:Nat}{l:List Tree}(IH:∀i<l.length,CK F A U p q fm ib am fb (l.getD i .zero))(hcall:o=[99,97,108,108]→∀(g h:H) (r:RSt) (pl:Pl) (kv:V) (fn:Option Nat) (Q:V→H→Prop),(∀k,fn=some k→k<F.length)→RvB g q fm ib fb F→ArrB g am A→KidsV (fun _=>none) g q l kv→cO l≤1000000→(∀n∈nodes (.nd o t a l),n.text∈U)→RvS g h p fm ib am U r →
  (∀h',RvS g h' p fm ib am U (match eH F t with
   |none=>r.fail a 11
   |some k=>if(bD F k).length<l.length then r.fail a 11 else gq F (fun s=>decide (s∈A)) fn k a (bD F k) l pl r)→Q (.tup []) h')→AC pg (.fn 76) [.ptr p 0,.int .i64 (fnZ fn),.agg [.str o,.str t,.int .i64 a,kv],.agg (plC pl)] h Q):CK F A U p q fm ib am fb (.nd o t a l):=by
 intro g h r pl v fn Q hf B A0 N hsz hU S hq;obtain⟨kv,rfl,kb⟩:=N.inv;simp only[Tree.op,Tree.text,Tree.at',Tree.kids]at kb⊢;have kf:=kb.flat;have hsl:cO l≤1000000:=by rw[tsz]at hsz;omega
 have hll:l.length≤1000000:=Nat.le_trans fA hsl;have hUk:∀n∈bP l,n.text∈U:=fun n hn=>hU n (by unfold nodes;simp[hn]);have hUt:t∈U:=hU _ qC;rw[dK]at hq;refine AC.fn' (g:=g52) rfl (by simp only[List.length_cons,List.length_nil,g52];decide) ?_;simp only[g52,Mir.Ab.all];refine W2 kf P9 ?_;intro b6 hb6;have S1:=S.box (o:=AObj.cells [V.str o,V.str t,V.int .i64 a,kv] false) hb6;have sg:=aG (o:=AObj.cells [V.str o,V.str t,V.int .i64 a,kv] false) (S.new hb6);have c6:hadd g b6 (AObj.cells [V.str o,V.str t,V.int .i64 a,kv] false) b6=some (AObj.cells [V.str o,V.str t,V.int .i64 a,kv] false):=ah;generalize hadd g b6 (AObj.cells [V.str o,V.str t,V.int .i64 a,kv] false)=g1 at S1 sg c6;generalize hadd h b6 (AObj.cells [V.str o,V.str t,V.int .i64 a,kv] false)=h1 at S1⊢;refine W2 kf P9 ?_;intro b7 hb7;have S2:=S1.box (o:=AObj.cells [V.bool pl.loop,V.bool pl.fn,V.bool pl.rule] false) hb7;have sg2:=aG (o:=AObj.cells [V.bool pl.loop,V.bool pl.fn,V.bool pl.rule] false) (S1.new hb7);have d6:=sg2 _ _ c6;have c7:hadd g1 b7 (AObj.cells [V.bool pl.loop,V.bool pl.fn,V.bool pl.rule] false) b7=some (AObj.cells [V.bool pl.loop,V.bool pl.fn,V.bool pl.rule] false):=ah;have z7:g b7=none:=by
  cases e:g b7 with
  |none=>rfl
  |some x=>have:=S1.new hb7;rw[sg _ _ e]at this;cases this
 replace sg2:Sub g _:=fun x o hx=>sg2 _ _ (sg _ _ hx);have n67:b6≠b7:=af (S1.new hb7) c6;generalize hadd g1 b7 (AObj.cells [V.bool pl.loop,V.bool pl.fn,V.bool pl.rule] false)=g2 at S2 sg2 d6 c7;generalize hadd h1 b7 (AObj.cells [V.bool pl.loop,V.bool pl.fn,V.bool pl.rule] false)=h2 at S2⊢;clear S1 sg c6;obtain⟨ov,ho,hov⟩:=S2.obj;unfold rvC at ho
 by_cases c0:r.err=0
 case neg =>
  rw[if_pos c0]at hq;refine W2 ho c0 ?_;exact⟨_,Sub.refl,hq _ (S2.back sg2)⟩
 rw[if_neg (fun x=>x c0)]at hq;have h6:=S2.sub _ _ d6;have h7:=S2.sub _ _ c7;have B2:=B.mono sg2;have A2:=A0.mono sg2;generalize hfin:(ite (o=[118,97,114]) _ _:RSt)=fin at hq;refine W3 ho c0 h6 ?_;refine dn AC.mono (fun ex a' h'=>(ex=.ret∧a'.d=[]∧RvS g h' p fm ib am U fin)∨(ex=.nm∧a'.d=[]∧a'.t 0=.ptr p 0∧a'.t 1=.int .i64 (fnZ fn)∧a'.t 6=.ptr b6 0∧a'.t 7=.ptr b7 0∧∃g' pl' r',dH F (fun s=>decide (s∈A)) fn l pl' r'=fin∧RvS g' h' p fm ib am U r'∧Sub g g'∧g' b6=some (.cells [.str o,.str t,.int .i64 a,kv] false)∧g' b7=some (.cells (plC pl') false))) ?_ ?_
 ·have hover:∀{h':H} {r':RSt} {b1 b2 b3:Bool},RvS g2 h' p fm ib am U r'→RvS (hadd g2 b7 (AObj.cells [V.bool b1,V.bool b2,V.bool b3] false)) (hadd h' b7 (AObj.cells [V.bool b1,V.bool b2,V.bool b3] false)) p fm ib am U r'∧Sub g (hadd g2 b7 (AObj.cells [V.bool b1,V.bool b2,V.bool b3] false))∧hadd g2 b7 (AObj.cells [V.bool b1,V.bool b2,V.bool b3] false) b6=some (.cells [.str o,.str t,.int .i64 a,kv] false):=fun S=>⟨S.over c7,fun x o hx=>by rw[ae (af z7 hx)];exact sg2 _ _ hx,by rw[ae n67];exact d6⟩
  by_cases c1:o=[118,97,114]
  ·rw[if_pos c1]at hfin;have f1:(o=[118,97,114])=True:=eq_true c1;refine W2 f1 h6 ?_;refine kV B2 A2 S2 hf kf hUt false fun h' S'=>?_;refine W0 ?_;exact .inr ⟨g2,pl,_,hfin,S',sg2,d6,c7⟩
  rw[if_neg c1]at hfin;have f1:(o=[118,97,114])=False:=eq_false c1
  by_cases c2:arrOp o
  ·rw[if_pos c2]at hfin
   by_cases e1:o=[105,110,100,101,120]
   ·have e1:=eq_true e1;refine W3 f1 e1 h6 ?_;refine kV B2 A2 S2 hf kf hUt true fun h' S'=>?_;refine W0 ?_;exact .inr ⟨g2,pl,_,hfin,S',sg2,d6,c7⟩
   by_cases e2:o=[105,110]
   ·have e1:=eq_false e1;have e2:=eq_true e2;refine W4 f1 e1 e2 h6 ?_;refine kV B2 A2 S2 hf kf hUt true fun h' S'=>?_;refine W0 ?_;exact .inr ⟨g2,pl,_,hfin,S',sg2,d6,c7⟩
   ·have e3:=eq_true (c2.elim (fun x=>absurd x e1) fun x=>x.elim (fun x=>absurd x e2) id);have e1:=eq_false e1;have e2:=eq_false e2;refine W5 f1 e1 e2 e3 h6 ?_;refine kV B2 A2 S2 hf kf hUt true fun h' S'=>?_;refine W0 ?_;exact .inr ⟨g2,pl,_,hfin,S',sg2,d6,c7⟩
  rw[if_neg c2]at hfin;have e1:(o=[105,110,100,101,120])=False:=eq_false fun x=>c2 (.inl x);have e2:(o=[105,110])=False:=eq_false fun x=>c2 (.inr (.inl x));have e3:(o=[110,97,109,101])=False:=eq_false fun x=>c2 (.inr (.inr x))
  by_cases c3:o=[102,111,114,105,110]
  ·rw[if_pos c3]at hfin;have f3:(o=[102,111,114,105,110])=True:=eq_true c3;refine W6 f1 e1 e2 e3 f3 h6 ?_;refine kV (o:=[118,97,114]) (kv:=.nilsl) B2 A2 S2 hf rfl hUt false fun h' S'=>?_;have h7':=S'.sub _ _ c7;refine W1 h7' ?_;obtain⟨x1,x2,x3⟩:=hover (b1:=true) (b2:=pl.fn) (b3:=pl.rule) S';exact .inr ⟨_,⟨true,pl.fn,pl.rule⟩,_,hfin,x1,x2,x3,ah⟩
  rw[if_neg c3]at hfin;have f3:(o=[102,111,114,105,110])=False:=eq_false c3
  by_cases c4:o=[119,104,105,108,101]∨o=[102,111,114]
  ·rw[if_pos c4]at hfin;obtain⟨x1,x2,x3⟩:=hover (b1:=true) (b2:=pl.fn) (b3:=pl.rule) S2
   by_cases u1:o=[119,104,105,108,101]
   ·have u1:=eq_true u1;refine W7 f1 e1 e2 e3 f3 u1 h7 ?_;exact .inr ⟨_,⟨true,pl.fn,pl.rule⟩,_,hfin,x1,x2,x3,ah⟩
   ·have u2:=eq_true (c4.elim (fun x=>absurd x u1) id);have u1:=eq_false u1;refine W8 f1 e1 e2 e3 f3 u1 u2 h7 ?_;exact .inr ⟨_,⟨true,pl.fn,pl.rule⟩,_,hfin,x1,x2,x3,ah⟩
  rw[if_neg c4]at hfin;have u1:(o=[119,104,105,108,101])=False:=eq_false fun x=>c4 (.inl x);have u2:(o=[102,111,114])=False:=eq_false fun x=>c4 (.inr x)
  by_cases c5:o=[99,97,108,108]
  ·rw[if_pos c5]at hfin;have f5:(o=[99,97,108,108])=True:=eq_true c5;refine W8 f1 e1 e2 e3 f3 u1 u2 (An2 f5 (An2 h6 h7)) ?_;refine hcall c5 g2 h2 r pl kv fn _ hf B2 A2 (kb.mono sg2) hsl hU S2 fun h' S'=>?_;refine W0 ?_;exact .inl (hfin ▸ S'.back sg2)
  rw[if_neg c5]at hfin;have f5:(o=[99,97,108,108])=False:=eq_false c5
  by_cases c6:o=[98,114,101,97,107]∨o=[99,111,110,116,105,110,117,101]
  ·rw[if_pos c6]at hfin
   by_cases w1:o=[98,114,101,97,107]
   ·have w1:=eq_true w1;cases hb:pl.loop
    ·rw[if_neg (by rw[hb];decide)]at hfin;rw[hb]at h7;refine W8 f1 e1 e2 e3 f3 u1 u2 (An2 f5 (An2 w1 (An2 h7 h6))) ?_;refine dA S2 fun h' S'=>?_;refine W0 ?_;exact .inr ⟨g2,pl,_,hfin,S',sg2,d6,c7⟩
    ·rw[if_pos hb]at hfin;rw[hb]at h7;refine W8 f1 e1 e2 e3 f3 u1 u2 (An2 f5 (An2 w1 h7)) ?_;exact .inr ⟨g2,pl,_,hfin,S2,sg2,d6,c7⟩
   ·have w2:=eq_true (c6.elim (fun x=>absurd x w1) id);have w1:=eq_false w1;cases hb:pl.loop
    ·rw[if_neg (by rw[hb];decide)]at hfin;rw[hb]at h7;refine W8 f1 e1 e2 e3 f3 u1 u2 (An2 f5 (An2 w1 (An2 w2 (An2 h7 h6)))) ?_;refine dA S2 fun h' S'=>?_;refine W0 ?_;exact .inr ⟨g2,pl,_,hfin,S',sg2,d6,c7⟩
    ·rw[if_pos hb]at hfin;rw[hb]at h7;refine W8 f1 e1 e2 e3 f3 u1 u2 (An2 f5 (An2 w1 (An2 w2 h7))) ?_;exact .inr ⟨g2,pl,_,hfin,S2,sg2,d6,c7⟩
  rw[if_neg c6]at hfin;have w1:(o=[98,114,101,97,107])=False:=eq_false fun x=>c6 (.inl x);have w2:(o=[99,111,110,116,105,110,117,101])=False:=eq_false fun x=>c6 (.inr x)
  by_cases c7':o=[114,101,116,117,114,110]
  ·rw[if_pos c7']at hfin;have f7:=eq_true c7';cases hb:pl.fn
   ·rw[if_neg (by rw[hb];decide)]at hfin;rw[hb]at h7;refine W8 f1 e1 e2 e3 f3 u1 u2 (An2 f5 (An2 w1 (An2 w2 (An2 f7 (An2 h7 h6))))) ?_;refine dA S2 fun h' S'=>?_;refine W0 ?_;exact .inr ⟨g2,pl,_,hfin,S',sg2,d6,c7⟩
   ·rw[if_pos hb]at hfin;rw[hb]at h7;refine W8 f1 e1 e2 e3 f3 u1 u2 (An2 f5 (An2 w1 (An2 w2 (An2 f7 h7)))) ?_;exact .inr ⟨g2,pl,_,hfin,S2,sg2,d6,c7⟩
  rw[if_neg c7']at hfin;have f7:(o=[114,101,116,117,114,110])=False:=eq_false c7'
  by_cases c8:o=[110,101,120,116]
  ·rw[if_pos c8]at hfin;have f8:=eq_true c8;cases hb:pl.rule
   ·rw[if_neg (by rw[hb];decide)]at hfin;rw[hb]at h7;refine W8 f1 e1 e2 e3 f3 u1 u2 (An2 f5 (An2 w1 (An2 w2 (An2 f7 (An2 f8 (An2 h7 h6)))))) ?_;refine dA S2 fun h' S'=>?_;refine W0 ?_;exact .inr ⟨g2,pl,_,hfin,S',sg2,d6,c7⟩
   ·rw[if_pos hb]at hfin;rw[hb]at h7;refine W8 f1 e1 e2 e3 f3 u1 u2 (An2 f5 (An2 w1 (An2 w2 (An2 f7 (An2 f8 h7))))) ?_;exact .inr ⟨g2,pl,_,hfin,S2,sg2,d6,c7⟩
  rw[if_neg c8]at hfin;have f8:(o=[110,101,120,116])=False:=eq_false c8;refine W8 f1 e1 e2 e3 f3 u1 u2 (An2 f5 (An2 w1 (An2 w2 (An2 f7 f8)))) ?_;exact .inr ⟨g2,pl,r,hfin,S2,sg2,d6,c7⟩
 ·rintro ex ⟨t',d'⟩ h3 (⟨rfl,hd,S3⟩|⟨rfl,hd,t0,t1,t6,t7,g',pl',r',hk,S3,sg3,e6,e7⟩)
  ·dsimp only at hd;subst hd;refine W0 ?_;exact⟨_,Sub.refl,hq _ S3⟩
  ·dsimp only at hd t0 t1 t6 t7;subst hd;have k6:=S3.sub _ _ e6;have k7:=S3.sub _ _ e7;have ll:=kb.ll;refine W6 t0 t1 t6 t7 k6 ll ?_;refine E.loopX AC.mono (fun(i:Nat) a' h'=>i≤l.length∧a'.d=[]∧a'.t 0=.ptr p 0∧a'.t 1=.int .i64 (fnZ fn)∧a'.t 7=.ptr b7 0∧a'.t 82=kv∧a'.t 83=.int .i64 l.length∧a'.t 84=.int .i64 i∧∃r,dH F (fun s=>decide (s∈A)) fn (l.drop i) pl' r=fin∧RvS g' h' p fm ib am U r) (fun i=>l.length-i) 0 ?_ ?_
   ·exact⟨Nat.zero_le _,rfl,t0,t1,t7,rfl,rfl,rfl,r',by simpa using hk,S3⟩
   ·rintro i ⟨ta,ds⟩ h4 ⟨hi,hd,t0,t1,t7,t82,t83,t84,r4,hk4,S4⟩;dsimp only at hd t0 t1 t7 t82 t83 t84;subst hd
    by_cases ci:i<l.length
    ·have kb':=kb.mono sg3;cases kb' with
     |nil=>cases ci
     |sl q1 q2 q3 q4 q5 =>
       obtain⟨kv',e4,k5⟩:=q5.get ci;have q6:=S4.sub _ _ q4;have cl:=q5.len;rw[FI ci]at hk4;have hN:=IH i ci;have sz:=iw ci;have hUi:=fun n hn=>hUk n (kN ci hn);generalize l.getD i .zero=m at e4 k5 hk4 hN sz hUi;refine W8 t0 t1 t7 t82 t83 t84 q6 (An2 e4 cl) ?_;intro b9 hb9;have kf5:=k5.flat;have S5:=S4.box (o:=AObj.cells (nodeC m kv') false) hb9;have s5:=aG (o:=AObj.cells (nodeC m kv') false) (S4.new hb9);have e9:hadd g' b9 (AObj.cells (nodeC m kv') false) b9=_:=ah;refine W8 t0 t1 t7 t82 t83 t84 kf5 lJ ?_;unfold nodeC at S5 s5 e9;have f7:=s5 _ _ e7;have sg5:Sub g _:=fun x o hx=>s5 _ _ (sg3 _ _ hx);generalize hadd g' b9 _=g5 at S5 s5 e9 f7 sg5;generalize hadd h4 b9 _=h5 at S5⊢;have j9:=S5.sub _ _ e9;have j7:=S5.sub _ _ f7;unfold plC at j7;refine W5 t0 t1 t7 j9 j7 ?_;refine hN g5 h5 r4 pl' _ fn _ hf (B.mono sg5) (A0.mono sg5) (NodeV.of (k5.mono s5)) (by omega) hUi S5 fun h6 S6=>?_;refine W6 t0 t1 t7 t82 t83 t84 ?_;exact⟨i+1,by omega,ci,by simp,_,hk4,S6.back s5⟩
    ·have:i=l.length:=by omega
     subst this;rw[List.drop_length,dH]at hk4;subst hk4;refine W2 t83 t84 ?_;exact⟨_,Sub.refl,hq _ (S4.back sg3)⟩
end
section
open Mir
variable{h g:H}{p q:Nat}{Q:V→H→Prop}{fm ib am fb:Nat}{F:List RFn}{A:List Sym}{U:List Txt}{r:RSt}
theorem o5{F:List RFn}{x:Txt}{k:Nat}(h:eH F x=some k):k<F.length:=by
 unfold eH at h;exact(List.findIdx?_eq_some_iff_getElem.1 h).1
theorem PsV.ll{g h:H}{l:List Txt}{v:V}(k:PsV g h p l v):llE v=some (.int .i64 l.length):=by
 rcases k with⟨rfl,rfl⟩|⟨b,h1,h2,h3,rfl,h5⟩
 ·rfl
 ·simp[GR]
theorem EC{F:List RFn}{A:Sym→Bool}{fn:Option Nat}{k a:Nat}{ps:List Txt}{l:List Tree}{i:Nat}(h:i<l.length){pl:Pl}{r:RSt}:gq F A fn k a (ps.drop i) (l.drop i) pl r =
  (if A (some k,ps.getD i [])=false then gq F A fn k a (ps.drop (i+1)) (l.drop (i+1)) pl (dK F A fn (l.getD i .zero) pl r)
  else if(l.getD i .zero).op≠[118,97,114]then r.fail a 11
  else gq F A fn k a (ps.drop (i+1)) (l.drop (i+1)) pl (iE F A fn (l.getD i .zero).text (l.getD i .zero).at' true r)):=by
 rw[List.drop_eq_getElem_cons h,gq,List.tail_drop,show(ps.drop i).headD []=ps.getD i []from by rw[List.headD_eq_head?_getD,List.head?_drop,List.getD_eq_getElem?_getD],
  show l[i]=l.getD i .zero from by rw[List.getD_eq_getElem?_getD,List.getElem?_eq_getElem h];rfl]
theorem NH{o t:Txt}{a:Nat}{l:List Tree}(IH:∀i<l.length,CK F A U p q fm ib am fb (l.getD i .zero))(g h:H)(r:RSt)(pl:Pl)(kv:V)(fn:Option Nat)(Q:V→H→Prop)(hf:∀k,fn=some k→k<F.length)(B:RvB g q fm ib fb F)(A0:ArrB g am A)(kb:KidsV (fun _=>none) g q l kv)(hsl:cO l≤1000000)(hU:∀n∈nodes (.nd o t a l),n.text∈U)(S:RvS g h p fm ib am U r)
  (hq:∀h',RvS g h' p fm ib am U (match eH F t with
   |none=>r.fail a 11
   |some k=>if(bD F k).length<l.length then r.fail a 11 else gq F (fun s=>decide (s∈A)) fn k a (bD F k) l pl r)→Q (.tup []) h'):AC pg (.fn 76) [.ptr p 0,.int .i64 (fnZ fn),.agg [.str o,.str t,.int .i64 a,kv],.agg (plC pl)] h Q:=by
 have kf:=kb.flat;have hll:l.length≤1000000:=Nat.le_trans fA hsl;have hUk:∀n∈bP l,n.text∈U:=fun n hn=>hU n (by unfold nodes;simp[hn]);refine AC.fn' (g:=g76) rfl (by simp only[List.length_cons,List.length_nil,g76];decide) ?_;simp only[g76,Mir.Ab.all];refine W2 kf P9 ?_;intro b6 hb6;have S1:=S.box (o:=AObj.cells [V.str o,V.str t,V.int .i64 a,kv] false) hb6;have sg:=aG (o:=AObj.cells [V.str o,V.str t,V.int .i64 a,kv] false) (S.new hb6);have c6:hadd g b6 (AObj.cells [V.str o,V.str t,V.int .i64 a,kv] false) b6=some (AObj.cells [V.str o,V.str t,V.int .i64 a,kv] false):=ah;generalize hadd g b6 (AObj.cells [V.str o,V.str t,V.int .i64 a,kv] false)=g1 at S1 sg c6;generalize hadd h b6 (AObj.cells [V.str o,V.str t,V.int .i64 a,kv] false)=h1 at S1⊢;refine W2 kf P9 ?_;intro b7 hb7;have S2:=S1.box (o:=AObj.cells [V.bool pl.loop,V.bool pl.fn,V.bool pl.rule] false) hb7;have sg2:=aG (o:=AObj.cells [V.bool pl.loop,V.bool pl.fn,V.bool pl.rule] false) (S1.new hb7);have d6:=sg2 _ _ c6;have c7:hadd g1 b7 (AObj.cells [V.bool pl.loop,V.bool pl.fn,V.bool pl.rule] false) b7=some (AObj.cells [V.bool pl.loop,V.bool pl.fn,V.bool pl.rule] false):=ah;replace sg2:Sub g _:=fun x o hx=>sg2 _ _ (sg _ _ hx);generalize hadd g1 b7 (AObj.cells [V.bool pl.loop,V.bool pl.fn,V.bool pl.rule] false)=g2 at S2 sg2 d6 c7;generalize hadd h1 b7 (AObj.cells [V.bool pl.loop,V.bool pl.fn,V.bool pl.rule] false)=h2 at S2⊢;clear S1 sg c6;have B2:=B.mono sg2;have A2:=A0.mono sg2;obtain⟨ov,ho,hov⟩:=S2.obj;unfold rvC at ho;have h6:=S2.sub _ _ d6;have h7:=S2.sub _ _ c7;obtain⟨es,ck,n,hm,hn⟩:=(B2.mono S2.sub).names.find t;cases hN:eH F t with
 |none =>
   rw[hN]at hn hq;simp only[Option.map_none]at hn;dsimp only at hq;refine W4 ho hm hn h6 ?_;refine dA S2 fun h' S'=>?_;refine W0 ?_;exact⟨_,Sub.refl,hq _ (S'.back sg2)⟩
 |some k =>
   rw[hN]at hn hq;simp only[Option.map_some]at hn;dsimp only at hq;have hk:=o5 hN;have hne:F≠[]:=by intro e;rw[e]at hk;exact absurd hk (Nat.not_lt_zero _)
   obtain⟨cs,gi,gc,FV⟩:=B2.info;have gb:=gc hne;rw[if_neg hne]at gi;have hi:=S2.sub _ _ gi;have hb:=S2.sub _ _ gb;obtain⟨pv,kv',pn,P,K,e⟩:=FV.get hk;have e3:cs[k*7+1]?=some pv:=by
    have:=congrArg (fun l=>l[1]?) e;simpa[List.getElem?_take,List.getElem?_drop]using this
   have ll:=kb.ll;have lp:=P.ll;have pe:(F.getD k default).ps=bD F k:=rfl;rw[pe]at pn P lp
   by_cases cl:(bD F k).length<l.length
   ·rw[if_pos cl]at hq;refine W8 ho hm hn h6 hi hb e3 (An2 ll lp) ?_;refine dA S2 fun h' S'=>?_;refine W0 ?_;exact⟨_,Sub.refl,hq _ (S'.back sg2)⟩
   ·rw[if_neg cl]at hq;refine W8 ho hm hn h6 hi hb e3 (An2 ll lp) ?_;generalize hfin:gq F (fun s=>decide (s∈A)) fn k a (bD F k) l pl r=fin at hq;refine E.loopX AC.mono (fun(i:Nat) a' h'=>i≤l.length∧a'.d=[]∧a'.t 0=.ptr p 0∧a'.t 1=.int .i64 (fnZ fn)∧a'.t 6=.ptr b6 0∧a'.t 7=.ptr b7 0∧a'.t 8=.int .i64 k∧a'.t 47=kv∧a'.t 48=.int .i64 l.length∧a'.t 49=.int .i64 i∧∃r,gq F (fun s=>decide (s∈A)) fn k a ((bD F k).drop i) (l.drop i) pl r=fin∧RvS g2 h' p fm ib am U r) (fun i=>l.length-i) 0 ?_ ?_
    ·exact⟨Nat.zero_le _,rfl,rfl,rfl,rfl,rfl,rfl,rfl,rfl,rfl,r,by simpa using hfin,S2⟩
    ·rintro i ⟨ta,ds⟩ h4 ⟨hi',hd,t0,t1,t6,t7,t8,t47,t48,t49,r4,hk4,S4⟩;dsimp only at hd t0 t1 t6 t7 t8 t47 t48 t49;subst hd
     by_cases ci:i<l.length
     ·have kb':=kb.mono sg2;cases kb' with
      |nil=>cases ci
      |sl q1 q2 q3 q4 q5 =>
        obtain⟨kv',e4,k5⟩:=q5.get ci;have q6:=S4.sub _ _ q4;have cl':=q5.len;rw[EC ci]at hk4;have hN:=IH i ci;have sz:=iw ci;have hUi:=fun n hn=>hUk n (kN ci hn);generalize l.getD i .zero=m at e4 k5 hk4 hN sz hUi;refine W8 t0 t1 t6 t7 t8 t47 t48 (An2 t49 (An2 q6 (An2 e4 cl'))) ?_;intro b11 hb11;have kf5:=k5.flat;have S5:=S4.box (o:=AObj.cells (nodeC m kv') false) hb11;have s5:=aG (o:=AObj.cells (nodeC m kv') false) (S4.new hb11);have e9:hadd g2 b11 (AObj.cells (nodeC m kv') false) b11=_:=ah;refine W8 t0 t1 t6 t7 t8 t47 t48 (An2 t49 (An2 kf5 lJ)) ?_;unfold nodeC at S5 s5 e9;have f7:=s5 _ _ c7;have f6:=s5 _ _ d6;have fi:=s5 _ _ gi;have fb':=s5 _ _ gb;have P5:=P.mono s5;have sg5:Sub g _:=fun x o hx=>s5 _ _ (sg2 _ _ hx);generalize hadd g2 b11 _=g5 at S5 s5 e9 f7 f6 fi fb' sg5 P5;generalize hadd h4 b11 _=h5 at S5⊢;have j9:=S5.sub _ _ e9;have j7:=S5.sub _ _ f7;have j6:=S5.sub _ _ f6;have ji:=S5.sub _ _ fi;have jb:=S5.sub _ _ fb';obtain⟨ov5,ho5,hov5⟩:=S5.obj;unfold rvC at ho5;obtain⟨_,en⟩|⟨bp,np,_,_,rfl,cp⟩:=P5
        ·rw[en]at lp;simp[llE]at lp;omega
        have jp:=S5.sub _ _ cp;have pat:(List.map V.str (bD F k))[i]?=some (V.str ((bD F k).getD i [])):=by
         rw[List.getElem?_map,List.getD_eq_getElem?_getD,List.getElem?_eq_getElem (by omega)];rfl
        have A5:=(A0.mono sg5);have lk:=(A5.mono S5.sub).look (some k,(bD F k).getD i []);dsimp only at lk;rw[show fnZ (some k)=(k:Int)from rfl]at lk;generalize (bD F k).getD i []=x at pat lk hk4;cases hA:decide ((some k,x)∈A)with
        |false =>
          rw[hA]at lk hk4;rw[if_pos rfl]at hk4;refine W8 t0 t1 t6 t7 t8 j9 j7 (An2 ji (An2 jb (An2 jp (An2 pat (An2 ho5 (An2 e3 lk)))))) ?_;refine hN g5 h5 r4 pl _ fn _ hf (B.mono sg5) A5 (NodeV.of (k5.mono s5)) (by omega) hUi S5 fun h6 S6=>?_;refine W8 t0 t1 t6 t7 t8 t47 t48 t49 ?_;exact⟨i+1,by omega,ci,by simp,_,hk4,S6.back s5⟩
        |true =>
          rw[hA]at lk hk4;rw[if_neg (by decide)]at hk4
          by_cases cv:m.op=[118,97,114]
          ·rw[if_neg (fun z=>z cv)]at hk4;refine W8 t0 t1 t6 t7 t8 j9 j7 (An2 ji (An2 jb (An2 jp (An2 pat (An2 ho5 (An2 e3 (An2 lk cv))))))) ?_;refine kV (B.mono sg5) A5 S5 hf kf5 (hUi _ qC) true fun h6 S6=>?_;refine W8 t0 t1 t6 t7 t8 t47 t48 t49 ?_;exact⟨i+1,by omega,ci,by simp,_,hk4,S6.back s5⟩
          ·rw[if_pos cv]at hk4;refine W8 t0 t1 t6 t7 t8 j9 j7 (An2 ji (An2 jb (An2 jp (An2 pat (An2 ho5 (An2 e3 (An2 lk (An2 cv j6)))))))) ?_;refine dA S5 fun h6 S6=>?_;subst hk4;refine W0 ?_;exact⟨_,Sub.refl,hq _ ((S6.back s5).back sg2)⟩
     ·have:i=l.length:=by omega
      subst this;rw[List.drop_length,gq]at hk4;subst hk4;refine W2 t48 t49 ?_;exact⟨_,Sub.refl,hq _ (S4.back sg2)⟩
theorem tY:∀(N:Nat) (t:Tree),tsz t<N→CK F A U p q fm ib am fb t
 |0,_,h=>absurd h (Nat.not_lt_zero _)
 |N+1,.nd o t a l,h=>by
   have IH:∀i<l.length,CK F A U p q fm ib am fb (l.getD i .zero):=fun i hi=>tY N _ (by have:=iw hi;rw[tsz]at h;omega);exact JW IH fun _ g h r pl kv fn Q hf B A0 kb hs hU S hq=>NH IH g h r pl kv fn Q hf B A0 kb hs hU S hq
end
section
open Mir
variable{h g:H}{p q:Nat}{Q:V→H→Prop}{fm ib am fb:Nat}{F:List RFn}{A:List Sym}{U:List Txt}{r:RSt}
theorem Aj{h:H}{b n:Nat}{ss:List Txt}{ro:Bool}{cs:List V}(hb:h b=some (.cells cs ro))(hn:n<1099511627776)(hl:n≤cs.length)(hs:ss.length=n)(hc:∀i (hi:i<ss.length),cs[i]?=some (.str ss[i]))(w:Txt)(hq:Q (.bool (decide (w∈ss))) h):
  AC pg (.fn 39) [.sl b 0 1 n,.str w] h Q:=by
 subst hs;refine AC.fn' (g:=g39) rfl (by simp only[List.length_cons,List.length_nil,g39];decide) ?_;simp only[g39,Mir.Ab.all];refine W0 ?_;refine AC.fn' (g:=g68) rfl (by simp only[List.length_cons,List.length_nil,g68];decide) ?_;simp only[g68,Mir.Ab.all];refine W0 ?_;refine E.loopX AC.mono (fun(i:Nat) a' h'=>i≤ss.length∧h'=h∧a'.d=[]∧a'.t 0=.sl b 0 1 ss.length∧a'.t 1=.str w∧a'.t 7=.int .i64 ss.length∧a'.t 8=.int .i64 i∧w∉ss.take i) (fun i=>ss.length-i) 0 ?_ ?_
 ·exact⟨by omega,rfl,rfl,rfl,rfl,rfl,rfl,by simp⟩
 ·intro i a h' ⟨hi,e,hd,t0,t1,t7,t8,hw⟩;subst e
  by_cases c:i<ss.length
  ·have e:=hc i c
   by_cases e2:w=ss[i]
   ·refine W8 t0 t1 t7 t8 hd hb e e2 ?_;refine⟨_,Sub.refl,?_⟩;rw[decide_eq_true (by rw[e2];exact List.getElem_mem c)]at hq;refine W0 ?_;exact⟨_,Sub.refl,hq⟩
   ·refine W8 t0 t1 t7 t8 hd hb e e2 ?_;refine⟨i+1,by omega,by omega,by congr 1,?_⟩;rw[List.take_succ_eq_append_getElem c,List.mem_append,List.mem_singleton];exact fun x=>x.elim hw e2
  ·refine W5 t0 t1 t7 t8 hd ?_;rw[List.take_of_length_le (by omega)]at hw;refine⟨_,Sub.refl,?_⟩;rw[decide_eq_false hw]at hq
   ((try simp -implicitDefEqProofs only [later,bW,bG,bM]);(repeat (first|simp -implicitDefEqProofs only [go_sem,↓reduceIte,Nat.reduceEqDiff,Nat.reduceAdd,Nat.reduceLeDiff,Nat.reduceLT,Nat.reduceMul,reduceCtorEq,Int.reduceEq,Int.reduceLT,Int.reduceLE,Int.reduceNeg,Int.reduceToNat,Int.reduceMul,Int.reduceAdd,Int.reduceSub]|simp (disch:=(first|omega|(simp only[go_sem];done)|(simp only[lens];omega))) only [cds])))
   exact⟨_,Sub.refl,hq⟩
theorem FW{F:List RFn}{l:List Tree}{i:Nat}(h:i<l.length){r:RSt}{tx:List Txt}(ht:tx=l.map Tree.text):mi F (tx.take i) (l.drop i) r =
  mi F (tx.take (i+1)) (l.drop (i+1)) (if(eH F (l.getD i .zero).text).isSome∨(l.getD i .zero).text∈tx.take i∨(l.getD i .zero).text∈special then r.fail (l.getD i .zero).at' 11 else r):=by
 subst ht;rw[List.drop_eq_getElem_cons h,mi,show l[i]=l.getD i .zero from by rw[List.getD_eq_getElem?_getD,List.getElem?_eq_getElem h];rfl,
  show(l.map Tree.text).take i++[(l.getD i .zero).text]=(l.map Tree.text).take (i+1)from by rw[List.take_succ_eq_append_getElem (by simpa using h)];simp[List.getD_eq_getElem?_getD,List.getElem?_eq_getElem h]]
theorem FunsV.len{l:List RFn}{cs:List V}(k:FunsV g q l cs):cs.length=7*l.length:=by
 induction k with
 |nil=>rfl
 |cons _ _ _ _ ih=>simp only[List.length_cons,ih];omega
theorem LX{F:List RFn}{A:Sym→Bool}{o t:Txt}{a b:Nat}{l:List Tree}{r:RSt}:nJ F A (.nd o t a l) b r=(if o≠[102,117,110,99]then dK F A none (.nd o t a l) ⟨false,false,decide (o=[114,117,108,101])⟩ r
  else if eH F t≠some b then r.fail a 11 else dK F A (some b) (F.getD b default).body ⟨false,true,false⟩ (mi F [] l.dropLast r)):=by unfold nJ;rfl
theorem NJ(B:RvB g q fm ib fb F)(A0:ArrB g am A){t:Tree}{v:V}(N:NodeV (fun _=>none) g q t v)(hsz:tsz t≤1000000)(hU:∀n∈nodes t,n.text∈U)(S:RvS g h p fm ib am U r){before:Nat}
  (hF:t.op=[102,117,110,99]→t.kids≠[]∧before<F.length∧F.getD before default=Mir.fnOf t) (hq:∀h',RvS g h' p fm ib am U (nJ F (fun s=>decide (s∈A)) t before r)→Q (.tup []) h'):AC pg (.fn 32) [.ptr p 0,v,.int .i64 before] h Q:=by
 obtain⟨kv,rfl,kb⟩:=N.inv;obtain⟨o,t,a,l⟩:=t;simp only[Tree.op,Tree.text,Tree.at',Tree.kids]at kb hF⊢;have kf:=kb.flat;have hsl:cO l≤1000000:=by rw[tsz]at hsz;omega
 have hll:l.length≤1000000:=Nat.le_trans fA hsl;have hUk:∀n∈bP l,n.text∈U:=fun n hn=>hU n (by unfold nodes;simp[hn]);rw[LX]at hq;refine AC.fn' (g:=g32) rfl (by simp only[List.length_cons,List.length_nil,g32];decide) ?_;simp only[g32,Mir.Ab.all];refine W1 kf ?_;intro b4 hb4;have S1:=S.box (o:=AObj.cells [V.str o,V.str t,V.int .i64 a,kv] false) hb4;have sg:=aG (o:=AObj.cells [V.str o,V.str t,V.int .i64 a,kv] false) (S.new hb4);have c4:hadd g b4 (AObj.cells [V.str o,V.str t,V.int .i64 a,kv] false) b4=some (AObj.cells [V.str o,V.str t,V.int .i64 a,kv] false):=ah;generalize hadd g b4 (AObj.cells [V.str o,V.str t,V.int .i64 a,kv] false)=g1 at S1 sg c4;generalize hadd h b4 (AObj.cells [V.str o,V.str t,V.int .i64 a,kv] false)=h1 at S1⊢;have h4:=S1.sub _ _ c4;have B1:=B.mono sg;have A1:=A0.mono sg
 by_cases co:o=[102,117,110,99]
 case neg =>
  rw[if_pos (show o≠[102,117,110,99]from co)]at hq;have f1:(o=[102,117,110,99])=False:=eq_false co;refine W2 h4 f1 ?_;refine tY _ _ (Nat.lt_succ_self _) g1 h1 r ⟨false,false,decide (o=[114,117,108,101])⟩ _ none _ (fun k e=>by cases e) B1 A1 (.mk (kb.mono sg)) hsz hU S1 fun h' S'=>?_;refine W0 ?_;exact⟨_,Sub.refl,hq _ (S'.back sg)⟩
 rw[if_neg (show ¬(o≠[102,117,110,99])from fun x=>x co)]at hq;have f1:(o=[102,117,110,99])=True:=eq_true co;obtain⟨l0,hk,hfn⟩:=hF co;have hne:F≠[]:=by intro e;rw[e]at hk;exact absurd hk (Nat.not_lt_zero _)
 obtain⟨ov,ho,hov⟩:=S1.obj;unfold rvC at ho;obtain⟨es,ck,n,hm,hn⟩:=(B1.mono S1.sub).names.find t;obtain⟨m,hN⟩:∃m,eH F t=some m:=by
  cases e:eH F t with
  |some m=>exact⟨m,rfl⟩
  |none =>
    unfold eH at e;rw[List.findIdx?_eq_none_iff]at e;have:=e (F.getD before default) (by rw[List.getD_eq_getElem?_getD,List.getElem?_eq_getElem hk];exact List.getElem_mem hk);rw[hfn]at this;simp[Mir.fnOf,Tree.text]at this
 rw[hN]at hn hq;simp only[Option.map_some]at hn;have hm':=o5 hN;have sF:=B.small
 by_cases cb:m=before
 case neg =>
  rw[if_pos (show some m≠some before from fun x=>cb (Option.some.inj x))]at hq;refine W5 h4 f1 ho hm hn ?_;refine dA S1 fun h' S'=>?_;refine W0 ?_;exact⟨_,Sub.refl,hq _ (S'.back sg)⟩
 subst cb;rw[if_neg (show ¬(some m≠some m)from fun x=>x rfl)]at hq;obtain⟨cs,gi,gc,FV⟩:=B1.info;have gb:=gc hne;rw[if_neg hne]at gi;have hi:=S1.sub _ _ gi;have hb:=S1.sub _ _ gb;obtain⟨pv,kv',pn,P,K,e⟩:=FV.get hk;have pf:pv.flat=true:=by rcases P with⟨_,rfl⟩|⟨b,_,_,_,rfl,_⟩<;>rfl
 have kf':=K.flat;rw[hfn]at e pn P K hq;have e6:(Mir.fnOf (.nd o t a l)).name=t:=rfl;have e7:(Mir.fnOf (.nd o t a l)).ps=l.dropLast.map Tree.text:=rfl;have e8:(Mir.fnOf (.nd o t a l)).body=l.getLastD .zero:=rfl;rw[e7]at pn P;rw[e8]at K hq e;rw[e6]at e;generalize hbd:l.getLastD .zero=bd at K hq e;have hbd':bd=l.getD (l.length-1) .zero:=by
  rw[← hbd,List.getLastD_eq_getLast?,List.getLast?_eq_getElem?,List.getD_eq_getElem?_getD]
 have hl1:0<l.length:=List.length_pos_iff.2 l0;have hUb:∀n∈nodes bd,n.text∈U:=fun n hn=>hUk n (by rw[hbd']at hn;exact kN (by omega) hn);have hszb:tsz bd≤1000000:=by have:=iw (l:=l) (i:=l.length-1) (by omega);rw[← hbd']at this;omega
 have ll:=kb.ll;have cl:=FV.len;refine W8 h4 f1 ho hm hn hi hb (An2 e (An2 pf (An2 kf' cl))) ?_;intro b6 hb6;have S2:=S1.box (o:=AObj.cells [V.str t,pv,V.nilsl,V.str bd.op,V.str bd.text,V.int .i64 bd.at',kv'] false) hb6;have s2:=aG (o:=AObj.cells [V.str t,pv,V.nilsl,V.str bd.op,V.str bd.text,V.int .i64 bd.at',kv'] false) (S1.new hb6);have c6:hadd g1 b6 (AObj.cells [V.str t,pv,V.nilsl,V.str bd.op,V.str bd.text,V.int .i64 bd.at',kv'] false) b6=_:=ah;have d4:=s2 _ _ c4;have sg2:Sub g _:=fun x o hx=>s2 _ _ (sg _ _ hx)
 ((try simp -implicitDefEqProofs only [later,bW,bG,bM]);(repeat (first|simp -implicitDefEqProofs only [go_sem,↓reduceIte,Nat.reduceEqDiff,Nat.reduceAdd,Nat.reduceLeDiff,Nat.reduceLT,Nat.reduceMul,reduceCtorEq,Int.reduceEq,Int.reduceLT,Int.reduceLE,Int.reduceNeg,Int.reduceToNat,Int.reduceMul,Int.reduceAdd,Int.reduceSub,h4,e,pf,kf',ah]|simp (disch:=(first|omega|(simp only[go_sem];done)|(simp only[lens];omega))) only [cds,h4,e,pf,kf',ah])))
 generalize hadd g1 b6 _=g2 at S2 s2 c6 d4 sg2;generalize hadd h1 b6 _=h2 at S2⊢;have B2:=B1.mono s2;have A2:=A1.mono s2;have h4:=S2.sub _ _ d4;have hdl:l.dropLast.length=l.length-1:=List.length_dropLast;generalize hD:l.dropLast=D at hq P pn hdl;generalize htx:D.map Tree.text=tx at P pn;have kb2:=kb.mono sg2;cases kb2 with
 |nil=>exact absurd rfl l0
 |@sl _ bk cs' q1 q2 q3 q4 q5 =>
 have cl':=q5.len;have hl2:((l.length:Int)-1).toNat=D.length:=by omega
 have hl3:(l.length:Int)-1=(D.length:Int):=by omega
 refine W4 h4 ll hl2 hl3 ?_;refine E.loopX AC.mono (fun(i:Nat) a' h'=>i≤D.length∧a'.d=[]∧a'.t 0=.ptr p 0∧a'.t 2=.int .i64 m∧a'.t 6=.ptr b6 0∧a'.t 50=.sl bk 0 4 D.length∧a'.t 51=.int .i64 D.length∧a'.t 52=.int .i64 i∧∃r',mi F (tx.take i) (D.drop i) r'=mi F [] D r∧RvS g2 h' p fm ib am U r') (fun i=>D.length-i) 0 ?_ ?_
 ·exact⟨Nat.zero_le _,rfl,rfl,rfl,rfl,rfl,rfl,rfl,r,by simp,S2⟩
 ·rintro i ⟨ta,ds⟩ h5 ⟨hi',hd,t0,t2,t6,t50,t51,t52,r4,hk4,S4⟩;dsimp only at hd t0 t2 t6 t50 t51 t52;subst hd
  by_cases ci:i<D.length
  ·have ci':i<l.length:=by omega
   obtain⟨kvi,e4,k5⟩:=q5.get ci';have q6:=S4.sub _ _ q4;have hUi:=fun n hn=>hUk n (kN ci' hn);rw[FW ci htx.symm]at hk4;have hDg:D.getD i .zero=l.getD i .zero:=by
    rw[← hD,List.getD_eq_getElem?_getD,List.getD_eq_getElem?_getD,List.getElem?_dropLast,if_pos (by omega)]
   rw[hDg]at hk4;generalize l.getD i .zero=x at e4 k5 hk4 hUi;refine W8 t0 t2 t6 t50 t51 t52 q6 (An2 e4 cl') ?_;intro b8 hb8;have kf5:=k5.flat;have S5:=S4.box (o:=AObj.cells (nodeC x kvi) false) hb8;have s5:=aG (o:=AObj.cells (nodeC x kvi) false) (S4.new hb8);have e8:hadd g2 b8 (AObj.cells (nodeC x kvi) false) b8=_:=ah;refine W8 t0 t2 t6 t50 t51 t52 kf5 lJ ?_;unfold nodeC at S5 s5 e8;have f6:=s5 _ _ c6;generalize hadd g2 b8 _=g5 at S5 s5 e8 f6;generalize hadd h5 b8 _=h6 at S5⊢;have j8:=S5.sub _ _ e8;have j6:=S5.sub _ _ f6;obtain⟨ov5,ho5,hov5⟩:=S5.obj;unfold rvC at ho5;have B5:=(B2.mono s5).mono S5.sub;obtain⟨es5,ck5,n5,hm5,hn5⟩:=B5.names.find x.text;obtain⟨sp1,sp2⟩:=B5.spec;have B5:=B2.mono s5;have txl:tx.length=D.length:=by rw[← htx];simp
   rcases P with⟨en,_⟩|⟨bp,np,_,_,rfl,cp⟩
   ·rw[en,List.length_nil]at txl;omega
   have jp:=S5.sub _ _ (s5 _ _ (s2 _ _ cp));cases hx:eH F x.text with
   |some kx =>
     rw[hx]at hn5 hk4;simp only[Option.map_some]at hn5;rw[if_pos (.inl rfl)]at hk4;refine W8 t0 t2 t6 t50 t51 t52 j8 (An2 j6 (An2 ho5 (An2 hm5 hn5))) ?_;refine dA S5 fun h7 S7=>?_;refine W6 t0 t2 t6 t50 t51 t52 ?_;exact⟨i+1,by omega,ci,by simp,_,hk4,S7.back s5⟩
   |none =>
     rw[hx]at hn5 hk4;simp only[Option.map_none]at hn5;refine W8 t0 t2 t6 t50 t51 t52 j8 (An2 j6 (An2 ho5 (An2 hm5 (An2 hn5 txl)))) ?_;refine Aj (ss:=tx.take i) jp (by omega) (by simp;omega) (by simp;omega) (fun j hj=>?_) x.text ?_
     ·simp only[List.length_take]at hj;rw[List.getElem?_map,List.getElem_take,List.getElem?_eq_getElem (by omega)];rfl
     by_cases c1:x.text∈tx.take i
     ·rw[if_pos (.inr (.inl c1))]at hk4;have c1:=eq_true c1;refine W8 t0 t2 t6 t50 t51 t52 j8 (An2 j6 c1) ?_;refine dA S5 fun h7 S7=>?_;refine W6 t0 t2 t6 t50 t51 t52 ?_;exact⟨i+1,by omega,ci,by simp,_,hk4,S7.back s5⟩
     ·have c1':=eq_false c1;refine W8 t0 t2 t6 t50 t51 t52 j8 (An2 j6 (An2 c1' sp1)) ?_;refine bU sp2 (by decide) x.text ?_
      by_cases c2:x.text∈special
      ·rw[if_pos (.inr (.inr c2))]at hk4;have c2:=eq_true c2;refine W8 t0 t2 t6 t50 t51 t52 j8 (An2 j6 c2) ?_;refine dA S5 fun h7 S7=>?_;refine W6 t0 t2 t6 t50 t51 t52 ?_;exact⟨i+1,by omega,ci,by simp,_,hk4,S7.back s5⟩
      ·rw[if_neg (by rintro(z|z|z);exact absurd z (by simp);exact c1 z;exact c2 z)]at hk4;have c2':=eq_false c2;refine W8 t0 t2 t6 t50 t51 t52 j8 (An2 j6 c2') ?_;exact⟨i+1,by omega,ci,by simp,_,hk4,S5.back s5⟩
  ·have:i=D.length:=by omega
   subst this;rw[List.drop_length,mi]at hk4;subst hk4;have j6:=S4.sub _ _ c6;refine W6 t0 t2 t6 t51 t52 j6 ?_;refine tY _ _ (Nat.lt_succ_self _) g2 h5 _ ⟨false,true,false⟩ _ (some m) _ (fun k e=>by cases e;exact hk) B2 A2 (NodeV.of (K.mono s2)) hszb hUb S4 fun h' S'=>?_;refine W0 ?_;exact⟨_,Sub.refl,hq _ (S'.back sg2)⟩
end
section
open Mir
variable{h g:H}{p q:Nat}{Q:V→H→Prop}{fm ib am fb:Nat}{F:List RFn}{A:List Sym}{U:List Txt}{r:RSt}
theorem RF{F:List RFn}{o t:Txt}{a:Nat}{l:List Tree}:fnI F (.nd o t a l)=if o=[102,117,110,99]then eH F t else none:=by unfold fnI;rfl
theorem TG{ov:V}(B:RvB h q fm ib fb F)(ho:h p=some (.cells (rvC fm ib am ov r) false)){o t:Txt}{a:Nat}{l:List Tree}{kv:V}(kf:kv.flat=true)(hn0:o=[102,117,110,99]→eH F t≠none)(hq:Q (.int .i64 (fnZ (fnI F (.nd o t a l)))) h):AC pg (.fn 49) [.ptr p 0,.agg [.str o,.str t,.int .i64 a,kv]] h Q:=by
 obtain⟨es,ck,n,hm,hn⟩:=B.names.find t;unfold rvC at ho;skip;rw[RF]at hq;refine AC.fn' (g:=g49) rfl (by simp only[List.length_cons,List.length_nil,g49];decide) ?_;simp only[g49,Mir.Ab.all];refine W1 kf ?_;intro b3 hb3;have ho2:=(ae (o:=AObj.cells [V.str o,V.str t,V.int .i64 a,kv] false) (af hb3 ho)).trans ho;have hm2:=(ae (o:=AObj.cells [V.str o,V.str t,V.int .i64 a,kv] false) (af hb3 hm)).trans hm;have h3:hadd h b3 (AObj.cells [V.str o,V.str t,V.int .i64 a,kv] false) b3=_:=ah;have sb:=aG (o:=AObj.cells [V.str o,V.str t,V.int .i64 a,kv] false) hb3;generalize hadd h b3 (AObj.cells [V.str o,V.str t,V.int .i64 a,kv] false)=h2 at *
 by_cases c:o=[102,117,110,99]
 ·rw[if_pos c]at hq;cases hN:eH F t with
  |none=>exact absurd hN (hn0 c)
  |some k =>
    rw[hN]at hn hq;simp only[Option.map_some]at hn;have c:=eq_true c;refine W5 ho2 hm2 h3 hn c ?_;exact⟨h,sb,hq⟩
 ·rw[if_neg c]at hq;have c:=eq_false c;refine W2 h3 c ?_;exact⟨h,sb,hq⟩
theorem zT{o t:Txt}{a:Nat}{kv:V}(kf:kv.flat=true)(hq:Q (.tup [.str (if arrOp o then t else []),.bool (decide (arrOp o))]) h):AC pg (.fn 50) [.agg [.str o,.str t,.int .i64 a,kv]] h Q:=by
 refine AC.fn' (g:=g50) rfl (by simp only[List.length_cons,List.length_nil,g50];decide) ?_;simp only[g50,Mir.Ab.all];refine W1 kf ?_;intro b3 hb3;have h3:hadd h b3 (AObj.cells [V.str o,V.str t,V.int .i64 a,kv] false) b3=_:=ah;have sb:=aG (o:=AObj.cells [V.str o,V.str t,V.int .i64 a,kv] false) hb3;generalize hadd h b3 (AObj.cells [V.str o,V.str t,V.int .i64 a,kv] false)=h2 at *;have yes:arrOp o→Q (.tup [.str t,.bool true]) h:=fun c=>by rw[if_pos c,decide_eq_true c]at hq;exact hq
 by_cases e1:o=[105,110,100,101,120]
 ·have y:=yes (.inl e1);have e1:=eq_true e1;refine W2 h3 e1 ?_;exact⟨h,sb,y⟩
 by_cases e2:o=[105,110]
 ·have y:=yes (.inr (.inl e2));have e1:=eq_false e1;have e2:=eq_true e2;refine W3 h3 e1 e2 ?_;exact⟨h,sb,y⟩
 by_cases e3:o=[110,97,109,101]
 ·have y:=yes (.inr (.inr e3));have e1:=eq_false e1;have e2:=eq_false e2;have e3:=eq_true e3;refine W4 h3 e1 e2 e3 ?_;exact⟨h,sb,y⟩
 ·have no:¬arrOp o:=by rintro(x|x|x);exact e1 x;exact e2 x;exact e3 x
  rw[if_neg no,decide_eq_false no]at hq;have e1:=eq_false e1;have e2:=eq_false e2;have e3:=eq_false e3;refine W4 h3 e1 e2 e3 ?_;exact⟨h,sb,hq⟩
structure MkS(g h:H)(am ag:Nat)(A:List Sym)(b:Bool):Prop where
 arrs:∃es ck,h am=some (.map es ck)∧SymRep es ck A
 flag:h ag=some (.cells [.bool b] false)
 gam:g am=none
 gag:g ag=none
 sub:Sub g h
variable{ag:Nat}{b:Bool}{g':H}
theorem MkS.new(S:MkS g h am ag A b){c:Nat}(hc:h c=none):g c=none:=by
 cases e:g c with
 |none=>rfl
 |some o=>rw[S.sub _ _ e]at hc;cases hc
theorem MkS.ne(S:MkS g h am ag A b):am≠ag:=by
 obtain⟨es,ck,e,_⟩:=S.arrs;intro x;rw[x,S.flag]at e;cases e
theorem MkS.box(S:MkS g h am ag A b){c:Nat}{o:AObj}(hc:h c=none):MkS (hadd g c o) (hadd h c o) am ag A b:=by
 obtain⟨⟨es,ck,e,R⟩,fl,ga,gg,sub⟩:=S;exact⟨⟨es,ck,by rw[ae (af hc e)];exact e,R⟩,by rw[ae (af hc fl)];exact fl,by rw[ae (af hc e)];exact ga,by rw[ae (af hc fl)];exact gg,fD sub⟩
theorem MkS.over(S:MkS g h am ag A b){c:Nat}{o o':AObj}(hc:g c=some o):MkS (hadd g c o') (hadd h c o') am ag A b:=by
 obtain⟨⟨es,ck,e,R⟩,fl,ga,gg,sub⟩:=S;have n1:=af ga hc |>.symm;have n2:=af gg hc |>.symm;exact⟨⟨es,ck,by rw[ae n1];exact e,R⟩,by rw[ae n2];exact fl,by rw[ae n1];exact ga,by rw[ae n2];exact gg,fD sub⟩
theorem MkS.back(S:MkS g' h am ag A b)(s:Sub g g'):MkS g h am ag A b:=by
 have key:∀b,g' b=none→g b=none:=fun b hb=>by
  cases e:g b with
  |none=>rfl
  |some o=>rw[s _ _ e]at hb;cases hb
 exact⟨S.arrs,S.flag,key _ S.gam,key _ S.gag,fun x o hx=>S.sub _ _ (s _ _ hx)⟩
def lS(x:List Sym × Bool)(s:Sym):List Sym × Bool:=if s∈x.1 then x else(x.1++[s],true)
theorem rZ{bt:Nat}{ov:V}(S:MkS g h am ag A b)(hp:g p=some (.cells (rvC fm ib am ov r) false))(ht:g bt=some (.cells [.ptr p 0] false)){s:Sym}(hq:∀h',MkS g h' am ag (lS (A,b) s).1 (lS (A,b) s).2→Q (.tup []) h'):AC pg (.fn 48) [symV s,.ptr bt 0,.ptr ag 0] h Q:=by
 unfold rvC at hp;unfold symV;refine AC.fn' (g:=g48) rfl (by simp only[List.length_cons,List.length_nil,g48];decide) ?_;simp only[g48,Mir.Ab.all];refine W0 ?_;intro b3 hb3;have S1:=S.box (o:=AObj.cells [V.int .i64 (fnZ s.1),V.str s.2] false) hb3;have sg:=aG (o:=AObj.cells [V.int .i64 (fnZ s.1),V.str s.2] false) (S.new hb3);have hp1:=sg _ _ hp;have ht1:=sg _ _ ht;have c3:hadd g b3 (AObj.cells [V.int .i64 (fnZ s.1),V.str s.2] false) b3=_:=ah;generalize hadd g b3 (AObj.cells [V.int .i64 (fnZ s.1),V.str s.2] false)=g1 at *;generalize hadd h b3 (AObj.cells [V.int .i64 (fnZ s.1),V.str s.2] false)=h1 at *;have jp:=S1.sub _ _ hp1;have jt:=S1.sub _ _ ht1;have j3:=S1.sub _ _ c3;obtain⟨es,ck,e,R⟩:=S1.arrs;have lk:=(show ArrB h1 am A from⟨es,ck,e,R⟩).look s
 by_cases c:s∈A
 ·rw[decide_eq_true c]at lk;have e1:lS (A,b) s=(A,b):=if_pos c;rw[e1]at hq;refine W4 jp jt j3 lk ?_;exact⟨_,Sub.refl,hq _ (S1.back sg)⟩
 ·rw[decide_eq_false c]at lk;have e1:lS (A,b) s=(A++[s],true):=if_neg c;rw[e1]at hq;obtain⟨n,hn⟩:=yR R.eq s;rw[if_neg c]at hn;have hk:=Bf s s;rw[decide_eq_true rfl]at hk;have fl:=S1.flag;have nag:=S1.ne;unfold symV at hn hk;have mc:=GX (h:=h1) (b:=am) (z:=V.bool false) (es:=es) (clock:=ck) hk;obtain⟨sb1,sb2⟩:=Em (k:=V.agg [V.int .i64 (fnZ s.1),V.str s.2]) (u:=V.bool false) (v:=V.bool true) R.old;have ec:=fun hh:H=>OI (h:=hh) (b:=am) (clock:=ck+1) (v:=V.bool true) sb2;rw[sb1]at ec
  ((try simp -implicitDefEqProofs only [later,bW,bG,bM]);(repeat (first|simp -implicitDefEqProofs only [go_sem,↓reduceIte,Nat.reduceEqDiff,Nat.reduceAdd,Nat.reduceLeDiff,Nat.reduceLT,Nat.reduceMul,reduceCtorEq,Int.reduceEq,Int.reduceLT,Int.reduceLE,Int.reduceNeg,Int.reduceToNat,Int.reduceMul,Int.reduceAdd,Int.reduceSub,jp,jt,j3,lk,e,mc,hn,fl,meF,ec,nag,Ne.symm nag]|simp (disch:=(first|omega|(simp only[go_sem];done)|(simp only[lens];omega))) only [cds,jp,jt,j3,lk,e,mc,hn,fl,meF,ec,nag,Ne.symm nag])))
  refine⟨_,Sub.refl,hq _ (MkS.back ⟨⟨_,_,(ae nag).trans ah,R.add s⟩,ah,S1.gam,S1.gag,fun c o hc=>?_⟩ sg)⟩;rw[ae (af S1.gag hc),ae (af S1.gam hc)];exact S1.sub _ _ hc
theorem Hf{α:Type}{l:Nat}(f:α→Tree→α)(R:H→α→H→Prop)(St:H→H→Prop)(N:List Tree)
  (rsub:∀{g x h},R g x h→Sub g h) (rbox:∀{g x h b o},R g x h→h b=none→R (hadd g b o) x (hadd h b o)) (rback:∀{g g' x y h h0},R g y h0→R g' x h→Sub g g'→R g x h) (sback:∀{g g' y h h0},R g y h0→St g' h→Sub g g'→St g h)
  (body:∀(g:H) (x:α) (t:Tree) (v:V) (deep:Nat) (h:H) (Q:V→H→Prop),deep≤10000000→R g x h→NodeV (fun _=>none) g q t v→t∈N→(∀h',R g (f x t) h'→Q (.bool true) h')→(∀h',St g h'→Q (.bool false) h')→AC pg (.round l) [.int .i64 deep,v] h Q):
  ∀(n:Nat) (t:Tree),tsz t<n→(∀m∈nodes t,m∈N)→∀(g:H) (x:α) (v:V) (h:H) (deep:Nat) (Q:V→H→Prop),deep+tsz t≤10000000→R g x h→NodeV (fun _=>none) g q t v →
    (∀h',R g ((nodes t).foldl f x) h'→Q (.bool true) h')→(∀h',St g h'→Q (.bool false) h')→AC pg (.fn 34) [v,.int .i64 deep,.yield l] h Q
 |0,_,hn,_,_,_,_,_,_,_,_,_,_,_,_=>absurd hn (Nat.not_lt_zero _)
 |n+1,.nd o t a ks,hn,hN,g,x,v,h,deep,Q,hd,hR,hv,hq,hs=>by
   obtain⟨kv,rfl,kb⟩:=hv.inv;simp only[Tree.op,Tree.text,Tree.at',Tree.kids]at kb⊢;have kf:=kb.flat;have hsz:tsz (.nd o t a ks)=cO ks+1:=by rw[tsz]
   have hll:=fA (l:=ks);unfold nodes at hq hN;rw[List.foldl_cons]at hq;refine AC.fn' (g:=g34) rfl (by simp only[List.length_cons,List.length_nil,g34];decide) ?_;simp only[g34,Mir.Ab.all];refine W1 kf ?_;intro b3 hb3;have R1:=rbox (o:=AObj.cells [V.str o,V.str t,V.int .i64 a,kv] false) hR hb3;have hb3':g b3=none:=by
    cases e:g b3 with
    |none=>rfl
    |some o=>rw[rsub hR _ _ e]at hb3;cases hb3
   have sg:=aG (o:=AObj.cells [V.str o,V.str t,V.int .i64 a,kv] false) hb3';have c3:hadd g b3 (AObj.cells [V.str o,V.str t,V.int .i64 a,kv] false) b3=_:=ah;generalize hadd g b3 (AObj.cells [V.str o,V.str t,V.int .i64 a,kv] false)=g1 at *;generalize hadd h b3 (AObj.cells [V.str o,V.str t,V.int .i64 a,kv] false)=h1 at *;have j3:=rsub R1 _ _ c3;refine W1 j3 ?_;refine body g1 x (.nd o t a ks) _ deep h1 _ (by omega) R1 (.mk (kb.mono sg)) (hN _ (by simp)) (fun h2 R2=>?_) (fun h2 S2=>?_)
   ·have ll:=kb.ll;have j3:=rsub R2 _ _ c3;refine W2 j3 ll ?_;refine E.loopX AC.mono (fun(i:Nat) a' h'=>i≤ks.length∧a'.d=[]∧a'.t 1=.int .i64 deep∧a'.t 2=.yield l∧a'.t 15=kv∧a'.t 16=.int .i64 ks.length∧a'.t 17=.int .i64 i∧∃y,(bP (ks.drop i)).foldl f y=(bP ks).foldl f (f x (.nd o t a ks))∧R g1 y h') (fun i=>ks.length-i) 0 ?_ ?_
    ·exact⟨Nat.zero_le _,rfl,rfl,rfl,rfl,rfl,rfl,_,rfl,R2⟩
    ·rintro i ⟨ta,ds⟩ h4 ⟨hi,hd',t1,t2,t15,t16,t17,y,hy,R4⟩;dsimp only at hd' t1 t2 t15 t16 t17;subst hd'
     by_cases ci:i<ks.length
     ·have kb1:=kb.mono sg;cases kb1 with
      |nil=>cases ci
      |sl q1 q2 q3 q4 q5 =>
        obtain⟨kvi,e4,k5⟩:=q5.get ci;have q6:=rsub R4 _ _ q4;have cl:=q5.len;rw[List.drop_eq_getElem_cons ci,bP,List.foldl_append,show ks[i]=ks.getD i .zero from by rw[List.getD_eq_getElem?_getD,List.getElem?_eq_getElem ci];rfl]at hy;have sz:=iw ci;have hNi:∀m∈nodes (ks.getD i .zero),m∈N:=fun m hm=>hN _ (List.mem_cons_of_mem _ (kN ci hm));generalize ks.getD i .zero=m at e4 k5 hy sz hNi;refine W8 t1 t2 t15 t16 t17 q6 e4 cl ?_;intro b8 hb8;have kf5:=k5.flat;have R5:=rbox (o:=AObj.cells (nodeC m kvi) false) R4 hb8;have hb8':g1 b8=none:=by
         cases e:g1 b8 with
         |none=>rfl
         |some o=>rw[rsub R4 _ _ e]at hb8;cases hb8
        have s5:=aG (o:=AObj.cells (nodeC m kvi) false) hb8';have e8:hadd g1 b8 (AObj.cells (nodeC m kvi) false) b8=_:=ah;refine W7 t1 t2 t15 t16 t17 kf5 lJ ?_;unfold nodeC at R5 s5 e8;generalize hadd g1 b8 _=g5 at R5 s5 e8;generalize hadd h4 b8 _=h5 at R5⊢;have j8:=rsub R5 _ _ e8;refine W6 t1 t2 t15 t16 t17 j8 ?_;refine Hf f R St N rsub rbox rback sback body n m (by omega) hNi g5 y _ h5 (deep+1) _ (by omega) R5 (NodeV.of (k5.mono s5)) (fun h6 R6=>?_) (fun h6 S6=>?_)
        ·refine W5 t1 t2 t15 t16 t17 ?_;exact⟨i+1,by omega,ci,by simp,_,hy,rback R4 R6 s5⟩
        ·refine W5 t1 t2 t15 t16 t17 ?_;exact⟨_,Sub.refl,hs _ (sback hR (sback R4 S6 s5) sg)⟩
     ·have:i=ks.length:=by omega
      subst this;rw[List.drop_length,bP,List.foldl_nil]at hy;subst hy;refine W2 t16 t17 ?_;exact⟨_,Sub.refl,hq _ (rback hR R4 sg)⟩
   ·refine W0 ?_;exact⟨_,Sub.refl,hs _ (sback hR S2 sg)⟩
end
section
open Mir
abbrev MX:=List Sym × Bool
def ik(F:List RFn)(fn:Option Nat)(k:Nat)(x:MX)(a:Txt × Tree):MX:=
 if a.2.op≠[118,97,114]then x
 else if(some k,a.1)∈x.1∨symOf F fn a.2.text∈x.1 then lS (lS x (some k,a.1)) (symOf F fn a.2.text)else x
def dw(F:List RFn)(fn:Option Nat)(x:MX)(n:Tree):MX:=if arrOp n.op then lS x (symOf F fn n.text)else x
def dh(F:List RFn)(fn:Option Nat)(x:MX)(n:Tree):MX:=
 if n.op=[99,97,108,108]then match eH F n.text with
  |none=>x
  |some k=>((bD F k).zip n.kids).foldl (ik F fn k) x
 else x
def Eb(F:List RFn)(fn:Option Nat)(x:MX)(n:Tree):MX:=dh F fn (dw F fn x n) n
def Nr(F:List RFn)(x:MX)(i:Tree):MX:=(nodes i).foldl (Eb F (fnI F i)) x
def pass(F:List RFn)(items:List Tree)(x:MX):MX:=items.foldl (Nr F) x
def Gr(x y:MX):Prop:=y=x∨(y.2=true∧x.1.length<y.1.length)
theorem Gr.refl{x:MX}:Gr x x:=.inl rfl
theorem Gr.trans{x y z:MX}(a:Gr x y)(b:Gr y z):Gr x z:=by
 rcases b with rfl|⟨b1,b2⟩
 ·exact a
 ·rcases a with rfl|⟨a1,a2⟩
  ·exact .inr ⟨b1,b2⟩
  ·exact .inr ⟨b1,by omega⟩
theorem Gr.fix{x y:MX}(a:Gr x y)(b:Gr y x):y=x:=by
 rcases a with a|⟨_,a⟩
 ·exact a
 ·rcases b with b|⟨_,b⟩
  ·exact b.symm
  ·omega
theorem nD{α:Type}{f:MX→α→MX}(h:∀x e,Gr x (f x e)):∀(l:List α) (x:MX),Gr x (l.foldl f x)
 |[],_=>.refl
 |e::l,x=>(h x e).trans (nD h l _)
theorem oO{α:Type}{f:MX→α→MX}(h:∀x e,Gr x (f x e)):∀{l:List α} {x:MX},l.foldl f x=x→∀e∈l,f x e=x
 |[],_,_,e,he=>by cases he
 |d::l,x,hx,e,he=>by
   rw[List.foldl_cons]at hx;have b:=nD h l (f x d);rw[hx]at b;have e1:=(h x d).fix b;rw[e1]at hx;rcases List.mem_cons.1 he with rfl|he
   ·exact e1
   ·exact oO h hx e he
theorem iH{α:Type}{f:MX→α→MX}{I:MX→Prop}:∀{l:List α} {x:MX},(∀e∈l,∀x,I x→I (f x e))→I x→I (l.foldl f x)
 |[],_,_,i=>i
 |d::l,x,h,i=>iH (l:=l) (x:=f x d) (fun e he=>h e (by simp[he])) (h d (by simp) x i)
variable{F:List RFn}{fn:Option Nat}{items:List Tree}{x:MX}{k:Nat}
theorem su(x:MX)(s:Sym):Gr x (lS x s):=by
 unfold lS;split
 ·exact .refl
 ·exact .inr ⟨rfl,by simp⟩
theorem xU{s:Sym}(h:lS x s=x):s∈x.1:=by
 unfold lS at h;split at h
 ·assumption
 ·have:=congrArg (fun x:MX=>x.1.length) h;simp at this
theorem xw(x:MX)(a:Txt × Tree):Gr x (ik F fn k x a):=by
 unfold ik;split
 ·exact .refl
 ·split
  ·exact(su _ _).trans (su _ _)
  ·exact .refl
theorem xy(x:MX)(n:Tree):Gr x (dw F fn x n):=by
 unfold dw;split
 ·exact su _ _
 ·exact .refl
theorem uH(x:MX)(n:Tree):Gr x (dh F fn x n):=by
 unfold dh;split
 ·split
  ·exact .refl
  ·exact nD xw _ _
 ·exact .refl
theorem Ec(x:MX)(n:Tree):Gr x (Eb F fn x n):=(xy x n).trans (uH _ n)
theorem Ea(x:MX)(i:Tree):Gr x (Nr F x i):=nD Ec _ _
theorem PX(x:MX):Gr x (pass F items x):=nD Ea _ _
theorem uI(h:pass F items x=x){s:Sym}(hs:ArrS F items s):s∈x.1:=by
 have h1:=oO Ea h;have h2:∀i∈items,∀n∈nodes i,dw F (fnI F i) x n=x∧dh F (fnI F i) x n=x:=fun i hi n hn=>by
  have a:=oO Ec (h1 i hi) n hn;unfold Eb at a;have b:=uH (F:=F) (fn:=fnI F i) (dw F (fnI F i) x n) n;rw[a]at b;have c:=(xy (F:=F) (fn:=fnI F i) x n).fix b;rw[c]at a;exact⟨c,a⟩
 have link:∀{p s:Sym},Link F items p s→(p∈x.1∨s∈x.1)→p∈x.1∧s∈x.1:=fun {p s} l o=>by
  obtain⟨i,hi,n,hn,hc,k,hk,j,hj,hj2,hv,rfl,rfl⟩:=l;have a:=(h2 i hi n hn).2;unfold dh at a;rw[if_pos hc,hk]at a;have hz:((bD F k).getD j [],n.kids.getD j .zero)∈(bD F k).zip n.kids:=by
   have:((bD F k).zip n.kids)[j]?=some ((bD F k).getD j [],n.kids.getD j .zero):=by
    rw[List.getElem?_eq_getElem (by simp;omega)];simp[List.getD_eq_getElem?_getD,List.getElem?_eq_getElem hj,List.getElem?_eq_getElem hj2]
   exact List.mem_of_getElem? this
  have b:=oO xw a _ hz;unfold ik at b;rw[if_neg (fun z=>z hv),if_pos o]at b;have c:=su (lS x (some k,(bD F k).getD j [])) (symOf F (fnI F i) (n.kids.getD j .zero).text);rw[b]at c;have d:=(su x (some k,(bD F k).getD j [])).fix c;rw[d]at b;exact⟨xU d,xU b⟩
 induction hs with
 |used hi hn ho =>
   have a:=(h2 _ hi _ hn).1;unfold dw at a;rw[if_pos ho]at a;exact xU a
 |into l _ ih=>exact(link l (.inr ih)).1
 |out l _ ih=>exact(link l (.inl ih)).2
theorem xR{J:Sym→Prop}{s:Sym}(h:∀t∈x.1,J t)(hs:J s):∀t∈(lS x s).1,J t:=by
 unfold lS;split
 ·exact h
 ·intro t ht;rcases List.mem_append.1 ht with ht|ht
  ·exact h t ht
  ·cases List.mem_singleton.1 ht;exact hs
theorem Ed{J:Sym→Prop}(hu:∀i∈items,∀n∈nodes i,arrOp n.op→J (symOf F (fnI F i) n.text))(hl:∀p s,Link F items p s→(J p∨J s)→J p∧J s)(h:∀t∈x.1,J t):∀t∈(pass F items x).1,J t:=by
 refine iH (I:=fun x=>∀t∈x.1,J t) (fun i hi x h=>?_) h;refine iH (I:=fun x=>∀t∈x.1,J t) (fun n hn x h=>?_) h;have h1:∀t∈(dw F (fnI F i) x n).1,J t:=by
  unfold dw;split
  ·rename_i c;exact xR h (hu i hi n hn c)
  ·exact h
 show ∀t∈(dh F (fnI F i) (dw F (fnI F i) x n) n).1,J t
 generalize dw F (fnI F i) x n=y at h1;unfold dh;split
 ·rename_i hc;split
  ·exact h1
  ·rename_i k hk;refine iH (I:=fun x=>∀t∈x.1,J t) (fun a ha x h=>?_) h1;unfold ik;split
   ·exact h
   ·rename_i hv;split
    ·rename_i o;obtain⟨j,hj,e⟩:=List.mem_iff_getElem.1 ha;simp only[List.length_zip]at hj;have l:Link F items (some k,a.1) (symOf F (fnI F i) a.2.text):=by
      refine⟨i,hi,n,hn,hc,k,hk,j,by omega,by omega,?_,?_,?_⟩
      ·rw[← e]at hv;simpa[List.getD_eq_getElem?_getD,List.getElem?_eq_getElem (show j<n.kids.length by omega)]using hv
      ·rw[← e];simp[List.getD_eq_getElem?_getD,List.getElem?_eq_getElem (show j<(bD F k).length by omega)]
      ·rw[← e];simp[List.getD_eq_getElem?_getD,List.getElem?_eq_getElem (show j<n.kids.length by omega)]
     have jj:=hl _ _ l (o.elim (fun z=>.inl (h _ z)) fun z=>.inr (h _ z));exact xR (xR h jj.1) jj.2
    ·exact h
 ·exact h1
theorem xA(h:∀t∈x.1,ArrS F items t):∀t∈(pass F items x).1,ArrS F items t:=
 Ed (fun i hi n hn ho=>.used hi hn ho) (fun p s l o=>o.elim (fun z=>⟨z,.out l z⟩) fun z=>⟨.into l z,z⟩) h
theorem BD{s:Sym}(h:x.1.Nodup):(lS x s).1.Nodup:=by
 unfold lS;split
 ·exact h
 ·rename_i c
  show(x.1++[s]).Nodup
  rw[List.nodup_append];exact⟨h,by simp,fun a ha b hb=>by simp at hb;subst hb;exact fun e=>c (e ▸ ha)⟩
theorem PZ(h:x.1.Nodup):(pass F items x).1.Nodup:=by
 refine iH (I:=fun x=>x.1.Nodup) (fun i hi x h=>?_) h;refine iH (I:=fun x=>x.1.Nodup) (fun n hn x h=>?_) h;have h1:(dw F (fnI F i) x n).1.Nodup:=by
  unfold dw;split
  ·exact BD h
  ·exact h
 show(dh F (fnI F i) (dw F (fnI F i) x n) n).1.Nodup
 unfold dh;split
 ·split
  ·exact h1
  ·refine iH (I:=fun x=>x.1.Nodup) (fun a ha x h=>?_) h1;unfold ik;split
   ·exact h
   ·split
    ·exact BD (BD h)
    ·exact h
 ·exact h1
def oK(F:List RFn)(items:List Tree):List Sym:=
 ((bP items).map Tree.text++F.flatMap RFn.ps).flatMap fun x=>(none,x)::(List.range F.length).map fun k=>(some k,x)
theorem mJ{s:Sym}:s∈oK F items↔(s.2∈(bP items).map Tree.text∨s.2∈F.flatMap RFn.ps)∧(∀k,s.1=some k→k<F.length):=by
 obtain⟨a,x⟩:=s;unfold oK;simp only[List.mem_flatMap,List.mem_append,List.mem_cons,List.mem_map,List.mem_range,Prod.mk.injEq];constructor
 ·rintro⟨y,hy,⟨rfl,rfl⟩|⟨k,hk,rfl,rfl⟩⟩
  ·exact⟨hy,fun k e=>by cases e⟩
  ·exact⟨hy,fun k' e=>by cases e;exact hk⟩
 ·rintro⟨hy,hk⟩;refine⟨x,hy,?_⟩;cases a with
  |none=>exact .inl ⟨rfl,rfl⟩
  |some k=>exact .inr ⟨k,hk k rfl,rfl,rfl⟩
theorem jP{items:List Tree}{i n:Tree}(hi:i∈items)(hn:n∈nodes i):n∈bP items:=by
 induction items with
 |nil=>cases hi
 |cons k l ih =>
   unfold bP;rcases List.mem_cons.1 hi with rfl|hi
   ·exact List.mem_append.2 (.inl hn)
   ·exact List.mem_append.2 (.inr (ih hi))
theorem Me:∀{n k:Tree},k∈n.kids→k∈nodes n
 |.nd o t a l,k,h=>by
   unfold nodes;exact List.mem_cons_of_mem _ (jP h qC)
theorem DW{t m n:Tree}(h1:m∈nodes t)(h2:n∈nodes m):n∈nodes t:=by
 suffices H:(∀t:Tree,∀m∈nodes t,∀n∈nodes m,n∈nodes t)from H t m h1 n h2
 intro t;refine Tree.rec (motive_1:=fun t=>∀m∈nodes t,∀n∈nodes m,n∈nodes t) (motive_2:=fun l=>∀m∈bP l,∀n∈nodes m,n∈bP l) ?_ ?_ ?_ t
 ·intro o t a l ih m hm n hn;unfold nodes at hm⊢;rcases List.mem_cons.1 hm with rfl|hm
  ·unfold nodes at hn;exact hn
  ·exact List.mem_cons_of_mem _ (ih m hm n hn)
 ·intro m hm;simp[bP]at hm
 ·intro k l ih1 ih2 m hm n hn;unfold bP at hm⊢;rcases List.mem_append.1 hm with hm|hm
  ·exact List.mem_append.2 (.inl (ih1 m hm n hn))
  ·exact List.mem_append.2 (.inr (ih2 m hm n hn))
theorem zK{F:List RFn}{fn:Option Nat}{x:Txt}(hf:∀k,fn=some k→k<F.length):∀k,(symOf F fn x).1=some k→k<F.length:=by
 intro k h;unfold symOf at h;cases fn with
 |none=>cases h
 |some j =>
   dsimp only at h;split at h
   ·cases h;exact hf _ rfl
   ·cases h
theorem zL{F:List RFn}{fn:Option Nat}{x:Txt}:(symOf F fn x).2=x:=by
 unfold symOf;cases fn with
 |none=>rfl
 |some j=>dsimp only;split<;>rfl
theorem E5{F:List RFn}{i:Tree}:∀k,fnI F i=some k→k<F.length:=fun k h=>by
 unfold fnI at h;split at h
 ·exact o5 h
 ·cases h
theorem PY(h:∀t∈x.1,t∈oK F items):∀t∈(pass F items x).1,t∈oK F items:=by
 refine Ed (fun i hi n hn _=>?_) (fun p s l _=>?_) h
 ·rw[mJ,zL];exact⟨.inl (List.mem_map.2 ⟨n,jP hi hn,rfl⟩),zK E5⟩
 ·obtain⟨i,hi,n,hn,hc,k,hk,j,hj,hj2,hv,rfl,rfl⟩:=l;rw[mJ,mJ,zL];refine⟨⟨.inr ?_,fun k' e=>by cases e;exact o5 hk⟩,.inl ?_,zK E5⟩
  ·refine List.mem_flatMap.2 ⟨F.getD k default,?_,?_⟩
   ·have:=o5 hk;rw[List.getD_eq_getElem?_getD,List.getElem?_eq_getElem this];exact List.getElem_mem this
   ·show(bD F k).getD j []∈bD F k
    rw[List.getD_eq_getElem?_getD,List.getElem?_eq_getElem hj2];exact List.getElem_mem hj2
  ·refine List.mem_map.2 ⟨n.kids.getD j .zero,jP hi (DW hn (Me ?_)),rfl⟩;rw[List.getD_eq_getElem?_getD,List.getElem?_eq_getElem hj];exact List.getElem_mem hj
end
section
open Mir
variable{h g:H}{p q:Nat}{Q:V→H→Prop}{fm ib am fb:Nat}{F:List RFn}{U:List Txt}
mutual
theorem NodeV.moveC{h h':H}{p:Nat}(hm:∀c cs,h c=some (.cells cs false)→h' c=some (.cells cs false)):∀{t:Tree} {v:V},NodeV (fun _=>none) h p t v→NodeV (fun _=>none) h' p t v
 |_,_,.mk k=>.mk (KidsV.moveC hm k)
theorem KidsV.moveC{h h':H}{p:Nat}(hm:∀c cs,h c=some (.cells cs false)→h' c=some (.cells cs false)):∀{l:List Tree} {v:V},KidsV (fun _=>none) h p l v→KidsV (fun _=>none) h' p l v
 |_,_,.nil=>.nil
 |_,_,.sl a b c d e=>.sl a rfl c (hm _ _ d) (CellsV.moveC hm e)
theorem CellsV.moveC{h h':H}{p:Nat}(hm:∀c cs,h c=some (.cells cs false)→h' c=some (.cells cs false)):∀{l:List Tree} {cs:List V},CellsV (fun _=>none) h p l cs→CellsV (fun _=>none) h' p l cs
 |_,_,.nil=>.nil
 |_,_,.cons k c=>.cons (KidsV.moveC hm k) (CellsV.moveC hm c)
end
theorem IK{t m:Tree}(h:m∈nodes t):tsz m≤tsz t:=by
 suffices H:(∀t:Tree,∀m∈nodes t,tsz m≤tsz t)from H t m h
 intro t;refine Tree.rec (motive_1:=fun t=>∀m∈nodes t,tsz m≤tsz t) (motive_2:=fun l=>∀m∈bP l,tsz m≤cO l) ?_ ?_ ?_ t
 ·intro o t a l ih m hm;unfold nodes at hm;rcases List.mem_cons.1 hm with rfl|hm
  ·exact Nat.le_refl _
  ·have:=ih m hm;rw[tsz];omega
 ·intro m hm;simp[bP]at hm
 ·intro k l ih1 ih2 m hm;unfold bP at hm;rw[cO];rcases List.mem_append.1 hm with hm|hm
  ·have:=ih1 m hm;omega
  ·have:=ih2 m hm;omega
def cutV(n:Nat):V→V
 |.sl b o es _=>.sl b o es n
 |v=>v
theorem Uj:∀(n b o es k:Nat),cutV n (.sl b o es k)=.sl b o es n:=fun _ _ _ _ _=>rfl
theorem nH:∀(h:H) (b:Nat) (o:AObj),hadd h b o b=some o:=fun _ _ _=>ah
theorem KidsV.cut{h0 h:H}{p:Nat}{l:List Tree}{v:V}(k:KidsV h0 h p l v){n:Nat}(hn:n≤l.length):slE 4 v none (some (.int .i64 n))=some (cutV n v)∧llE (cutV n v)=some (.int .i64 n):=by
 cases k with
 |nil =>
   have:n=0:=by simpa using hn
   subst this;exact⟨by rfl,rfl⟩
 |sl=>exact⟨by rw[QQ,zW (by omega)];simp[cutV],rfl⟩
theorem QY{v:V}{vs:List V}(e:v=.agg vs)(hv:vs.all V.flat=true)(hq:∀h' b,h b=none→Sub h h'→h' b=some (.cells vs false)→h'=hadd h b (.cells vs false)→Q (.fn 33 [] [.ptr b 0]) h'):AC pg (.fn 17) [v] h Q:=by
 subst e;refine AC.fn' (g:=g17) rfl (by simp only[List.length_cons,List.length_nil,g17];decide) ?_;simp only[g17,Mir.Ab.all];refine W1 hv ?_;intro b hb;refine W0 ?_;exact⟨_,Sub.refl,hq _ b hb (aG hb) ah rfl⟩
theorem MkS.to{ag:Nat}{A:List Sym}{b:Bool}(S:MkS g h am ag A b)(b':Bool):MkS g (hadd h ag (.cells [.bool b'] false)) am ag A b':=by
 have n:=S.ne;obtain⟨⟨es,ck,e,R⟩,fl,ga,gg,sub⟩:=S;exact⟨⟨es,ck,by rw[ae n];exact e,R⟩,ah,ga,gg,fun c o hc=>by rw[ae (af gg hc)];exact sub _ _ hc⟩
theorem MkS.lose{ag:Nat}{A:List Sym}{b:Bool}(S:MkS g h am ag A b){c:Nat}(z:g c=none)(n1:am≠c)(n2:ag≠c):MkS g (hset h c none) am ag A b:=by
 obtain⟨⟨es,ck,e,R⟩,fl,ga,gg,sub⟩:=S;exact⟨⟨es,ck,by show hset _ _ _ _=_;unfold hset;rw[if_neg n1];exact e,R⟩,by show hset _ _ _ _=_;unfold hset;rw[if_neg n2];exact fl,ga,gg,fun x o hx=>by show hset _ _ _ _=_;unfold hset;rw[if_neg (af z hx)];exact sub _ _ hx⟩
theorem Uu{h:H}{a b:Nat}(n:a≠b){x x' y y':AObj}:hadd (hadd (hadd (hadd h a x) b y) a x') b y'=hadd (hadd h a x') b y':=by
 funext c
 by_cases e:c=b
 ·subst e;rw[ah,ah]
 ·rw[ae e,ae e]
  by_cases e2:c=a
  ·subst e2;rw[ah,ah]
  ·rw[ae e2,ae e2,ae e,ae e2]
def KidsW(h:H)(q:Nat)(l:List Tree)(v:V):Prop:=KidsV (fun _=>none) h q l v∨(l=[]∧∃b,v=.sl b 0 4 0)
theorem KidsW.v{q:Nat}{l:List Tree}{v:V}(k:KidsW h q l v)(n:l≠[]):KidsV (fun _=>none) h q l v:=k.elim id fun x=>absurd x.1 n
theorem KidsW.ll{q:Nat}{l:List Tree}{v:V}(k:KidsW h q l v):llE v=some (.int .i64 l.length):=by
 rcases k with k|⟨rfl,b,rfl⟩
 ·exact k.ll
 ·rfl
theorem KidsW.flat{q:Nat}{l:List Tree}{v:V}(k:KidsW h q l v):v.flat=true:=by
 rcases k with k|⟨rfl,b,rfl⟩
 ·exact k.flat
 ·rfl
theorem KidsW.mono{h':H}{q:Nat}(s:Sub h h'){l:List Tree}{v:V}(k:KidsW h q l v):KidsW h' q l v:=k.elim (fun k=>.inl (k.mono s)) .inr
def r0:RSt:=⟨[],0,0⟩
theorem NP(B:RvB g q fm ib fb F)(hp:g p=some (.cells (rvC fm ib am .nilsl r0) false)){items:List Tree}{v:V}(kb:KidsW g q items v)(hsz:cO items≤1000000)(hn:∀i∈items,i.op=[102,117,110,99]→eH F i.text≠none)
  (gam:g am=none) {es:Ents} {ck:Nat} (ham:h am=some (.map es ck)) (R0:SymRep es ck []) (sub:Sub g h)
  (hq:∀h' A,Sub g h'→ArrB h' am A→(∀s,s∈A↔ArrS F items s)→Q (.tup []) h'):AC pg (.fn 31) [.ptr p 0,v] h Q:=by
 have hll:items.length≤1000000:=Nat.le_trans fA hsz;refine AC.fn' (g:=g31) rfl (by simp only[List.length_cons,List.length_nil,g31];decide) ?_;simp only[g31,Mir.Ab.all];refine W0 ?_;intro b2 hb2;have gb2:g b2=none:=by
  cases e:g b2 with
  |none=>rfl
  |some o=>rw[sub _ _ e]at hb2;cases hb2
 have n2:am≠b2:=af hb2 ham;have s2:=aG (o:=AObj.cells [V.ptr p 0] false) gb2;have sub1:=fD (b:=b2) (o:=AObj.cells [V.ptr p 0] false) sub;have c2:hadd g b2 (AObj.cells [V.ptr p 0] false) b2=_:=ah;have ga:hadd g b2 (AObj.cells [V.ptr p 0] false) am=none:=(ae n2).trans gam;have ham1:hadd h b2 (AObj.cells [V.ptr p 0] false) am=_:=(ae n2).trans ham;have hp1:=s2 _ _ hp;have B1:=B.mono s2;have kb1:=kb.mono s2;generalize hadd g b2 (AObj.cells [V.ptr p 0] false)=g1 at *;generalize hadd h b2 (AObj.cells [V.ptr p 0] false)=h1 at *;refine W0 ?_;intro ag hag;have S1:MkS g1 (hadd h1 ag (.cells [.bool true] false)) am ag [] true:=by
  have nag:am≠ag:=af hag ham1;refine⟨⟨es,ck,by rw[ae nag];exact ham1,R0⟩,ah,ga,?_,fun c o hc=>?_⟩
  ·cases e:g1 ag with
   |none=>rfl
   |some o=>rw[sub1 _ _ e]at hag;cases hag
  ·rw[ae (af hag (sub1 _ _ hc))];exact sub1 _ _ hc
 refine W1 nH ?_;generalize hadd h1 ag (AObj.cells [V.bool true] false)=h2 at S1⊢;refine E.loopX AC.mono (fun(x:Nat × List Sym × Bool) a' h'=>a'.d=[]∧a'.t 1=v∧a'.t 2=.ptr b2 0∧a'.t 4=.ptr x.1 0∧MkS g1 h' am x.1 x.2.1 x.2.2∧(∀s∈x.2.1,ArrS F items s)∧(∀s∈x.2.1,s∈oK F items)∧x.2.1.Nodup∧(x.2.2=false→pass F items (x.2.1,false)=(x.2.1,false))) (fun x=>2*((oK F items).length-x.2.1.length)+x.2.2.toNat) (ag,[],true) ?_ ?_
 ·exact⟨rfl,rfl,rfl,rfl,S1,by simp,by simp,by simp,by simp⟩
 ·rintro⟨ag,A,b⟩ ⟨ta,ds⟩ h3 ⟨hd,t1,t2,t4,S,ha1,ha2,ha3,ha4⟩;dsimp only at hd t1 t2 t4 S ha1 ha2 ha3 ha4;subst hd;have fl:=S.flag;cases b with
  |false =>
    refine W4 t1 t2 t4 fl ?_;exact⟨_,Sub.refl,hq _ A (fun x o hx=>S.sub _ _ (s2 _ _ hx)) S.arrs fun s=>⟨ha1 s,fun z=>by have:=ha4 rfl;exact uI this z⟩⟩
  |true =>
    refine W4 t1 t2 t4 fl ?_;have S1:=S.to false;generalize hadd h3 ag (AObj.cells [V.bool false] false)=h4 at S1⊢;clear S fl;intro b5 hb5;have S2:=S1.box (o:=AObj.cells [V.fn 48 [] [V.ptr b2 0,V.ptr ag 0]] false) hb5;have s5:=aG (o:=AObj.cells [V.fn 48 [] [V.ptr b2 0,V.ptr ag 0]] false) (S1.new hb5);have c5:hadd g1 b5 (AObj.cells [V.fn 48 [] [V.ptr b2 0,V.ptr ag 0]] false) b5=_:=ah;have ll:=kb.ll;refine W5 t1 t2 t4 nH ll ?_;have d2:=s5 _ _ c2;have hp2:=s5 _ _ hp1;have B2:=B1.mono s5;have kb2:=kb1.mono s5;generalize hadd g1 b5 _=g2 at S2 s5 c5 d2 hp2 B2 kb2;generalize hadd h4 b5 _=h5 at S2⊢;clear S1;refine E.cut AC.mono (fun ex a' h'=>ex=.exit 2∧a'.d=[]∧a'.t 1=v∧a'.t 2=.ptr b2 0∧a'.t 4=.ptr ag 0∧MkS g2 h' am ag (pass F items (A,false)).1 (pass F items (A,false)).2) ?_ ?_
    ·refine E.loopX AC.mono (fun(x:Nat × MX) a' h'=>x.1≤items.length∧a'.d=[]∧a'.t 1=v∧a'.t 2=.ptr b2 0∧a'.t 4=.ptr ag 0∧a'.t 5=.ptr b5 0∧a'.t 22=v∧a'.t 23=.int .i64 items.length∧a'.t 24=.int .i64 x.1∧(items.drop x.1).foldl (Nr F) x.2=pass F items (A,false)∧MkS g2 h' am ag x.2.1 x.2.2) (fun x=>items.length-x.1) (0,A,false) ?_ ?_
     ·exact⟨Nat.zero_le _,rfl,t1,t2,t4,rfl,rfl,rfl,rfl,rfl,S2⟩
     ·rintro⟨i,y⟩ ⟨ta,ds⟩ h6 ⟨hi,hd,t1,t2,t4,t5,t22,t23,t24,hy,S3⟩;dsimp only at hi hd t1 t2 t4 t5 t22 t23 t24 hy S3;subst hd
      by_cases ci:i<items.length
      ·cases kb2.v (fun e=>by rw[e]at ci;cases ci)with
       |nil=>cases ci
       |@sl _ bk cs q1 q2 q3 q4 q5 =>
         obtain⟨kvi,e4,k5⟩:=q5.get ci;have q6:=S3.sub _ _ q4;have cl:=q5.len;rw[List.drop_eq_getElem_cons ci,List.foldl_cons,show items[i]=items.getD i .zero from by rw[List.getD_eq_getElem?_getD,List.getElem?_eq_getElem ci];rfl]at hy;have sz:=iw ci;have hni:=hn (items.getD i .zero) (by rw[List.getD_eq_getElem?_getD,List.getElem?_eq_getElem ci];exact List.getElem_mem ci);generalize items.getD i .zero=it at e4 k5 hy sz hni;refine W8 t1 t2 t4 t5 t22 t23 t24 (An2 q6 (An2 e4 cl)) ?_;intro b7 hb7;have kf5:=k5.flat;have S4:=S3.box (o:=AObj.cells (nodeC it kvi) false) hb7;have s7:=aG (o:=AObj.cells (nodeC it kvi) false) (S3.new hb7);have c7:hadd g2 b7 (AObj.cells (nodeC it kvi) false) b7=_:=ah;refine W8 t1 t2 t4 t5 t22 t23 t24 (An2 kf5 lJ) ?_;unfold nodeC at S4 s7 c7;have d5:=s7 _ _ c5;have f2:=s7 _ _ d2;have hp3:=s7 _ _ hp2;have B3:=B2.mono s7;have k6:=k5.mono s7;generalize hadd g2 b7 _=g3 at S4 s7 c7 d5 f2 hp3 B3 k6;generalize hadd h6 b7 _=h7 at S4⊢;have j7:=S4.sub _ _ c7;have j2:=S4.sub _ _ f2;refine W8 t1 t2 t4 t5 t22 t23 t24 (An2 j7 j2) ?_;obtain⟨io,itx,ia,il⟩:=it;refine TG (B3.mono S4.sub) (S4.sub _ _ hp3) (l:=il) kf5 (fun c=>hni c) ?_;refine W8 t1 t2 t4 t5 t22 t23 t24 (An2 j7 j2) ?_;intro b8 hb8;simp only[Tree.op,Tree.text,Tree.at',Tree.kids]at S4 c7 j7 k6⊢;generalize hfn:fnI F (Tree.nd io itx ia il)=fn;have hf:∀k,fn=some k→k<F.length:=by rw[← hfn];exact E5
         have S5:=S4.box (o:=AObj.cells [V.int .i64 (fnZ fn)] false) hb8;have s8:=aG (o:=AObj.cells [V.int .i64 (fnZ fn)] false) (S4.new hb8);have c8:hadd g3 b8 (AObj.cells [V.int .i64 (fnZ fn)] false) b8=_:=ah;have e7:=s8 _ _ c7;have j8:hadd h7 b8 (AObj.cells [V.int .i64 (fnZ fn)] false) b7=_:=S5.sub _ _ e7;refine W8 t1 t2 t4 t5 t22 t23 t24 (An2 nH j8) ?_;have d5:=s8 _ _ d5;have f2:=s8 _ _ f2;have hp3:=s8 _ _ hp3;have B3:=B3.mono s8;have k6:=k6.mono s8;generalize hadd g3 b8 _=g4 at S5 s8 c8 e7 d5 f2 hp3 B3 k6;generalize hadd h7 b8 _=h8 at S5⊢;clear j8;refine QY rfl (by simp[kf5,V.flat];exact kf5) fun h9 ba hba _ _ e9=>?_;have S6:=S5.box (o:=AObj.cells [V.str io,V.str itx,V.int .i64 ia,kvi] false) hba;have s9:=aG (o:=AObj.cells [V.str io,V.str itx,V.int .i64 ia,kvi] false) (S5.new hba);have c9:hadd g4 ba (AObj.cells [V.str io,V.str itx,V.int .i64 ia,kvi] false) ba=_:=ah;rw[← e9]at S6;have d5:=s9 _ _ d5;have f2:=s9 _ _ f2;have c8:=s9 _ _ c8;have hp3:=s9 _ _ hp3;have B3:=B3.mono s9;have k6:=k6.mono s9;have s94:Sub g2 (hadd g4 ba (AObj.cells [V.str io,V.str itx,V.int .i64 ia,kvi] false)):=fun x o hx=>s9 _ _ (s8 _ _ (s7 _ _ hx));generalize hadd g4 ba _=g5 at S6 s9 c9 d5 f2 c8 hp3 B3 k6 s94;clear e9;refine W7 t1 t2 t4 t5 t22 t23 t24 ?_;intro lp hlp;generalize hL:AObj.loop _ [33,34] _ _ _ _=L;have S7:=S6.box (o:=L) hlp;have s10:=aG (o:=L) (S6.new hlp);have cl10:hadd g5 lp L lp=_:=ah;have c9:=s10 _ _ c9;have k6:=k6.mono s10;have z5:=S6.new hlp;have s102:Sub g2 (hadd g5 lp L):=fun x o hx=>s10 _ _ (s94 _ _ hx);generalize hadd g5 lp L=g6 at S7 s10 cl10 c9 k6 s102;generalize hadd h9 lp L=h10 at S7⊢;have j9:=S7.sub _ _ c9;refine AC.fn' (g:=g33) rfl (by simp only[List.length_cons,List.length_nil,g33];decide) ?_;simp only[g33,Mir.Ab.all];refine W1 j9 ?_;refine Hf (q:=q) (Eb F fn) (fun g x h=>MkS g h am ag x.1 x.2∧Sub g6 g) (fun _ _=>False) (nodes (.nd io itx ia il)) (fun r=>r.1.sub) (fun r hb=>⟨r.1.box hb,fun c o hc=>by rw[ae (af (r.1.new hb) (r.2 _ _ hc))];exact r.2 _ _ hc⟩) (fun r r' s=>⟨r'.1.back s,r.2⟩) (fun _ f _=>f)
          ?_ _ _ (Nat.lt_succ_self _) (fun m hm=>hm) g6 y _ h10 0 _ (by omega) ⟨S7,Sub.refl⟩ (.mk k6) (fun h11 R11=>?_) (fun _ f=>f.elim)
         ·intro g7 x t v7 deep h11 Q7 hdp hR7 hv7 ht7 hq7 hs7;refine AC.round (hR7.1.sub _ _ (hR7.2 _ _ cl10) |>.trans (by rw[← hL])) rfl ?_;refine W0 ?_;intro b10 hb10;obtain⟨hR7,sg7⟩:=hR7;obtain⟨kv7,rfl,kb7⟩:=hv7.inv;obtain⟨o7,x7,a7,l7⟩:=t;simp only[Tree.op,Tree.text,Tree.at',Tree.kids]at kb7⊢;have kf7:=kb7.flat;have S8:=hR7.box (o:=AObj.cells [V.str o7,V.str x7,V.int .i64 a7,kv7] false) hb10;have s8:=aG (o:=AObj.cells [V.str o7,V.str x7,V.int .i64 a7,kv7] false) (hR7.new hb10);have c10:hadd g7 b10 (AObj.cells [V.str o7,V.str x7,V.int .i64 a7,kv7] false) b10=_:=ah;have sl:=s8 _ _ (sg7 _ _ cl10);have jl:hadd h11 b10 (AObj.cells [V.str o7,V.str x7,V.int .i64 a7,kv7] false) lp=_:=(S8.sub _ _ sl).trans (congrArg some hL.symm);refine W3 nH kf7 jl ?_;generalize hadd h11 b10 _=h12 at S8 jl⊢;generalize hadd g7 b10 _=g8 at S8 s8 c10 sl;generalize hM:AObj.loop _ [33,34] _ _ LSt.busy _=M;have n10:b10≠lp:=fun e=>by rw[e,sl,← hL]at c10;cases c10
          have S9:=S8.over (o':=M) sl;have cM:hadd g8 lp M lp=_:=ah;have c10:hadd g8 lp M b10=_:=(ae n10).trans c10;have s59:Sub g5 (hadd g8 lp M):=fun c o hc=>by rw[ae (af z5 hc)];exact s8 _ _ (sg7 _ _ (s10 _ _ hc))
          have s79:Sub g7 (hadd (hadd g8 lp M) lp L):=fun c o hc=>by
           by_cases e:c=lp
           ·subst e;rw[ah,← hc,sg7 _ _ cl10]
           ·rw[ae e,ae e];exact s8 _ _ hc
          have kb9:KidsV (fun _=>none) (hadd g8 lp M) q l7 kv7:=KidsV.moveC (fun c o hc=>by
           by_cases e:c=lp
           ·subst e;rw[sg7 _ _ cl10,← hL]at hc;cases hc
           ·rw[ae e];exact s8 _ _ hc) kb7
          have d5:=s59 _ _ d5;have f2:=s59 _ _ f2;have c8:=s59 _ _ c8;have hp4:=s59 _ _ hp3;have B4:=B3.mono s59;generalize hadd g8 lp M=g9 at S9 cM c10 s59 s79 d5 f2 c8 hp4 B4 kb9;generalize hadd h12 lp M=h13 at S9⊢;clear S8 jl;have fin:∀h' X,MkS g9 h' am ag X.1 X.2→X=Eb F fn x (.nd o7 x7 a7 l7)→Q7 (.bool true) (hadd h' lp L):=fun h' X S e=>by
           subst e;exact hq7 _ ⟨(S.over cM).back s79,sg7⟩
          have j10:=S9.sub _ _ c10;refine W1 j10 ?_;refine zT kf7 ?_;refine W0 ?_;refine dn AC.mono (fun ex a' h'=>ex=.nm∧a'.d=[]∧a'.t 2=.ptr b2 0∧a'.t 5=.ptr b5 0∧a'.t 8=.ptr b8 0∧a'.t 10=.ptr b10 0∧MkS g9 h' am ag (dw F fn x (.nd o7 x7 a7 l7)).1 (dw F fn x (.nd o7 x7 a7 l7)).2) ?_ ?_
          ·by_cases co:arrOp o7
           ·have eu:dw F fn x (.nd o7 x7 a7 l7)=lS x (symOf F fn x7):=if_pos co;rw[eu];have j5:=S9.sub _ _ d5;have j2:=S9.sub _ _ f2;have j8:=S9.sub _ _ c8;have co:=eq_true co;refine W6 co j5 j2 j8 t2 t5 ?_;refine qI (B4.mono S9.sub) (S9.sub _ _ hp4) hf ?_;refine W1 j5 ?_;refine rZ S9 hp4 f2 fun h' S'=>?_;refine W2 t2 t5 ?_;exact S'
           ·have eu:dw F fn x (.nd o7 x7 a7 l7)=x:=if_neg co;rw[eu];have co:=eq_false co;refine W1 co ?_;exact⟨t2,t5,S9⟩
          ·rintro ex ⟨tb,ds⟩ h14 ⟨rfl,hd,u2,u5,u8,u10,S10⟩;dsimp only at hd u2 u5 u8 u10;subst hd;have fin:∀h' X,MkS g9 h' am ag X.1 X.2→X=dh F fn (dw F fn x (.nd o7 x7 a7 l7)) (.nd o7 x7 a7 l7)→Q7 (.bool true) (hadd h' lp L):=fun h' X S e=>fin h' X S e;generalize dw F fn x (.nd o7 x7 a7 l7)=y1 at S10 fin;have j5:=S10.sub _ _ d5;have j2:=S10.sub _ _ f2;have j8:=S10.sub _ _ c8;have j10:=S10.sub _ _ c10;have jp:=S10.sub _ _ hp4;unfold rvC at jp;obtain⟨es7,ck7,n7,hm7,hn7⟩:=(B4.mono S10.sub).names.find x7;have jM:h14 lp=_:=(S10.sub _ _ cM).trans (congrArg some hM.symm);cases hN:eH F x7 with
           |none =>
             rw[hN]at hn7;simp only[Option.map_none]at hn7;have e0:y1=dh F fn y1 (.nd o7 x7 a7 l7):=by unfold dh;split;(rw[show(Tree.nd o7 x7 a7 l7).text=x7 from rfl,hN]);rfl
             by_cases cc:o7=[99,97,108,108]
             ·have cc:=eq_true cc;refine W8 u2 u10 j2 j10 jp hm7 hn7 (An2 cc jM) ?_;exact⟨_,Sub.refl,by rw[hL];exact fin _ _ S10 e0⟩
             ·have cc:=eq_false cc;refine W8 u2 u10 j2 j10 jp hm7 hn7 (An2 cc jM) ?_;exact⟨_,Sub.refl,by rw[hL];exact fin _ _ S10 e0⟩
           |some k =>
             rw[hN]at hn7;simp only[Option.map_some]at hn7
             by_cases cc:o7=[99,97,108,108]
             case neg =>
              have e0:y1=dh F fn y1 (.nd o7 x7 a7 l7):=by unfold dh;rw[if_neg (show ¬(Tree.nd o7 x7 a7 l7).op=[99,97,108,108]from cc)]
              have cc:=eq_false cc;refine W8 u2 u10 j2 j10 jp hm7 hn7 (An2 cc jM) ?_;exact⟨_,Sub.refl,by rw[hL];exact fin _ _ S10 e0⟩
             have e0:dh F fn y1 (.nd o7 x7 a7 l7)=((bD F k).zip l7).foldl (ik F fn k) y1:=by unfold dh;rw[if_pos (show(Tree.nd o7 x7 a7 l7).op=[99,97,108,108]from cc),show(Tree.nd o7 x7 a7 l7).text=x7 from rfl,hN];rfl
             rw[e0]at fin;have cc:=eq_true cc;have hk:=o5 hN;have hne:F≠[]:=by intro e;rw[e]at hk;exact absurd hk (Nat.not_lt_zero _)
             obtain⟨cs7,gi,gc,FV⟩:=B4.info;have gb:=gc hne;rw[if_neg hne]at gi;have hi7:=S10.sub _ _ gi;have hb7:=S10.sub _ _ gb;obtain⟨pv,kv',pn,P,K,e⟩:=FV.get hk;have pf:pv.flat=true:=by rcases P with⟨_,rfl⟩|⟨b,_,_,_,rfl,_⟩<;>rfl
             have kf':=K.flat;have cl7:=FV.len;have sF:=B4.small;have pe:(F.getD k default).ps=bD F k:=rfl;rw[pe]at pn P;have lp7:=P.ll;have ll7:=kb9.ll;have l7l:l7.length≤1000000:=by
              have h1:=IK ht7;rw[tsz]at h1;have h2:=fA (l:=l7);omega
             obtain⟨n,hnn⟩:∃n,n=min l7.length (bD F k).length:=⟨_,rfl⟩;have hmn:min (l7.length:Int) ((bD F k).length:Int)=(n:Int):=by omega
             obtain⟨cut1,cut2⟩:=kb9.cut (n:=n) (by omega);generalize (F.getD k default).name=fnm at e;generalize (F.getD k default).body.op=fbo at e;generalize (F.getD k default).body.text=fbt at e;generalize (F.getD k default).body.at'=fba at e;refine W8 u2 u10 j2 j10 jp hm7 hn7 (An2 cc (An2 hi7 (An2 hb7 (An2 e (An2 pf (An2 kf' cl7)))))) ?_;intro b15 hb15;have S11:=S10.box (o:=AObj.cells [V.str fnm,pv,V.nilsl,V.str fbo,V.str fbt,V.int .i64 fba,kv'] false) hb15;have s11:=aG (o:=AObj.cells [V.str fnm,pv,V.nilsl,V.str fbo,V.str fbt,V.int .i64 fba,kv'] false) (S10.new hb15);have c15:hadd g9 b15 (AObj.cells [V.str fnm,pv,V.nilsl,V.str fbo,V.str fbt,V.int .i64 fba,kv'] false) b15=_:=ah;refine W3 pf kf' nH ?_;have c10:=s11 _ _ c10;have d5:=s11 _ _ d5;have f2:=s11 _ _ f2;have c8:=s11 _ _ c8;have hp5:=s11 _ _ hp4;have B5:=B4.mono s11;have cM':=s11 _ _ cM;have P:=P.mono s11;have kb10:=kb9.mono s11;generalize hadd g9 b15 _=g10 at S11 s11 c15 c10 d5 f2 c8 hp5 B5 cM' P kb10;generalize hadd h14 b15 _=h15 at S11⊢;have j15:=S11.sub _ _ c15;have j10:=S11.sub _ _ c10;refine W8 u2 u10 j15 j10 ll7 lp7 hmn (An2 cut1 cut2) ?_;generalize hfin:((bD F k).zip l7).foldl (ik F fn k) y1=res at fin;refine E.loopX AC.mono (fun(x:Nat × MX) a' h'=>x.1≤n∧a'.d=[]∧a'.t 2=.ptr b2 0∧a'.t 5=.ptr b5 0∧a'.t 8=.ptr b8 0∧a'.t 13=.int .i64 k∧a'.t 15=.ptr b15 0∧a'.t 83=cutV n kv7∧a'.t 84=.int .i64 n∧a'.t 85=.int .i64 x.1∧(((bD F k).zip l7).drop x.1).foldl (ik F fn k) x.2=res∧MkS g10 h' am ag x.2.1 x.2.2) (fun x=>n-x.1) (0,y1) ?_ ?_
             ·exact⟨Nat.zero_le _,rfl,u2,u5,u8,rfl,rfl,rfl,rfl,rfl,hfin,S11⟩
             ·rintro⟨j,z⟩ ⟨tb,ds⟩ h16 ⟨hj,hd,u2,u5,u8,u13,u15,u83,u84,u85,hz,S12⟩;dsimp only at hj hd u2 u5 u8 u13 u15 u83 u84 u85 hz S12;subst hd
              by_cases cj:j<n
              ·cases kb10 with
               |nil=>simp at hnn;omega
               |@sl _ bk' cs8 r1 r2 r3 r4 r5 =>
                 have cj':j<l7.length:=by omega
                 obtain⟨kvj,e9,k9⟩:=r5.get cj';have r6:=S12.sub _ _ r4;have cl8:=r5.len;rw[List.drop_eq_getElem_cons (by simp;omega),List.foldl_cons,List.getElem_zip,show l7[j]=l7.getD j .zero from by rw[List.getD_eq_getElem?_getD,List.getElem?_eq_getElem cj'];rfl,
                  show(bD F k)[j]'(by omega)=(bD F k).getD j []from by rw[List.getD_eq_getElem?_getD,List.getElem?_eq_getElem (by omega)];rfl]at hz
                 generalize l7.getD j .zero=m at e9 k9 hz;refine W8 u2 u5 u8 u13 u15 u83 u84 (An2 u85 (An2 Uj (An2 r6 (An2 e9 cl8)))) ?_;intro b17 hb17;have kf9:=k9.flat;have S13:=S12.box (o:=AObj.cells (nodeC m kvj) false) hb17;have s13:=aG (o:=AObj.cells (nodeC m kvj) false) (S12.new hb17);have c17:hadd g10 b17 (AObj.cells (nodeC m kvj) false) b17=_:=ah;refine W8 u2 u5 u8 u13 u15 u83 u84 (An2 u85 (An2 kf9 lJ)) ?_;unfold nodeC at S13 s13 c17;generalize hadd g10 b17 _=g11 at S13 s13 c17;generalize hadd h16 b17 _=h17 at S13⊢;have j17:=S13.sub _ _ c17
                 by_cases cv:m.op=[118,97,114]
                 case neg =>
                  have e1:ik F fn k z ((bD F k).getD j [],m)=z:=if_pos cv;rw[e1]at hz;have cv:=eq_false cv;refine W8 u2 u5 u8 u13 u15 u83 u84 (An2 u85 (An2 j17 cv)) ?_;exact⟨(j+1,z),by omega,cj,rfl,by simp,hz,S13.back s13⟩
                 have e1:ik F fn k z ((bD F k).getD j [],m)=if(some k,(bD F k).getD j [])∈z.1∨symOf F fn m.text∈z.1 then lS (lS z (some k,(bD F k).getD j [])) (symOf F fn m.text)else z:=if_neg fun q=>q cv
                 rw[e1]at hz;have cv:=eq_true cv;rcases P with⟨en,_⟩|⟨bp,np,_,_,rfl,cp⟩
                 ·rw[en,List.length_nil]at hnn;omega
                 have pat:(List.map V.str (bD F k))[j]?=some (V.str ((bD F k).getD j [])):=by
                  rw[List.getElem?_map,List.getD_eq_getElem?_getD,List.getElem?_eq_getElem (by omega)];rfl
                 have jp:=S13.sub _ _ (s13 _ _ cp);have j15:=S13.sub _ _ (s13 _ _ c15);have j2:=S13.sub _ _ (s13 _ _ f2);have j8:=S13.sub _ _ (s13 _ _ c8);have hp6:=s13 _ _ hp5;generalize (bD F k).getD j []=px at pat hz;refine W8 u2 u5 u8 u13 u15 u83 u84 (An2 u85 (An2 j17 (An2 cv (An2 jp (An2 j15 (An2 j2 (An2 j8 pat))))))) ?_;refine qI ((B5.mono s13).mono S13.sub) (S13.sub _ _ hp6) hf ?_;refine W8 u2 u5 u8 u13 u15 u83 u84 (An2 u85 (An2 j17 (An2 jp (An2 j15 (An2 j2 (An2 j8 pat)))))) ?_;intro b18 hb18;have S14:=S13.box (o:=AObj.cells [V.int .i64 k,V.str px] false) hb18;have S14':=S13.box (o:=AObj.cells [V.int .i64 0,V.str []] false) hb18;have s14:=aG (o:=AObj.cells [V.int .i64 k,V.str px] false) (S13.new hb18);have c18:hadd g11 b18 (AObj.cells [V.int .i64 k,V.str px] false) b18=_:=ah;have m17:=af hb18 j17;have mp:=af hb18 jp;have m15:=af hb18 j15;have m2:=af hb18 j2;have m8:=af hb18 j8;have j5:=S13.sub _ _ (s13 _ _ d5);have m5:=af hb18 j5;refine W8 u2 u5 u8 u13 u15 u83 u84 (An2 u85 (An2 j17 (An2 jp (An2 j15 (An2 j2 (An2 j8 pat)))))) ?_;intro b19 hb19;have n1819:b18≠b19:=fun e=>by rw[← e,ah]at hb19;cases hb19
                 have hb19':h17 b19=none:=by rw[ae (Ne.symm n1819)]at hb19;exact hb19
                 have k17:=af hb19' j17;have kp:=af hb19' jp;have k15:=af hb19' j15;have k2:=af hb19' j2;have k8:=af hb19' j8;have k5:=af hb19' j5;generalize symOf F fn m.text=sy at hz;refine W8 u2 u5 u8 u13 u15 u83 u84 (An2 u85 (An2 j17 (An2 jp (An2 j15 (An2 j2 (An2 j8 (An2 pat UM))))))) ?_;rw[Uu n1819];have S15:=S14.box (o:=AObj.cells [V.int .i64 (fnZ sy.1),V.str sy.2] false) (c:=b19) ((ae (Ne.symm n1819)).trans hb19');have z15:=S14.new (c:=b19) ((ae (Ne.symm n1819)).trans hb19');have s15:=aG (o:=AObj.cells [V.int .i64 (fnZ sy.1),V.str sy.2] false) z15;have c19:hadd (hadd g11 b18 (AObj.cells [V.int .i64 k,V.str px] false)) b19 (AObj.cells [V.int .i64 (fnZ sy.1),V.str sy.2] false) b19=_:=ah;have c18:=s15 _ _ c18;have sA:Sub g11 (hadd (hadd g11 b18 (AObj.cells [V.int .i64 k,V.str px] false)) b19 (AObj.cells [V.int .i64 (fnZ sy.1),V.str sy.2] false)):=fun c o hc=>s15 _ _ (s14 _ _ hc);generalize hadd (hadd g11 b18 (AObj.cells [V.int .i64 k,V.str px] false)) b19 (AObj.cells [V.int .i64 (fnZ sy.1),V.str sy.2] false)=g12 at S15 s15 c19 c18 sA;generalize hadd (hadd h17 b18 (AObj.cells [V.int .i64 k,V.str px] false)) b19 (AObj.cells [V.int .i64 (fnZ sy.1),V.str sy.2] false)=h18 at S15⊢;clear S14 S14' m17 mp m15 m2 m8 m5 k17 kp k15 k2 k8 k5;have sB:Sub g10 g12:=fun c o hc=>sA _ _ (s13 _ _ hc);have hp7:=sA _ _ hp6;have j18:=S15.sub _ _ c18;have j19:=S15.sub _ _ c19;have j2:=S15.sub _ _ (sB _ _ f2);have d5':=sB _ _ d5;have f2':=sB _ _ f2;have j5:=S15.sub _ _ d5';have jpp:=S15.sub _ _ hp7;unfold rvC at jpp;have AB:ArrB h18 am z.1:=S15.arrs;have lk1:=AB.look (some k,px);dsimp only at lk1;rw[show fnZ (some k)=(k:Int)from rfl]at lk1;have lk2:=AB.look sy
                 by_cases c1:(some k,px)∈z.1
                 ·rw[if_pos (.inl c1)]at hz;rw[decide_eq_true c1]at lk1;refine W8 u2 u5 j2 jpp j18 j19 lk1 j5 ?_;refine rZ (s:=(some k,px)) S15 hp7 f2' fun h19 S16=>?_;have j5:=S16.sub _ _ d5';have j19:=S16.sub _ _ c19;refine W3 u5 j5 j19 ?_;refine rZ (s:=sy) S16 hp7 f2' fun h20 S17=>?_;refine W8 u2 u5 u8 u13 u15 u83 u84 u85 ?_;exact⟨(j+1,_),by omega,cj,rfl,by simp,hz,S17.back sB⟩
                 ·rw[decide_eq_false c1]at lk1
                  by_cases c2:sy∈z.1
                  ·rw[if_pos (.inr c2)]at hz;rw[decide_eq_true c2]at lk2;refine W8 u2 u5 j2 jpp j18 j19 lk1 (An2 lk2 j5) ?_;refine rZ (s:=(some k,px)) S15 hp7 f2' fun h19 S16=>?_;have j5:=S16.sub _ _ d5';have j19:=S16.sub _ _ c19;refine W3 u5 j5 j19 ?_;refine rZ (s:=sy) S16 hp7 f2' fun h20 S17=>?_;refine W8 u2 u5 u8 u13 u15 u83 u84 u85 ?_;exact⟨(j+1,_),by omega,cj,rfl,by simp,hz,S17.back sB⟩
                  ·rw[if_neg (fun q=>q.elim c1 c2)]at hz;rw[decide_eq_false c2]at lk2;refine W8 u2 u5 j2 jpp j18 j19 lk1 (An2 lk2 (An2 u8 (An2 u13 (An2 u15 (An2 u83 (An2 u84 u85)))))) ?_;exact⟨(j+1,_),by omega,cj,rfl,by simp,hz,S15.back sB⟩
              ·have:j=n:=by omega
               subst this;rw[List.drop_of_length_le (by simp;omega),List.foldl_nil]at hz;subst hz;have jM:h16 lp=_:=(S12.sub _ _ cM').trans (congrArg some hM.symm);refine W3 u84 u85 jM ?_;exact⟨_,Sub.refl,by rw[hL];exact fin _ _ (S12.back s11) rfl⟩
         ·refine W0 ?_;have jl:h11 lp=_:=(R11.1.sub _ _ (R11.2 _ _ cl10)).trans (congrArg some hL.symm);have S8:=R11.1.back R11.2;have n1:=af S8.gam cl10;have n2:=af S8.gag cl10;have z2:g2 lp=none:=by
           cases e:g2 lp with
           |none=>rfl
           |some o=>have:=S6.sub _ _ (s94 _ _ e);rw[hlp]at this;cases this
          have S9:=(S8.back s102).lose z2 (Ne.symm n1) (Ne.symm n2);refine⟨_,Sub.refl,?_⟩;refine W8 jl t1 t2 t4 t5 t22 t23 t24 ?_;exact⟨(i+1,_),by omega,ci,by simp,by rw[← hy,← hfn];rfl,S9⟩
      ·have:i=items.length:=by omega
       subst this;rw[List.drop_length,List.foldl_nil]at hy;subst hy;refine W2 t23 t24 ?_;exact⟨t1,t2,t4,S3⟩
    ·rintro ex ⟨ta,ds⟩ h6 ⟨rfl,hd,t1,t2,t4,S3⟩;dsimp only at hd t1 t2 t4;subst hd;have fl:=S3.flag;refine W4 t1 t2 t4 fl ?_;intro bn hbn;have gr:=PX (F:=F) (items:=items) (A,false);have nd:=PZ (F:=F) (items:=items) (x:=(A,false)) ha3;have inn:=PY (F:=F) (items:=items) (x:=(A,false)) ha2;have snd:=xA (F:=F) (items:=items) (x:=(A,false)) ha1;have l1:=tN nd inn;generalize hP:pass F items (A,false)=P at S3 gr nd inn snd l1;have S4:MkS g1 (hadd h6 bn (.cells [.bool P.2] false)) am bn P.1 P.2:=by
      obtain⟨⟨es',ck',e',R'⟩,fl',ga',gg',sub'⟩:=S3;have nag:am≠bn:=af hbn e';refine⟨⟨es',ck',by rw[ae nag];exact e',R'⟩,ah,ga,?_,fun c o hc=>?_⟩
      ·cases e:g1 bn with
       |none=>rfl
       |some o=>rw[sub' _ _ (s5 _ _ e)]at hbn;cases hbn
      ·rw[ae (af hbn (sub' _ _ (s5 _ _ hc)))];exact sub' _ _ (s5 _ _ hc)
     refine W4 t1 t2 t4 nH ?_;refine⟨(bn,P),?_,rfl,S4,snd,inn,nd,fun e=>?_⟩
     ·rcases gr with rfl|⟨g1',g2'⟩
      ·simp
      ·rw[g1'];simp only[Bool.toNat_true]at *;omega
     ·rcases gr with e2|⟨g1',_⟩
      ·rw[← hP]at e2⊢;rw[e2];exact e2
      ·rw[g1']at e;cases e
end

end Go.Proofs.YtkfbldogmgofoaaGreatDoor
