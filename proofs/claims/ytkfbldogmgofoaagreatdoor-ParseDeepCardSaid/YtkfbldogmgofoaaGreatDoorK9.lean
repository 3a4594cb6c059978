import Derived.Test.YtkfbldogmgofoaaGreatDoorK8
set_option linter.unusedSimpArgs false
set_option linter.unusedVariables false
namespace Go.Proofs.YtkfbldogmgofoaaGreatDoor
open Mir
variable {h:H} {Q:V → H → Prop} {h0:H} {p:Nat} {s:Txt} {r:RS}
theorem RCells.len {n:Nat} {l:List V} (c:RCells n l):l.length = 6 * n:=by
 induction c with
 | nil=>rfl
 | cons _ _ _ _ _ _ _ ih=>simp only [List.length_cons,ih]; omega
theorem RCells.flat {n:Nat} {l:List V} (c:RCells n l):l.all V.flat = true:=by
 induction c with
 | nil=>rfl
 | cons a b c d e f _ ih=>simp only [List.all_cons,a,b,c,d,e,f,ih,Bool.and_self]
theorem RCells.app {n m:Nat} {l k:List V} (c:RCells n l) (d:RCells m k):RCells (n + m) (l ++ k):=by
 induction c with
 | nil=>simpa using d
 | cons a b c d e f _ ih=>rw [Nat.succ_add_eq_add_succ,Nat.add_succ]; exact .cons a b c d e f ih
theorem RdAt.lose (R:RdAt h0 h p s r) {b:Nat} (z:h0 b = none) (n:b ≠ p):RdAt h0 (hset h b none) p s r :=
 ⟨by unfold hset; rw [if_neg (Ne.symm n)]; exact R.obj,R.base,fun x o hx=>by unfold hset; rw [if_neg (none_ne z hx)]; exact R.sub _ _ hx,R.small,R.place,R.deep⟩
def RSl (h0 h:H) (p q n:Nat) (v:V):Prop:=(n = 0 ∧ v = .nilsl) ∨ ∃ b cs,(h0 b = none ∧ b ≠ p ∧ b ≠ q) ∧ 0 < n ∧ v = .sl b 0 6 n ∧ h b = some (.cells cs false) ∧ RCells n cs
theorem RSl.keep {r':RS} {h':H} {q n:Nat} {v:V} (A:RSl h0 h p q n v) (R':RdAt (hset h p none) h' p s r'):RSl h0 h' p q n v:=by
 rcases A with A | ⟨b,cs,h1,h2,h3,h4,h5⟩
 ·exact .inl A
 ·exact .inr ⟨b,cs,h1,h2,h3,R'.keep h1.2.1 h4,h5⟩
abbrev N0:List V:=[V.int IntKind.i64 0,V.int IntKind.u64 0,V.int IntKind.u64 0,V.int IntKind.u64 0,V.int IntKind.u64 0,V.nilsl]
theorem cat_ac (k:Nat) (hB:∀ j,j < k → AtomC s j):CatC s k:=by
 intro h0 h p r Q R hf hk hq
 obtain ⟨r',er,ok⟩:=(reg_ok (s:=s) k).2.2.1 r hf hk
 have hq:=fun h' v=>hq h' v r' er ok
 have sm:=R.small
 refine AC.fn' (g:=g133) rfl (by simp only [List.length_cons,List.length_nil,g133]; decide) ?_; simp only [g133,Mir.Ab.all]
 refine W0 ?_
 intro b2 hb2
 have np:=R.ne hb2
 have z2:=R.new hb2
 have R1:=R.put (o:=AObj.cells N0 false) hb2
 have hb2':hadd h b2 (AObj.cells N0 false) b2 = some (.cells N0 false):=by simp [hadd,hset]
 refine W0 ?_
 unfold N0 at R1 hb2'
 generalize hadd h b2 _ = h1 at R1 hb2' ⊢
 refine E.cut AC.mono (fun ex a' h'=>ex = .exit 0 ∧ a'.d = [] ∧ a'.t 2 = .ptr b2 0 ∧ (∃ n,RSl h0 h' p b2 n (a'.t 3)) ∧ RdAt h0 h' p s r' ∧ h' b2 = some (.cells N0 false)) ?_ ?_
 ·have hrem:rem s r ≤ 300:=by unfold rem; split <;> omega
  refine E.loopX AC.mono (fun (x:Nat × RS × Nat) a' h'=>catM s x.1 x.2.1 = some r' ∧ x.1 ≤ k ∧ RFine s x.2.1 ∧ rem s x.2.1 * 4 + 1 ≤ x.1 ∧ x.2.2 + rem s x.2.1 ≤ 300 ∧ RdAt h0 h' p s x.2.1 ∧ a'.d = [] ∧ a'.t 0 = .ptr p 0 ∧ a'.t 2 = .ptr b2 0 ∧ RSl h0 h' p b2 x.2.2 (a'.t 3) ∧ h' b2 = some (.cells N0 false)) (fun x=>x.1) (k,r,0) ?_ ?_
  ·refine ⟨er,Nat.le_refl _,hf,hk,by show 0 + rem s r ≤ 300; omega,R1,rfl,rfl,rfl,.inl ⟨rfl,rfl⟩,hb2'⟩
  ·rintro ⟨k1,rr,n⟩ ⟨t,ds⟩ h2 ⟨hc,hk1,f1,hk2,hn,R2,hd,t0,t2,t3,hb⟩
   simp only at hc hk1 f1 hk2 hn R2 hd t0 t2 t3; subst hd
   obtain ⟨k1,rfl⟩:∃ k',k1 = k' + 1:=⟨k1 - 1,by omega⟩
   have hp2:=R2.obj
   unfold rsC at hp2
   refine W2 t0 t2 ?_
   refine rnext_ac2 R2 fun c ok e2 e3=>?_
   rw [catM,e2] at hc
   have hdp:=R2.deep
   cases ok
   ·have:=Option.some.inj hc; subst this
    refine W3 t0 t2 hp2 ?_
    exact ⟨⟨_,t3⟩,R2,hb⟩
   simp only [if_true] at hc
   by_cases c124:c.toNat = 124
   ·rw [if_pos (.inl (u8_eq.2 c124))] at hc
    have:=Option.some.inj hc; subst this
    refine W3 t0 t2 hp2 ?_
    exact ⟨⟨_,t3⟩,R2,hb⟩
   have c124':¬ c = 124:=fun e=>c124 (by rw [e]; rfl)
   by_cases c41:c.toNat = 41
   ·have c41':c = 41:=u8_eq.2 c41
    by_cases dp:0 < rr.deep
    ·rw [if_pos (.inr ⟨c41',dp⟩)] at hc
     have:=Option.some.inj hc; subst this
     refine W3 t0 t2 hp2 ?_
     exact ⟨⟨_,t3⟩,R2,hb⟩
    ·rw [if_neg (by simp [c124',dp]),if_pos c41'] at hc
     have:=Option.some.inj hc; subst this
     refine W3 t0 t2 hp2 ?_
     refine rfail_ac R2.re rr.i 9 fun h3 R3=>?_
     refine W2 t0 t2 ?_
     exact ⟨⟨_,t3.keep R3⟩,R2.back R3,R3.keep (Ne.symm np) hb⟩
   ·have c41':¬ c = 41:=fun e=>c41 (by rw [e]; rfl)
    rw [if_neg (by simp [c124',c41']),if_neg c41'] at hc
    have e2':rr.next s = some c:=e2
    refine W3 t0 t2 hp2 ?_
    refine hB k1 (by omega) _ _ _ _ c _ R2.re f1 e2' (by omega) fun h3 v ra e3 oa la R3 hv=>?_
    rw [e3] at hc
    simp only [Option.bind_some] at hc
    have R3':=R2.back R3
    have t3:=t3.keep R3
    have hb:=R3.keep (Ne.symm np) hb
    obtain ⟨v1,v2,v3,v4,v5,v6,rfl,w1,w2,w3,w4,w5,w6⟩:=hv
    refine W2 t0 t2 ?_
    intro b6 hb6
    have n62:b2 ≠ b6:=fun e=>by rw [← e,hb] at hb6; cases hb6
    have z6:h0 b6 = none:=R3'.new hb6
    have np6:=R3'.ne hb6
    have R4:=R3'.put (o:=AObj.cells [v1,v2,v3,v4,v5,v6] false) hb6
    refine W8 w1 w2 w3 w4 w5 w6 t0 t2 ?_
    have t3':RSl h0 (hadd h3 b6 (AObj.cells [v1,v2,v3,v4,v5,v6] false)) p b2 n (t 3):=by
     rcases t3 with A | ⟨b,cs,h1,h2,h3,h4,h5⟩
     ·exact .inl A
     ·exact .inr ⟨b,cs,h1,h2,h3,by rw [hadd_ne' (none_ne hb6 h4)]; exact h4,h5⟩
    have hb2':hadd h3 b6 (AObj.cells [v1,v2,v3,v4,v5,v6] false) b2 = some (.cells N0 false):=by rw [hadd_ne' n62]; exact hb
    have S6:∀ b o e m,t 3 = .sl b o e m → b ≠ b6:=fun b o e m he=>by
     rcases t3 with ⟨_,A⟩ | ⟨b',cs,h1,h2,h3,h4,h5⟩
     ·rw [A] at he; cases he
     ·rw [h3] at he; cases he; exact none_ne hb6 h4
    refine E.cut AC.mono (fun ex a' h'=>ex = .exit 3 ∧ a'.d = [] ∧ a'.t 0 = .ptr p 0 ∧ a'.t 2 = .ptr b2 0 ∧ a'.t 3 = t 3 ∧ a'.t 6 = .ptr b6 0 ∧ RSl h0 h' p b2 n (t 3) ∧ h' b2 = some (.cells N0 false) ∧ (∃ v1 v2 v3 v4 v5 v6,h' b6 = some (.cells [v1,v2,v3,v4,v5,v6] false) ∧ v1.flat = true ∧ v2.flat = true ∧ v3.flat = true ∧ v4.flat = true ∧ v5.flat = true ∧ v6.flat = true) ∧ ∃ rb,starM s k1 ra = some rb ∧ RdAt h0 h' p s rb) ?_ ?_
    ·obtain ⟨rb,eb,ob⟩:=star_ok (s:=s) k1 ra oa.fine (by omega)
     refine E.loopX AC.mono (fun (x:Nat × RS) a' h'=>starM s x.1 x.2 = some rb ∧ x.1 ≤ k1 ∧ RdAt h0 h' p s x.2 ∧ x.2.i ≤ 400 ∧ a'.d = [] ∧ a'.t 0 = .ptr p 0 ∧ a'.t 2 = .ptr b2 0 ∧ a'.t 3 = t 3 ∧ a'.t 6 = .ptr b6 0 ∧ RSl h0 h' p b2 n (t 3) ∧ h' b2 = some (.cells N0 false) ∧ (∃ v1 v2 v3 v4 v5 v6,h' b6 = some (.cells [v1,v2,v3,v4,v5,v6] false) ∧ v1.flat = true ∧ v2.flat = true ∧ v3.flat = true ∧ v4.flat = true ∧ v5.flat = true ∧ v6.flat = true)) (fun x=>x.1) (k1,ra) ?_ ?_
     ·have:=oa.fine.sum
      exact ⟨eb,Nat.le_refl _,R4,by show ra.i ≤ 400; omega,rfl,t0,t2,rfl,rfl,t3',hb2',⟨_,_,_,_,_,_,by simp [hadd,hset],w1,w2,w3,w4,w5,w6⟩⟩
     ·rintro ⟨k2,rc⟩ ⟨t',ds⟩ h4 ⟨hs,hk2',R5,hi5,hd,t0,t2,t3'',t6,S5,hb,v1,v2,v3,v4,v5,v6,hb6,w1,w2,w3,w4,w5,w6⟩
      simp only at hs hk2' R5 hi5 hd t0 t2 t3'' t6; subst hd
      obtain ⟨k2,rfl⟩:∃ k',k2 = k' + 1:=⟨k2 - 1,by cases k2 with | zero=>simp [starM] at hs | succ k=>rfl⟩
      refine W3 t0 t2 t6 ?_
      refine rnext_ac2 R5 fun c ok e2 e3=>?_
      rw [starM,e2] at hs
      refine W3 t0 t2 t6 ?_
      intro bm hbm
      have npm:=R5.ne hbm
      have zm:=R5.new hbm
      have n6m:b6 ≠ bm:=fun e=>by rw [← e,hb6] at hbm; cases hbm
      have n2m:b2 ≠ bm:=fun e=>by rw [← e,hb] at hbm; cases hbm
      have S5m:∀ o,RSl h0 (hadd h4 bm o) p b2 n (t 3):=fun o=>by
       rcases S5 with A | ⟨b,cs,h1,h2,h3,h4,h5⟩
       ·exact .inl A
       ·exact .inr ⟨b,cs,h1,h2,h3,by rw [hadd_ne' (none_ne hbm h4)]; exact h4,h5⟩
      by_cases st:ok = true ∧ (c.toNat = 42 ∨ c.toNat = 43 ∨ c.toNat = 63)
      ·obtain ⟨rfl,st⟩:=st
       have st':c = 42 ∨ c = 43 ∨ c = 63:=by
        rcases st with e | e | e
        ·exact .inl (u8_eq.2 e)
        ·exact .inr (.inl (u8_eq.2 e))
        ·exact .inr (.inr (u8_eq.2 e))
       simp only [if_true,if_pos st'] at hs
       have hp5:=R5.obj
       unfold rsC at hp5
       have hl:rc.i < s.length:=(next_some e2).2.1
       have sm5:=R5.small
       have R6:∀ o,RdAt h0 (hadd (hadd h4 bm o) p (.cells [V.str s,V.int IntKind.i64 (↑rc.i + 1),V.int IntKind.i64 ↑rc.deep,V.int IntKind.i64 ↑rc.err,V.int IntKind.i64 ↑rc.bad] false)) p s rc.step:=fun o=>by
        have R:=(R5.put (o:=o) hbm).setI (rc.i + 1) (by omega)
        rw [show ((rc.i + 1:Nat):Int) = rc.i + 1 from by omega] at R
        exact R
       rcases st with e | e | e
       all_goals
        ((try simp -implicitDefEqProofs only [later,laterE,laterD,laterR]); (repeat (first | simp -implicitDefEqProofs only [go_sem,↓reduceIte,Nat.reduceEqDiff,Nat.reduceAdd,Nat.reduceLeDiff,Nat.reduceLT,Nat.reduceMul,reduceCtorEq,Int.reduceEq,Int.reduceLT,Int.reduceLE,Int.reduceNeg,Int.reduceToNat,Int.reduceMul,Int.reduceAdd,Int.reduceSub,t0,t2,t6,findK,keyEq,hp5,npm,hb6,n6m,Ne.symm np6,w1,w2,w3,w4,w5,w6] | simp (disch:=(first | omega | (simp only [go_sem]; done) | (simp only [lens]; omega))) only [cds,t0,t2,t6,findK,keyEq,hp5,npm,hb6,n6m,Ne.symm np6,w1,w2,w3,w4,w5,w6])))
        generalize hM:AObj.map _ _ = M
        have R7:=R6 M
        have h6b:hadd (hadd h4 bm M) p (.cells [V.str s,V.int IntKind.i64 (↑rc.i + 1),V.int IntKind.i64 ↑rc.deep,V.int IntKind.i64 ↑rc.err,V.int IntKind.i64 ↑rc.bad] false) b6 = some (.cells [v1,v2,v3,v4,v5,v6] false):=by
         rw [hadd_ne' (Ne.symm np6),hadd_ne' n6m]; exact hb6
        have h2b:hadd (hadd h4 bm M) p (.cells [V.str s,V.int IntKind.i64 (↑rc.i + 1),V.int IntKind.i64 ↑rc.deep,V.int IntKind.i64 ↑rc.err,V.int IntKind.i64 ↑rc.bad] false) b2 = some (.cells N0 false):=by
         rw [hadd_ne' (Ne.symm np),hadd_ne' n2m]; exact hb
        have S7:RSl h0 (hadd (hadd h4 bm M) p (.cells [V.str s,V.int IntKind.i64 (↑rc.i + 1),V.int IntKind.i64 ↑rc.deep,V.int IntKind.i64 ↑rc.err,V.int IntKind.i64 ↑rc.bad] false)) p b2 n (t 3):=by
         rcases S5m M with A | ⟨b,cs,h1,h2,h3,h4,h5⟩
         ·exact .inl A
         ·exact .inr ⟨b,cs,h1,h2,h3,by rw [hadd_ne' h1.2.1]; exact h4,h5⟩
        generalize hadd (hadd h4 bm M) p _ = h5 at R7 h6b h2b S7 ⊢
        intro bk hbk
        have n6k:b6 ≠ bk:=fun e=>by rw [← e,h6b] at hbk; cases hbk
        have n2k:b2 ≠ bk:=fun e=>by rw [← e,h2b] at hbk; cases hbk
        refine W8 h6b w1 w2 w3 w4 w5 w6 (And.intro t0 (And.intro t2 t6)) ?_
        refine ⟨(k2,rc.step),by show k2 < k2 + 1; omega,hs,by show k2 ≤ k1; omega,(R7.put hbk).over z6 (Ne.symm np6),by show rc.i + 1 ≤ 400; omega,t3'',?_,h2b,⟨_,_,_,_,_,_,rfl,rfl,rfl,rfl,rfl,rfl,rfl⟩⟩
        rcases S7 with A | ⟨b,cs,h1,h2,h3,h4,h5⟩
        ·exact .inl A
        ·exact .inr ⟨b,cs,h1,h2,h3,by rw [hadd_ne' (S6 _ _ _ _ h3),hadd_ne' (none_ne hbk h4)]; exact h4,h5⟩
      ·have hrb:rc = rb:=by
        cases ok
        ·exact Option.some.inj hs
        ·have st':¬ (c = 42 ∨ c = 43 ∨ c = 63):=fun e=>st ⟨rfl,by rcases e with e | e | e <;> simp [e]⟩
         simp only [if_true,if_neg st'] at hs
         exact Option.some.inj hs
       subst hrb
       (have hI:c.toNat < 42 ∨ c.toNat = 42 ∨ c.toNat = 43 ∨ 44 ≤ c.toNat ∧ c.toNat < 63 ∨ c.toNat = 63 ∨ 64 ≤ c.toNat:=(by omega)); rcases hI with hI | hI | hI | hI | hI | hI
       all_goals cases ok
       all_goals first
        | (exfalso; apply st; exact ⟨rfl,by omega⟩)
        | (((try simp -implicitDefEqProofs only [later,laterE,laterD,laterR]); (repeat (first | simp -implicitDefEqProofs only [go_sem,↓reduceIte,Nat.reduceEqDiff,Nat.reduceAdd,Nat.reduceLeDiff,Nat.reduceLT,Nat.reduceMul,reduceCtorEq,Int.reduceEq,Int.reduceLT,Int.reduceLE,Int.reduceNeg,Int.reduceToNat,Int.reduceMul,Int.reduceAdd,Int.reduceSub,t0,t2,t6,findK,keyEq] | simp (disch:=(first | omega | (simp only [go_sem]; done) | (simp only [lens]; omega))) only [cds,t0,t2,t6,findK,keyEq])))
           exact ⟨t3'',S5m _,hb,⟨v1,v2,v3,v4,v5,v6,hb6,w1,w2,w3,w4,w5,w6⟩,_,eb,R5.put hbm⟩)
    ·rintro ex ⟨t',ds⟩ h4 ⟨rfl,hd,t0,t2,t3'',t6,S7,hb,⟨v1,v2,v3,v4,v5,v6,hb6,w1,w2,w3,w4,w5,w6⟩,rb,eb,R5⟩
     simp only at hd t0 t2 t3'' t6; subst hd
     rw [eb] at hc
     obtain ⟨rb',eb',ob⟩:=star_ok (s:=s) k1 ra oa.fine (by omega)
     have:=Option.some.inj (eb.symm.trans eb'); subst this
     have obr:=ob.rem
     refine W8 t0 t2 t3'' t6 hb6 w1 w2 (And.intro w3 (And.intro w4 (And.intro w5 w6))) ?_
     intro bk hbk
     have zk:=R5.new hbk
     have R6:=R5.put (o:=AObj.cells [v1,v2,v3,v4,v5,v6] false) hbk
     have cN:RCells 1 [v1,v2,v3,v4,v5,v6]:=.cons w1 w2 w3 w4 w5 w6 .nil
     have n2k:b2 ≠ bk:=fun e=>by rw [← e,hb] at hbk; cases hbk
     have fin:∀ (h':H) (v:V) (ba:Nat) (cs:List V),RdAt h0 h' p s rb → h0 ba = none → ba ≠ p → ba ≠ b2 → h' ba = some (.cells cs false) → RCells (n + 1) cs → v = .sl ba 0 6 (n + 1) → h' b2 = some (.cells N0 false) → ∃ x':Nat × RS × Nat,x'.1 < k1 + 1 ∧ catM s x'.1 x'.2.1 = some r' ∧ x'.1 ≤ k ∧ RFine s x'.2.1 ∧ rem s x'.2.1 * 4 + 1 ≤ x'.1 ∧ x'.2.2 + rem s x'.2.1 ≤ 300 ∧ RdAt h0 h' p s x'.2.1 ∧ RSl h0 h' p b2 x'.2.2 v ∧ h' b2 = some (.cells N0 false):=fun h' v ba cs hR hz hp' hp2 hba hcs ht hb2 =>
      ⟨(k1,rb,n + 1),by show k1 < k1 + 1; omega,hc,by show k1 ≤ k; omega,ob.fine,by show rem s rb * 4 + 1 ≤ k1; omega,by show n + 1 + rem s rb ≤ 300; omega,hR,.inr ⟨ba,cs,⟨hz,hp',hp2⟩,by show 0 < n + 1; omega,ht,hba,hcs⟩,hb2⟩
     rcases S7 with ⟨e0,e3⟩ | ⟨b,cs,q1,q2,q3,q4,q5⟩
     ·subst e0
      refine W8 t0 t2 t3'' t6 hb6 w1 w2 (And.intro w3 (And.intro w4 (And.intro w5 (And.intro w6 e3)))) ?_
      intro ba hba
      refine W8 t0 t2 t3'' t6 hb6 w1 w2 (And.intro w3 (And.intro w4 (And.intro w5 (And.intro w6 e3)))) ?_
      have nb2:b2 ≠ ba:=fun e=>by rw [← e,hadd_ne' n2k,hb] at hba; cases hba
      exact fin _ _ ba [v1,v2,v3,v4,v5,v6] (R6.put hba) (R6.new hba) (Ne.symm (R6.ne hba)) (Ne.symm nb2) (by simp [hadd,hset]) cN rfl (by rw [hadd_ne' nb2,hadd_ne' n2k]; exact hb)
     ·have nbk:=none_ne hbk q4
      have cl:=q5.len
      refine W8 t0 t2 t3'' t6 hb6 w1 w2 (And.intro w3 (And.intro w4 (And.intro w5 (And.intro w6 (And.intro q3 (And.intro q4 cl)))))) ?_
      intro ba nba hba
      refine W8 t0 t2 t3'' t6 hb6 w1 w2 (And.intro w3 (And.intro w4 (And.intro w5 (And.intro w6 (And.intro q3 (And.intro q4 cl)))))) ?_
      have nb2:b2 ≠ ba:=fun e=>by rw [← e,hadd_ne' n2k,hb] at hba; cases hba
      have tk:List.take (n * 6) cs = cs:=List.take_of_length_le (by omega)
      rw [tk]
      refine fin _ _ ba _ ((R6.lose q1.1 q1.2.1).put (by unfold hset; rw [if_neg nba]; exact hba)) (R6.new hba) (Ne.symm (R6.ne hba)) (Ne.symm nb2) (by simp [hadd,hset]) (q5.app cN) rfl ?_
      rw [hadd_ne' nb2]; unfold hset; rw [if_neg (Ne.symm q1.2.2)]; rw [hadd_ne' n2k]; exact hb
 ·rintro ex ⟨t,ds⟩ h2 ⟨rfl,hd,t2,⟨n,S⟩,R2,hb⟩
  simp only at hd t2 S; subst hd
  have fin:∀ o v,RNode v → ∃ h3,Mir.Sub h3 (hadd h2 b2 o) ∧ Q v h3:=fun o v hv=>⟨_,Sub.refl,hq _ _ (R2.over z2 (Ne.symm np)) hv⟩
  rcases S with ⟨e0,e3⟩ | ⟨b,cs,q1,q2,q3,q4,q5⟩
  ·refine W3 t2 e3 hb ?_
   exact fin _ _ ⟨_,_,_,_,_,_,rfl,rfl,rfl,rfl,rfl,rfl,rfl⟩
  ·have cl:=q5.len
   by_cases n1:n = 1
   ·subst n1
    cases q5 with
    | cons w1 w2 w3 w4 w5 w6 q6 =>
      cases q6
      refine W8 t2 q3 q4 hb w1 w2 w3 (And.intro w4 (And.intro w5 w6)) ?_
      exact fin _ _ ⟨_,_,_,_,_,_,rfl,w1,w2,w3,w4,w5,w6⟩
   ·refine W3 t2 q3 hb ?_
    exact fin _ _ ⟨_,_,_,_,_,_,rfl,rfl,rfl,rfl,rfl,rfl,rfl⟩
theorem alt_ac (k:Nat) (hC:∀ j,j < k → CatC s j):AltC s k:=by
 intro h0 h p r Q R hf hk hq
 obtain ⟨r',er,ok⟩:=(reg_ok (s:=s) k).1 r hf hk
 have hq':=fun h' v=>hq h' v r' er ok
 have sm:=R.small
 have hrem:rem s r ≤ 300:=by unfold rem; split <;> omega
 obtain ⟨k,rfl⟩:∃ k',k = k' + 1:=⟨k - 1,by omega⟩
 rw [altM] at er
 refine AC.fn' (g:=g131) rfl (by simp only [List.length_cons,List.length_nil,g131]; decide) ?_; simp only [g131,Mir.Ab.all]
 refine W0 ?_
 intro b2 hb2
 have np:=R.ne hb2
 have z2:=R.new hb2
 have R1:=R.put (o:=AObj.cells N0 false) hb2
 have hb2':hadd h b2 (AObj.cells N0 false) b2 = some (.cells N0 false):=by simp [hadd,hset]
 refine W0 ?_
 unfold N0 at R1 hb2'
 generalize hadd h b2 _ = h1 at R1 hb2' ⊢
 refine hC k (by omega) _ _ _ _ _ R1.re hf (by omega) fun h3 v ra e3 oa R3 hv=>?_
 rw [e3] at er
 simp only [Option.bind_some] at er
 have R3':=R1.back R3
 have hb:=R3.keep (Ne.symm np) hb2'
 have oar:=oa.rem
 obtain ⟨v1,v2,v3,v4,v5,v6,rfl,w1,w2,w3,w4,w5,w6⟩:=hv
 refine W6 w1 w2 w3 w4 w5 w6 ?_
 intro bk hbk
 have n2k:b2 ≠ bk:=fun e=>by rw [← e,hb] at hbk; cases hbk
 have R4:=R3'.put (o:=AObj.cells [v1,v2,v3,v4,v5,v6] false) hbk
 have S4:RSl h0 (hadd h3 bk (AObj.cells [v1,v2,v3,v4,v5,v6] false)) p b2 1 (.sl bk 0 6 1):=.inr ⟨bk,_,⟨R3'.new hbk,Ne.symm (R3'.ne hbk),Ne.symm n2k⟩,by decide,rfl,by simp [hadd,hset],.cons w1 w2 w3 w4 w5 w6 .nil⟩
 have hb4:hadd h3 bk (AObj.cells [v1,v2,v3,v4,v5,v6] false) b2 = some (.cells N0 false):=by rw [hadd_ne' n2k]; exact hb
 refine W0 ?_
 generalize hadd h3 bk _ = h4 at R4 S4 hb4 ⊢
 refine rnext_ac2 R4 fun c ok2 e2 _=>?_
 refine W0 ?_
 refine E.cut AC.mono (fun ex a' h'=>ex = .exit 0 ∧ a'.d = [] ∧ a'.t 2 = .ptr b2 0 ∧ (∃ n,0 < n ∧ RSl h0 h' p b2 n (a'.t 3)) ∧ RdAt h0 h' p s r' ∧ h' b2 = some (.cells N0 false)) ?_ ?_
 ·refine E.loopX AC.mono (fun (x:Nat × RS × Nat) a' h'=>altL s x.1 x.2.1 = some r' ∧ x.1 ≤ k ∧ RFine s x.2.1 ∧ rem s x.2.1 * 4 + 1 ≤ x.1 ∧ 0 < x.2.2 ∧ x.2.2 + rem s x.2.1 ≤ 301 ∧ RdAt h0 h' p s x.2.1 ∧ a'.d = [] ∧ a'.t 0 = .ptr p 0 ∧ a'.t 2 = .ptr b2 0 ∧ RSl h0 h' p b2 x.2.2 (a'.t 3) ∧ h' b2 = some (.cells N0 false) ∧ ∃ (c:UInt8) (ok:Bool),x.2.1.next s = (if ok then some c else none) ∧ a'.t 4 = .int .u8 c.toNat ∧ a'.t 5 = .bool ok) (fun x=>x.1) (k,ra,1) ?_ ?_
  ·exact ⟨er,Nat.le_refl _,oa.fine,by show rem s ra * 4 + 1 ≤ k; omega,by show 0 < 1; omega,by show 1 + rem s ra ≤ 301; omega,R4,rfl,rfl,rfl,S4,hb4,c,ok2,e2,rfl,rfl⟩
  ·rintro ⟨k1,rr,n⟩ ⟨t,ds⟩ h2 ⟨hc,hk1,f1,hk2,hn0,hn,R2,hd,t0,t2,S2,hb,c,okb,e2,t4,t5⟩
   simp only at hc hk1 f1 hk2 hn0 hn R2 hd t0 t2 S2 e2 t4 t5; subst hd
   obtain ⟨k1,rfl⟩:∃ k',k1 = k' + 1:=⟨k1 - 1,by omega⟩
   have hp2:=R2.obj
   unfold rsC at hp2
   rw [altL] at hc
   by_cases e124:rr.next s = some 124
   ·rw [if_pos e124] at hc
    obtain ⟨st,rm,es⟩:=f1.step e124
    obtain ⟨n1,n2,-⟩:=next_some e124
    have q:okb = true ∧ c.toNat = 124:=by
     rw [e124] at e2
     cases okb
     ·cases e2
     ·have:=Option.some.inj e2; exact ⟨rfl,by rw [← this]; rfl⟩
    obtain ⟨rfl,d⟩:=q
    have R5:RdAt h0 (hadd h2 p (.cells [V.str s,V.int IntKind.i64 (↑rr.i + 1),V.int IntKind.i64 ↑rr.deep,V.int IntKind.i64 ↑rr.err,V.int IntKind.i64 ↑rr.bad] false)) p s rr.step:=by
     have R:=R2.setI (rr.i + 1) (by omega)
     rw [show ((rr.i + 1:Nat):Int) = rr.i + 1 from by omega] at R
     exact R
    have hb5:hadd h2 p (.cells [V.str s,V.int IntKind.i64 (↑rr.i + 1),V.int IntKind.i64 ↑rr.deep,V.int IntKind.i64 ↑rr.err,V.int IntKind.i64 ↑rr.bad] false) b2 = some (.cells N0 false):=by rw [hadd_ne' (Ne.symm np)]; exact hb
    have S5:RSl h0 (hadd h2 p (.cells [V.str s,V.int IntKind.i64 (↑rr.i + 1),V.int IntKind.i64 ↑rr.deep,V.int IntKind.i64 ↑rr.err,V.int IntKind.i64 ↑rr.bad] false)) p b2 n (t 3):=by
     rcases S2 with A | ⟨b,cs,h1,h2,h3,h4,h5⟩
     ·exact .inl A
     ·exact .inr ⟨b,cs,h1,h2,h3,by rw [hadd_ne' h1.2.1]; exact h4,h5⟩
    refine W5 t0 t2 t4 t5 hp2 ?_
    generalize hadd h2 p _ = h5 at R5 hb5 S5 ⊢
    refine hC k1 (by omega) _ _ _ _ _ R5.re st.fine (by omega) fun h6 v rb e6 ob R6 hv=>?_
    rw [e6] at hc
    simp only [Option.bind_some] at hc
    have R6':=R5.back R6
    have hb:=R6.keep (Ne.symm np) hb5
    have S6:=S5.keep R6
    have obr:=ob.rem
    obtain ⟨v1,v2,v3,v4,v5,v6,rfl,w1,w2,w3,w4,w5,w6⟩:=hv
    refine W8 w1 w2 w3 w4 w5 w6 t0 t2 ?_
    intro bk hbk
    have n2k:b2 ≠ bk:=fun e=>by rw [← e,hb] at hbk; cases hbk
    have R7:=R6'.put (o:=AObj.cells [v1,v2,v3,v4,v5,v6] false) hbk
    have cN:RCells 1 [v1,v2,v3,v4,v5,v6]:=.cons w1 w2 w3 w4 w5 w6 .nil
    rcases S6 with ⟨e0,e3⟩ | ⟨b,cs,q1,q2,q3,q4,q5⟩
    ·omega
    ·have nbk:=none_ne hbk q4
     have cl:=q5.len
     have tk:List.take (n * 6) cs = cs:=List.take_of_length_le (by omega)
     refine W8 t0 t2 w1 w2 w3 w4 w5 (And.intro w6 (And.intro q3 (And.intro q4 cl))) ?_
     intro ba nba hba
     have nb2:b2 ≠ ba:=fun e=>by rw [← e,hadd_ne' n2k,hb] at hba; cases hba
     refine W8 t0 t2 w1 w2 w3 w4 w5 (And.intro w6 (And.intro q3 (And.intro q4 (And.intro cl tk)))) ?_
     have R8:RdAt h0 (hadd (hset (hadd h6 bk (AObj.cells [v1,v2,v3,v4,v5,v6] false)) b none) ba (AObj.cells (cs ++ [v1,v2,v3,v4,v5,v6]) false)) p s rb:=(R7.lose q1.1 q1.2.1).put (by unfold hset; rw [if_neg nba]; exact hba)
     have hb8:hadd (hset (hadd h6 bk (AObj.cells [v1,v2,v3,v4,v5,v6] false)) b none) ba (AObj.cells (cs ++ [v1,v2,v3,v4,v5,v6]) false) b2 = some (.cells N0 false):=by
      rw [hadd_ne' nb2]; unfold hset; rw [if_neg (Ne.symm q1.2.2)]; rw [hadd_ne' n2k]; exact hb
     have S8:RSl h0 (hadd (hset (hadd h6 bk (AObj.cells [v1,v2,v3,v4,v5,v6] false)) b none) ba (AObj.cells (cs ++ [v1,v2,v3,v4,v5,v6]) false)) p b2 (n + 1) (.sl ba 0 6 (n + 1)):=.inr ⟨ba,_,⟨R7.new hba,Ne.symm (R7.ne hba),Ne.symm nb2⟩,by omega,rfl,by simp [hadd,hset],q5.app cN⟩
     generalize hadd (hset (hadd h6 bk (AObj.cells [v1,v2,v3,v4,v5,v6] false)) b none) ba _ = h8 at R8 hb8 S8 ⊢
     refine rnext_ac2 R8 fun c3 ok3 e9 _=>?_
     refine W2 t0 t2 ?_
     exact ⟨(k1,rb,n + 1),by show k1 < k1 + 1; omega,hc,by show k1 ≤ k; omega,ob.fine,by show rem s rb * 4 + 1 ≤ k1; omega,by show 0 < n + 1; omega,by show n + 1 + rem s rb ≤ 301; omega,R8,S8,hb8,c3,ok3,e9,rfl,rfl⟩
   ·rw [if_neg e124] at hc
    have:=Option.some.inj hc; subst this
    cases okb
    ·refine W4 t0 t2 t4 t5 ?_
     exact ⟨⟨n,hn0,S2⟩,R2,hb⟩
    ·have d:¬ c.toNat = 124:=fun e=>e124 (by rw [e2,(u8_eq.2 e:c = 124)]; rfl)
     refine W4 t0 t2 t4 t5 ?_
     exact ⟨⟨n,hn0,S2⟩,R2,hb⟩
 ·rintro ex ⟨t,ds⟩ h2 ⟨rfl,hd,t2,⟨n,hn,S⟩,R2,hb⟩
  simp only at hd t2 S; subst hd
  have fin:∀ o v,RNode v → ∃ h3,Mir.Sub h3 (hadd h2 b2 o) ∧ Q v h3:=fun o v hv=>⟨_,Sub.refl,hq' _ _ (R2.over z2 (Ne.symm np)) hv⟩
  rcases S with ⟨e0,e3⟩ | ⟨b,cs,q1,q2,q3,q4,q5⟩
  ·omega
  ·have cl:=q5.len
   by_cases n1:n = 1
   ·subst n1
    cases q5 with
    | cons w1 w2 w3 w4 w5 w6 q6 =>
      cases q6
      refine W8 t2 q3 q4 hb w1 w2 w3 (And.intro w4 (And.intro w5 w6)) ?_
      exact fin _ _ ⟨_,_,_,_,_,_,rfl,w1,w2,w3,w4,w5,w6⟩
   ·refine W3 t2 q3 hb ?_
    exact fin _ _ ⟨_,_,_,_,_,_,rfl,rfl,rfl,rfl,rfl,rfl,rfl⟩
theorem reg_ac (k:Nat):AltC s k ∧ CatC s k ∧ AtomC s k:=by
 induction k using Nat.strongRecOn with
 | ind k ih =>
   refine ⟨alt_ac k fun j hj=>(ih j hj).2.1,cat_ac k fun j hj=>(ih j hj).2.2,?_⟩
   cases k with
   | zero=>intro h0 h p r c Q R hf e hk; have:=rem_pos e; omega
   | succ k=>exact atom_ac k (ih k (Nat.lt_succ_self k)).1
end Go.Proofs.YtkfbldogmgofoaaGreatDoor
namespace Go.Proofs.YtkfbldogmgofoaaGreatDoor
open Mir
variable {h:H} {Q:V → H → Prop}
theorem reParse_ac (t:Txt) (ht:t.length < 1000000) (hq:∀ h' v (a:Nat),Sub h h' → RNode v → Q (.tup [v,.int .i64 a,.int .i64 (reErr t)]) h'):AC pg (.fn 129) [.str t] h Q:=by
 refine AC.fn' (g:=g129) rfl (by simp only [List.length_cons,List.length_nil,g129]; decide) ?_; simp only [g129,Mir.Ab.all]
 by_cases c:300 < t.length
 ·have e:reErr t = 12:=by simp [reErr,regM,c]
  rw [e] at hq
  refine W0 ?_
  intro b2 hb2
  refine W0 ?_
  exact ⟨_,(fun x o hx=>by repeat (first | exact hx | rw [hadd_ne' (none_ne hb2 hx)])),hq _ _ 0 (Sub.refl.put hb2) ⟨_,_,_,_,_,_,rfl,rfl,rfl,rfl,rfl,rfl,rfl⟩⟩
 ·have f0:RFine t ⟨0,0,0,0⟩:=⟨fun _=>⟨Nat.zero_le _,Nat.zero_le _⟩,by show 0 + 0 ≤ _; omega⟩
  have hrem:rem t ⟨0,0,0,0⟩ = t.length:=by simp [rem]
  refine W0 ?_
  intro b2 hb2
  refine W0 ?_
  intro b5 hb5
  have n25:b2 ≠ b5:=fun e=>by rw [← e] at hb5; simp [hadd,hset] at hb5
  have z5:h b5 = none:=by rw [hadd_ne' (Ne.symm n25)] at hb5; exact hb5
  have R:RdAt (hadd h b2 (AObj.cells N0 false)) (hadd (hadd h b2 (AObj.cells N0 false)) b5 (.cells (rsC t ⟨0,0,0,0⟩) false)) b5 t ⟨0,0,0,0⟩ :=
   ⟨by simp [hadd,hset],hb5,(fun x o hx=>by repeat (first | exact hx | rw [hadd_ne' (none_ne hb5 hx)])),by omega,by show 0 ≤ 100000; omega,by show 0 ≤ 100000; omega⟩
  refine W0 ?_
  refine (reg_ac (4 * t.length + 10)).1 _ _ _ _ _ R f0 (by omega) fun h3 v r' e ok R3 hv=>?_
  have hp3:=R3.obj
  unfold rsC at hp3
  have hb2':=R3.sub b2 (.cells N0 false) (by simp [hadd,hset])
  obtain ⟨v1,v2,v3,v4,v5,v6,rfl,w1,w2,w3,w4,w5,w6⟩:=hv
  have er:reErr t = if r'.err ≠ 0 then r'.err else 0:=by
   unfold reErr regM
   rw [if_neg c,e]
   simp only [Option.map_some,Option.getD_some]
   split <;> rfl
  refine W0 ?_
  intro b6 hb6
  have n52:b2 ≠ b6:=fun e=>by rw [← e,hb2'] at hb6; cases hb6
  have np6:=R3.ne hb6
  have s3:Sub h h3:=fun x o hx=>R3.sub _ _ (by rw [hadd_ne' (none_ne hb2 hx)]; exact hx)
  have z6:h b6 = none:=by
   cases e:h b6 with
   | none=>rfl
   | some o=>rw [s3 _ _ e] at hb6; cases hb6
  have s4:∀ o o',Sub h (hadd (hadd h3 b6 o) b2 o'):=fun o o' x q hx=>by rw [hadd_ne' (none_ne hb2 hx),hadd_ne' (none_ne z6 hx)]; exact s3 _ _ hx
  by_cases e0:r'.err = 0
  ·rw [if_neg (by omega)] at er
   rw [er] at hq
   refine W8 hp3 w1 w2 w3 w4 w5 w6 (And.intro hb2' (And.intro np6 n52)) ?_
   exact ⟨_,Sub.refl,hq _ _ 0 (s4 _ _) ⟨_,_,_,_,_,_,rfl,w1,w2,w3,w4,w5,w6⟩⟩
  ·rw [if_pos e0] at er
   rw [er] at hq
   refine W8 hp3 w1 w2 w3 w4 w5 w6 (And.intro hb2' (And.intro np6 n52)) ?_
   exact ⟨_,Sub.refl,hq _ _ _ (s4 _ _) ⟨_,_,_,_,_,_,rfl,rfl,rfl,rfl,rfl,rfl,rfl⟩⟩
end Go.Proofs.YtkfbldogmgofoaaGreatDoor
namespace Go.Proofs.YtkfbldogmgofoaaGreatDoor
open Mir
variable {h:H} {Q:V → H → Prop}
mutual
inductive NodeV (h0 h:H) (p:Nat):Tree → V → Prop
 | mk {op t:Txt} {a:Nat} {l:List Tree} {kv:V}:KidsV h0 h p l kv → NodeV h0 h p (.nd op t a l) (.agg [.str op,.str t,.int .i64 a,kv])
inductive KidsV (h0 h:H) (p:Nat):List Tree → V → Prop
 | nil:KidsV h0 h p [] .nilsl
 | sl {l:List Tree} {b:Nat} {cs:List V}:l ≠ [] → h0 b = none → b ≠ p → h b = some (.cells cs false) → CellsV h0 h p l cs → KidsV h0 h p l (.sl b 0 4 l.length)
inductive CellsV (h0 h:H) (p:Nat):List Tree → List V → Prop
 | nil:CellsV h0 h p [] []
 | cons {op t:Txt} {a:Nat} {l:List Tree} {kv:V} {ns:List Tree} {cs:List V}:KidsV h0 h p l kv → CellsV h0 h p ns cs → CellsV h0 h p (.nd op t a l :: ns) (.str op :: .str t :: .int .i64 a :: kv :: cs)
end
section
variable {h0 h1 h':H} {p:Nat}
mutual
theorem NodeV.move (hm:∀ c o,h0 c = none → c ≠ p → h c = some o → h1 c = none ∧ h' c = some o):∀ {t:Tree} {v:V},NodeV h0 h p t v → NodeV h1 h' p t v
 | _,_,.mk k=>.mk (KidsV.move hm k)
theorem KidsV.move (hm:∀ c o,h0 c = none → c ≠ p → h c = some o → h1 c = none ∧ h' c = some o):∀ {l:List Tree} {v:V},KidsV h0 h p l v → KidsV h1 h' p l v
 | _,_,.nil=>.nil
 | _,_,.sl a b c d e=>.sl a (hm _ _ b c d).1 c (hm _ _ b c d).2 (CellsV.move hm e)
theorem CellsV.move (hm:∀ c o,h0 c = none → c ≠ p → h c = some o → h1 c = none ∧ h' c = some o):∀ {l:List Tree} {cs:List V},CellsV h0 h p l cs → CellsV h1 h' p l cs
 | _,_,.nil=>.nil
 | _,_,.cons k c=>.cons (KidsV.move hm k) (CellsV.move hm c)
end
end
theorem KidsV.flat {h0:H} {p:Nat} {l:List Tree} {v:V} (k:KidsV h0 h p l v):v.flat = true:=by cases k <;> rfl
theorem CellsV.flat {h0:H} {p:Nat} {l:List Tree} {cs:List V} (k:CellsV h0 h p l cs):cs.all V.flat = true:=by
 induction l generalizing cs with
 | nil=>cases k; rfl
 | cons t l ih=>cases k with | cons a b=>have:=a.flat; simp only [List.all_cons,this,ih b,Bool.and_self,show ∀ s,V.flat (.str s) = true from fun _=>rfl,show ∀ k n,V.flat (.int k n) = true from fun _ _=>rfl]
theorem CellsV.len {h0:H} {p:Nat} {l:List Tree} {cs:List V} (k:CellsV h0 h p l cs):cs.length = 4 * l.length:=by
 induction l generalizing cs with
 | nil=>cases k; rfl
 | cons t l ih=>cases k with | cons a b=>simp only [List.length_cons,ih b]; omega
theorem CellsV.app {h0:H} {p:Nat} {l m:List Tree} {cs ds:List V} (k:CellsV h0 h p l cs) (k':CellsV h0 h p m ds):CellsV h0 h p (l ++ m) (cs ++ ds):=by
 induction l generalizing cs with
 | nil=>cases k; exact k'
 | cons t l ih=>cases k with | cons a b=>exact .cons a (ih b)
theorem CellsV.one {h0:H} {p:Nat} {t:Tree} {cs:List V} (k:NodeV h0 h p t (.agg cs)):CellsV h0 h p [t] cs:=by cases k with | mk k=>exact .cons k .nil
def psC (tb n:Nat) (s:PS):List V:=[.sl tb 0 3 n,.int .i64 s.i,.int .i64 s.deep,.bool s.flat,.int .i64 s.err,.int .i64 s.bad]
structure PAt (h0 h:H) (p tb:Nat) (T:List Tokn) (s:PS):Prop where
 obj:h p = some (.cells (psC tb T.length s) false)
 toks:h0 tb = some (.cells (flat T) false)
 glob:∃ m,h0 4 = some (.cells [.int .i64 m] true)
 base:h0 p = none
 sub:Sub h0 h
 small:T.length ≤ 100000
 lt:s.i < T.length
 deep:s.deep ≤ 100000
variable {h0 h':H} {p tb:Nat} {T:List Tokn} {s s':PS}
theorem PAt.nt (A:PAt h0 h p tb T s):tb ≠ p:=none_ne A.base A.toks
theorem PAt.tk (A:PAt h0 h p tb T s):h tb = some (.cells (flat T) false):=A.sub _ _ A.toks
theorem PAt.set (A:PAt h0 h p tb T s) (s':PS) (hi:s'.i < T.length) (hd:s'.deep ≤ 100000):PAt h0 (hadd h p (.cells (psC tb T.length s') false)) p tb T s' :=
 ⟨by simp [hadd,hset],A.toks,A.glob,A.base,fun b o hb=>by rw [hadd_ne' (none_ne A.base hb)]; exact A.sub _ _ hb,A.small,hi,hd⟩
theorem PAt.ne (A:PAt h0 h p tb T s) {b:Nat} (hb:h b = none):p ≠ b:=fun e=>by rw [← e,A.obj] at hb; cases hb
theorem PAt.new (A:PAt h0 h p tb T s) {b:Nat} (hb:h b = none):h0 b = none:=by
 cases e:h0 b with
 | none=>rfl
 | some o=>rw [A.sub _ _ e] at hb; cases hb
theorem PAt.over (A:PAt h0 h p tb T s) {b:Nat} {o:AObj} (z:h0 b = none) (n:b ≠ p):PAt h0 (hadd h b o) p tb T s :=
 ⟨by rw [hadd_ne' (Ne.symm n)]; exact A.obj,A.toks,A.glob,A.base,fun x o hx=>by rw [hadd_ne' (none_ne z hx)]; exact A.sub _ _ hx,A.small,A.lt,A.deep⟩
theorem PAt.put (A:PAt h0 h p tb T s) {b:Nat} {o:AObj} (hb:h b = none):PAt h0 (hadd h b o) p tb T s:=A.over (A.new hb) (Ne.symm (A.ne hb))
theorem PAt.lose (A:PAt h0 h p tb T s) {b:Nat} (z:h0 b = none) (n:b ≠ p):PAt h0 (hset h b none) p tb T s :=
 ⟨by unfold hset; rw [if_neg (Ne.symm n)]; exact A.obj,A.toks,A.glob,A.base,fun x o hx=>by unfold hset; rw [if_neg (none_ne z hx)]; exact A.sub _ _ hx,A.small,A.lt,A.deep⟩
theorem PAt.re (A:PAt h0 h p tb T s):PAt (hset h p none) h p tb T s :=
 ⟨A.obj,by unfold hset; rw [if_neg A.nt]; exact A.tk,A.glob.imp fun m hm=>by unfold hset; rw [if_neg (none_ne A.base hm)]; exact A.sub _ _ hm,by simp [hset],fun x o hx=>by unfold hset at hx; split at hx; (cases hx); exact hx,A.small,A.lt,A.deep⟩
theorem PAt.back (A:PAt h0 h p tb T s) (A':PAt (hset h p none) h' p tb T s'):PAt h0 h' p tb T s' :=
 ⟨A'.obj,A.toks,A.glob,A.base,fun x o hx=>A'.sub _ _ (by unfold hset; rw [if_neg (none_ne A.base hx)]; exact A.sub _ _ hx),A'.small,A'.lt,A'.deep⟩
theorem PAt.keep (A':PAt (hset h p none) h' p tb T s') {b:Nat} {o:AObj} (n:b ≠ p) (hb:h b = some o):h' b = some o :=
 A'.sub _ _ (by unfold hset; rw [if_neg n]; exact hb)
theorem NodeV.keep {t:Tree} {v:V} (k:NodeV h0 h p t v) (A':PAt (hset h p none) h' p tb T s'):NodeV h0 h' p t v :=
 NodeV.move (fun c o z n hc=>⟨z,A'.keep n hc⟩) k
theorem KidsV.keep {l:List Tree} {v:V} (k:KidsV h0 h p l v) (A':PAt (hset h p none) h' p tb T s'):KidsV h0 h' p l v :=
 KidsV.move (fun c o z n hc=>⟨z,A'.keep n hc⟩) k
theorem CellsV.keep {l:List Tree} {v:List V} (k:CellsV h0 h p l v) (A':PAt (hset h p none) h' p tb T s'):CellsV h0 h' p l v :=
 CellsV.move (fun c o z n hc=>⟨z,A'.keep n hc⟩) k
theorem NodeV.back {t:Tree} {v:V} (A:PAt h0 h p tb T s) (k:NodeV (hset h p none) h' p t v):NodeV h0 h' p t v :=
 NodeV.move (fun c o z n hc=>⟨by
  cases e:h0 c with
  | none=>rfl
  | some o'=>(simp only [hset,if_neg n] at z; rw [A.sub _ _ e] at z; cases z),hc⟩) k
theorem NodeV.put {t:Tree} {v:V} (k:NodeV h0 h p t v) {b:Nat} {o:AObj} (hb:h b = none):NodeV h0 (hadd h b o) p t v :=
 NodeV.move (fun c o z n hc=>⟨z,by rw [hadd_ne' (none_ne hb hc)]; exact hc⟩) k
theorem KidsV.put {t:List Tree} {v:V} (k:KidsV h0 h p t v) {b:Nat} {o:AObj} (hb:h b = none):KidsV h0 (hadd h b o) p t v :=
 KidsV.move (fun c o z n hc=>⟨z,by rw [hadd_ne' (none_ne hb hc)]; exact hc⟩) k
theorem CellsV.put {t:List Tree} {v:List V} (k:CellsV h0 h p t v) {b:Nat} {o:AObj} (hb:h b = none):CellsV h0 (hadd h b o) p t v :=
 CellsV.move (fun c o z n hc=>⟨z,by rw [hadd_ne' (none_ne hb hc)]; exact hc⟩) k
theorem NodeV.set {t:Tree} {v:V} (k:NodeV h0 h p t v) {o:AObj}:NodeV h0 (hadd h p o) p t v :=
 NodeV.move (fun c o z n hc=>⟨z,by rw [hadd_ne' n]; exact hc⟩) k
theorem flat_at:∀ (T:List Tokn) (i:Nat),i < T.length → ((flat T).drop (i * 3)).take 3 = tokC (T.getD i tkz)
 | [],_,h=>absurd h (Nat.not_lt_zero _)
 | t :: T,0,_=>rfl
 | t :: T,i + 1,h=>by
   have:=flat_at T i (by simpa using h)
   rw [show (i + 1) * 3 = i * 3 + 3 from by omega]
   simpa [flat,tokC] using this
theorem cur_ac (A:PAt h0 h p tb T s) (hq:Q (.agg (tokC (s.cur T))) h):AC pg (.fn 27) [.ptr p 0] h Q:=by
 have hp:=A.obj
 have ht:=A.tk
 have hl:=A.lt
 have sm:=A.small
 have fl:=flat_len T
 unfold psC at hp
 refine AC.fn' (g:=g27) rfl (by simp only [List.length_cons,List.length_nil,g27]; decide) ?_; simp only [g27,Mir.Ab.all]
 refine W0 ?_
 intro b2 hb2
 have n2:=A.ne hb2
 have nt2:tb ≠ b2:=fun e=>by rw [← e,ht] at hb2; cases hb2
 by_cases c:s.err = 0
 ·rw [show s.cur T = T.getD s.i tkz from by simp [PS.cur,c]] at hq
  have e:=flat_at T s.i hl
  ((try simp -implicitDefEqProofs only [later,laterE,laterD,laterR]); (repeat (first | simp -implicitDefEqProofs only [go_sem,↓reduceIte,Nat.reduceEqDiff,Nat.reduceAdd,Nat.reduceLeDiff,Nat.reduceLT,Nat.reduceMul,reduceCtorEq,Int.reduceEq,Int.reduceLT,Int.reduceLE,Int.reduceNeg,Int.reduceToNat,Int.reduceMul,Int.reduceAdd,Int.reduceSub,hp,ht,e,fl,tokC] | simp (disch:=(first | omega | (simp only [go_sem]; done) | (simp only [lens]; omega))) only [cds,hp,ht,e,fl,tokC])))
  exact ⟨h,(fun x o hx=>by repeat (first | exact hx | rw [hadd_ne' (none_ne hb2 hx)])),hq⟩
 ·rw [show s.cur T = tkz from by simp [PS.cur,c]] at hq
  refine W1 hp ?_
  exact ⟨h,(fun x o hx=>by repeat (first | exact hx | rw [hadd_ne' (none_ne hb2 hx)])),hq⟩
end Go.Proofs.YtkfbldogmgofoaaGreatDoor
namespace Go.Proofs.YtkfbldogmgofoaaGreatDoor
open Mir
variable {h:H} {Q:V → H → Prop} {h0 h':H} {p tb:Nat} {T:List Tokn} {s s':PS}
theorem at_ac (A:PAt h0 h p tb T s) {b:Nat} {ss:List Txt} (hb:h b = some (.cells (ss.map .str) false)) (hn:ss.length < 1000) (hq:Q (.bool (s.isAt T ss)) h) :
  AC pg (.fn 26) [.ptr p 0,.sl b 0 1 ss.length] h Q:=by
 refine AC.fn' (g:=g26) rfl (by simp only [List.length_cons,List.length_nil,g26]; decide) ?_; simp only [g26,Mir.Ab.all]
 refine W0 ?_
 refine cur_ac A ?_
 unfold tokC
 refine W0 ?_
 intro b2 hb2
 have hb':∀ o,hadd h b2 o b = some (.cells (ss.map .str) false):=fun o=>by rw [hadd_ne' (none_ne hb2 hb)]; exact hb
 unfold PS.isAt at hq
 by_cases c8:(s.cur T).k = 8
 ·refine W0 ?_
  refine containsS_ac (hb' _) (by omega) _ ?_
  refine W0 ?_
  simp only [c8,decide_true,Bool.true_or,Bool.true_and] at hq
  exact ⟨h,(fun x o hx=>by repeat (first | exact hx | rw [hadd_ne' (none_ne hb2 hx)])),hq⟩
 ·by_cases c7:(s.cur T).k = 7
  ·refine W0 ?_
   refine containsS_ac (hb' _) (by omega) _ ?_
   refine W0 ?_
   simp only [c7,decide_true,Bool.or_true,Bool.true_and] at hq
   exact ⟨h,(fun x o hx=>by repeat (first | exact hx | rw [hadd_ne' (none_ne hb2 hx)])),hq⟩
  ·refine W0 ?_
   simp only [c8,c7,decide_false,Bool.false_or,Bool.false_and] at hq
   exact ⟨h,(fun x o hx=>by repeat (first | exact hx | rw [hadd_ne' (none_ne hb2 hx)])),hq⟩
theorem step_ac (A:PAt h0 h p tb T s) (hq:∀ h',PAt h0 h' p tb T (s.step T) → Q (.tup []) h'):AC pg (.fn 28) [.ptr p 0] h Q:=by
 have hp:=A.obj
 have hl:=A.lt
 have sm:=A.small
 unfold psC at hp
 refine AC.fn' (g:=g28) rfl (by simp only [List.length_cons,List.length_nil,g28]; decide) ?_; simp only [g28,Mir.Ab.all]
 by_cases c:s.err = 0
 ·by_cases c1:s.i + 1 < T.length
  ·rw [show s.step T = { s with i:=s.i + 1 } from by simp [PS.step,c,c1]] at hq
   have B:PAt h0 (hadd h p (.cells [.sl tb 0 3 T.length,.int .i64 (↑s.i + 1),.int .i64 s.deep,.bool s.flat,.int .i64 s.err,.int .i64 s.bad] false)) p tb T { s with i:=s.i + 1 }:=by
    have:=A.set { s with i:=s.i + 1 } c1 A.deep
    unfold psC at this
    rw [show ((({ s with i:=s.i + 1 }:PS).i:Nat):Int) = s.i + 1 from by show ((s.i + 1:Nat):Int) = _; omega] at this
    exact this
   refine W1 hp ?_
   exact ⟨_,Sub.refl,hq _ B⟩
  ·rw [show s.step T = s from by simp [PS.step,c1]] at hq
   refine W1 hp ?_
   exact ⟨_,Sub.refl,hq _ A⟩
 ·rw [show s.step T = s from by simp [PS.step,c]] at hq
  refine W1 hp ?_
  exact ⟨_,Sub.refl,hq _ A⟩
theorem PAt.setE (A:PAt h0 h p tb T s) (e b:Nat):PAt h0 (hadd h p (.cells [.sl tb 0 3 T.length,.int .i64 s.i,.int .i64 s.deep,.bool s.flat,.int .i64 e,.int .i64 b] false)) p tb T { s with err:=e,bad:=b } :=
 A.set { s with err:=e,bad:=b } A.lt A.deep
theorem PAt.setF (A:PAt h0 h p tb T s) (f:Bool):PAt h0 (hadd h p (.cells [.sl tb 0 3 T.length,.int .i64 s.i,.int .i64 s.deep,.bool f,.int .i64 s.err,.int .i64 s.bad] false)) p tb T { s with flat:=f } :=
 A.set { s with flat:=f } A.lt A.deep
theorem fail_ac (A:PAt h0 h p tb T s) (hq:∀ h',PAt h0 h' p tb T (s.fail T) → Q (.tup []) h'):AC pg (.fn 47) [.ptr p 0] h Q:=by
 refine AC.fn' (g:=g47) rfl (by simp only [List.length_cons,List.length_nil,g47]; decide) ?_; simp only [g47,Mir.Ab.all]
 refine W0 ?_
 refine cur_ac A ?_
 unfold tokC
 refine W0 ?_
 intro b2 hb2
 have n2:=A.ne hb2
 have z2:=A.new hb2
 have A1:=A.put (o:=AObj.cells [V.int IntKind.i64 ↑(s.cur T).k,V.str (s.cur T).t,V.int IntKind.i64 ↑(s.cur T).a] false) hb2
 have hp:=A.obj
 unfold psC at hp
 unfold PS.fail at hq
 by_cases c:s.err = 0
 ·rw [if_neg (by omega)] at hq
  by_cases c10:(s.cur T).k = 10
  ·rw [if_pos (.inl c10)] at hq
   refine W1 hp ?_
   exact ⟨_,Sub.refl,hq _ (A1.setE 10 (s.cur T).a)⟩
  ·by_cases c8:(s.cur T).k = 8
   ·by_cases ct:(s.cur T).t = [124]
    ·rw [if_pos (.inr ⟨c8,ct⟩)] at hq
     refine W2 hp ct ?_
     exact ⟨_,Sub.refl,hq _ (by have:=A1.setE 10 (s.cur T).a; rw [ct] at this; exact this)⟩
    ·rw [if_neg (by simp [c10,ct])] at hq
     refine W2 hp ct ?_
     exact ⟨_,Sub.refl,hq _ (A1.setE 9 (s.cur T).a)⟩
   ·rw [if_neg (by simp [c10,c8])] at hq
    refine W1 hp ?_
    exact ⟨_,Sub.refl,hq _ (A1.setE 9 (s.cur T).a)⟩
 ·rw [if_pos c] at hq
  refine W1 hp ?_
  exact ⟨_,Sub.refl,hq _ A1⟩
theorem accept_ac (A:PAt h0 h p tb T s) (x:Txt) (hq:∀ h',PAt h0 h' p tb T (if s.isAt T [x] = true then s.step T else s) → Q (.bool (s.isAt T [x])) h'):AC pg (.fn 40) [.ptr p 0,.str x] h Q:=by
 refine AC.fn' (g:=g40) rfl (by simp only [List.length_cons,List.length_nil,g40]; decide) ?_; simp only [g40,Mir.Ab.all]
 refine W0 ?_
 intro b2 hb2
 refine W0 ?_
 refine at_ac (ss:=[x]) (A.put hb2) (by simp [hadd,hset]) (by simp) ?_
 cases e:s.isAt T [x]
 ·rw [e] at hq
  refine W0 ?_
  exact ⟨h,(fun x o hx=>by repeat (first | exact hx | rw [hadd_ne' (none_ne hb2 hx)])),hq _ A⟩
 ·rw [e] at hq
  refine W0 ?_
  refine step_ac (A.put hb2) fun h1 A1=>?_
  refine W0 ?_
  exact ⟨_,Sub.refl,hq _ A1⟩
theorem expect_ac (A:PAt h0 h p tb T s) (x:Txt) (hq:∀ h',PAt h0 h' p tb T (s.expect T x) → Q (.tup []) h'):AC pg (.fn 44) [.ptr p 0,.str x] h Q:=by
 refine AC.fn' (g:=g44) rfl (by simp only [List.length_cons,List.length_nil,g44]; decide) ?_; simp only [g44,Mir.Ab.all]
 refine W0 ?_
 refine accept_ac A x fun h1 A1=>?_
 unfold PS.expect at hq
 cases e:s.isAt T [x]
 ·simp only [e,if_false,Bool.false_eq_true] at hq A1
  refine W0 ?_
  refine fail_ac A1 fun h2 A2=>?_
  refine W0 ?_
  exact ⟨_,Sub.refl,hq _ A2⟩
 ·simp only [e,if_true] at hq A1
  refine W0 ?_
  exact ⟨_,Sub.refl,hq _ A1⟩
theorem down_ac (A:PAt h0 h p tb T s) (hd:s.deep < 1000) (hq:∀ h',PAt h0 h' p tb T (s.down T) → Q (.tup []) h'):AC pg (.fn 71) [.ptr p 0] h Q:=by
 have hp:=A.obj
 unfold psC at hp
 unfold PS.down at hq
 have B:PAt h0 (hadd h p (.cells [.sl tb 0 3 T.length,.int .i64 s.i,.int .i64 (↑s.deep + 1),.bool s.flat,.int .i64 s.err,.int .i64 s.bad] false)) p tb T { s with deep:=s.deep + 1 }:=by
  have:=A.set { s with deep:=s.deep + 1 } A.lt (by show s.deep + 1 ≤ _; omega)
  unfold psC at this
  rw [show ((({ s with deep:=s.deep + 1 }:PS).deep:Nat):Int) = s.deep + 1 from by show ((s.deep + 1:Nat):Int) = _; omega] at this
  exact this
 refine AC.fn' (g:=g71) rfl (by simp only [List.length_cons,List.length_nil,g71]; decide) ?_; simp only [g71,Mir.Ab.all]
 by_cases c:50 < s.deep + 1
 ·by_cases c1:s.err = 0
  ·rw [if_pos ⟨c,c1⟩] at hq
   refine W1 hp ?_
   refine cur_ac B ?_
   rw [show ({ s with deep:=s.deep + 1 }:PS).cur T = s.cur T from rfl]
   unfold tokC
   have B2:=B.setE 14 (s.cur T).a
   rw [show ((({ s with deep:=s.deep + 1 }:PS).deep:Nat):Int) = s.deep + 1 from by show ((s.deep + 1:Nat):Int) = _; omega] at B2
   refine W0 ?_
   rw [hadd_twice] at B2
   exact ⟨_,Sub.refl,hq _ B2⟩
  ·rw [if_neg (by simp [c1])] at hq
   refine W1 hp ?_
   exact ⟨_,Sub.refl,hq _ B⟩
 ·rw [if_neg (by simp [c])] at hq
  refine W1 hp ?_
  exact ⟨_,Sub.refl,hq _ B⟩
theorem up_ac (A:PAt h0 h p tb T s) (hd:1 ≤ s.deep) (hq:∀ h',PAt h0 h' p tb T s.up → Q (.tup []) h'):AC pg (.fn 72) [.ptr p 0] h Q:=by
 have hp:=A.obj
 have dd:=A.deep
 unfold psC at hp
 have B:PAt h0 (hadd h p (.cells [.sl tb 0 3 T.length,.int .i64 s.i,.int .i64 (↑s.deep - 1),.bool s.flat,.int .i64 s.err,.int .i64 s.bad] false)) p tb T s.up:=by
  have:=A.set s.up A.lt (by show s.deep - 1 ≤ _; omega)
  unfold psC at this
  rw [show ((s.up.deep:Nat):Int) = s.deep - 1 from by show ((s.deep - 1:Nat):Int) = _; omega] at this
  exact this
 refine AC.fn' (g:=g72) rfl (by simp only [List.length_cons,List.length_nil,g72]; decide) ?_; simp only [g72,Mir.Ab.all]
 refine W1 hp ?_
 exact ⟨_,Sub.refl,hq _ B⟩
theorem lines_ac (A:PAt h0 h p tb T s) (hE:(T.getD (T.length - 1) tkz).k = 0) (hq:∀ h',PAt h0 h' p tb T (s.lines T) → Q (.tup []) h'):AC pg (.fn 45) [.ptr p 0] h Q:=by
 refine AC.fn' (g:=g45) rfl (by simp only [List.length_cons,List.length_nil,g45]; decide) ?_; simp only [g45,Mir.Ab.all]
 refine W0 ?_
 refine E.loopX AC.mono (fun (x:Nat × PS) a' h'=>linesN T x.1 x.2 = s.lines T ∧ (x.2.err = 0 → T.length ≤ x.2.i + x.1) ∧ PAt h0 h' p tb T x.2 ∧ a'.d = [] ∧ a'.t 0 = .ptr p 0) (fun x=>x.1) (T.length,s) ?_ ?_
 ·exact ⟨rfl,fun _=>by show T.length ≤ s.i + T.length; omega,A,rfl,rfl⟩
 ·rintro ⟨k,r⟩ ⟨t,ds⟩ h2 ⟨hk,hr,A2,hd,t0⟩
  simp only at hk hr A2 hd t0; subst hd
  have hl:=A2.lt
  refine W1 t0 ?_
  refine cur_ac A2 ?_
  unfold tokC
  by_cases c:(r.cur T).k = 1
  ·have e0:r.err = 0:=by
    unfold PS.cur at c
    split at c
    ·cases c
    ·omega
   have ne:r.i ≠ T.length - 1:=fun e=>by
    unfold PS.cur at c
    rw [if_neg (by omega),e,hE] at c; cases c
   obtain ⟨k,rfl⟩:∃ k',k = k' + 1:=⟨k - 1,by have:=hr e0; omega⟩
   rw [linesN,if_pos c] at hk
   refine W1 t0 ?_
   refine step_ac A2 fun h3 A3=>?_
   refine W1 t0 ?_
   refine ⟨(k,r.step T),by show k < k + 1; omega,hk,fun _=>?_,A3⟩
   have:=hr e0
   show T.length ≤ (r.step T).i + k
   rw [show r.step T = { r with i:=r.i + 1 } from by unfold PS.step; rw [if_pos ⟨e0,by omega⟩]]
   show T.length ≤ r.i + 1 + k
   omega
  ·have:r = s.lines T:=by
    rw [← hk]; cases k with
    | zero=>rfl
    | succ k=>rw [linesN,if_neg c]
   subst this
   refine W1 t0 ?_
   exact ⟨_,Sub.refl,hq _ A2⟩
theorem node_ac (op:Txt) {l:List Tree} {kv:V} (hk:kv.flat = true) (hq:Q (.agg [.str op,.str [],.int .i64 0,kv]) h):AC pg (.fn 25) [.str op,kv] h Q:=by
 refine AC.fn' (g:=g25) rfl (by simp only [List.length_cons,List.length_nil,g25]; decide) ?_; simp only [g25,Mir.Ab.all]
 refine W0 ?_
 intro b2 hb2
 refine W1 hk ?_
 exact ⟨h,(fun x o hx=>by repeat (first | exact hx | rw [hadd_ne' (none_ne hb2 hx)])),hq⟩
theorem leaf_ac (op:Txt) (t:Tokn) {kv:V} (hk:kv.flat = true) (hq:Q (.agg [.str op,.str t.t,.int .i64 t.a,kv]) h):AC pg (.fn 42) [.str op,.agg (tokC t),kv] h Q:=by
 refine AC.fn' (g:=g42) rfl (by simp only [List.length_cons,List.length_nil,g42]; decide) ?_; simp only [g42,Mir.Ab.all]
 unfold tokC
 refine W0 ?_
 intro b2 hb2
 refine W0 ?_
 intro b3 hb3
 have n23:b2 ≠ b3:=fun e=>by rw [← e] at hb3; simp [hadd,hset] at hb3
 have z3:h b3 = none:=by rw [hadd_ne' (Ne.symm n23)] at hb3; exact hb3
 refine W1 hk ?_
 exact ⟨h,(fun x o hx=>by repeat (first | exact hx | rw [hadd_ne' (none_ne z3 hx)] | rw [hadd_ne' (none_ne hb2 hx)])),hq⟩
theorem place_ac (op t:Txt) (a:Nat) (l:List Tree) {kv:V} (hk:kv.flat = true) (hq:Q (.bool (Tree.nd op t a l).isPlace) h):AC pg (.fn 74) [.agg [.str op,.str t,.int .i64 a,kv]] h Q:=by
 refine AC.fn' (g:=g74) rfl (by simp only [List.length_cons,List.length_nil,g74]; decide) ?_; simp only [g74,Mir.Ab.all]
 refine W1 hk ?_
 intro b2 hb2
 refine W1 hk ?_
 intro b3 hb3
 have n23:b2 ≠ b3:=fun e=>by rw [← e] at hb3; simp [hadd,hset] at hb3
 have z3:h b3 = none:=by rw [hadd_ne' (Ne.symm n23)] at hb3; exact hb3
 refine W1 hk ?_
 refine containsS_ac (ss:=[[118,97,114],[105,110,100,101,120],[102,105,101,108,100]]) (ro:=false) (by simp [hadd,hset]) (by decide) op ?_
 refine W0 ?_
 exact ⟨h,(fun x o hx=>by repeat (first | exact hx | rw [hadd_ne' (none_ne z3 hx)] | rw [hadd_ne' (none_ne hb2 hx)])),hq⟩
theorem name_ac (A:PAt h0 h p tb T s) {b:Nat} {ks:List Nat} (hb:h b = some (.cells (intsV (ks.map fun (k:Nat)=>(k:Int))) false)) (hn:ks.length < 1000) (hq:∀ h',PAt h0 h' p tb T (s.name T ks).2 → Q (.agg (tokC (s.name T ks).1)) h') :
  AC pg (.fn 43) [.ptr p 0,.sl b 0 1 ks.length] h Q:=by
 refine AC.fn' (g:=g43) rfl (by simp only [List.length_cons,List.length_nil,g43]; decide) ?_; simp only [g43,Mir.Ab.all]
 refine W0 ?_
 intro b2 hb2
 refine W0 ?_
 refine cur_ac (A.put hb2) ?_
 unfold tokC
 refine W0 ?_
 intro b3 hb3
 have n23:b2 ≠ b3:=fun e=>by rw [← e] at hb3; simp [hadd,hset] at hb3
 have z3:h b3 = none:=by rw [hadd_ne' (Ne.symm n23)] at hb3; exact hb3
 have nbb2:=none_ne hb2 hb
 have nbb3:=none_ne z3 hb
 have hbb:∀ o o',hadd (hadd h b2 o) b3 o' b = some (.cells (intsV (ks.map fun (k:Nat)=>(k:Int))) false):=fun o o'=>by
  rw [hadd_ne' nbb3,hadd_ne' nbb2]; exact hb
 have len:(ks.map fun (k:Nat)=>(k:Int)).length = ks.length:=by simp
 have A2:∀ o o',PAt h0 (hadd (hadd h b2 o) b3 o') p tb T s:=fun o o'=>(A.put hb2).put (by rw [hadd_ne' (Ne.symm n23)]; exact z3)
 refine W0 ?_
 rw [← len]
 refine containsI_ac (hbb _ _) (by rw [len]; omega) _ ?_
 have e:decide (((s.cur T).k:Int) ∈ ks.map fun (k:Nat)=>(k:Int)) = decide ((s.cur T).k ∈ ks):=by
  congr 1
  simp only [List.mem_map,eq_iff_iff]
  constructor
  ·rintro ⟨x,h1,h2⟩; rwa [← Int.ofNat.inj h2]
  ·intro h; exact ⟨_,h,rfl⟩
 rw [e]
 unfold PS.name at hq
 by_cases c:(s.cur T).k ∈ ks
 ·rw [if_pos c] at hq
  simp only [c,decide_true]
  refine W0 ?_
  refine step_ac (A2 _ _).re fun h3 A3=>?_
  have h3b:=A3.keep (b:=b3) (o:=.cells (tokC (s.cur T)) false) (Ne.symm ((A.put hb2).ne hb3)) (by simp [hadd,hset,tokC])
  have h2b:=A3.keep (b:=b2) (o:=.cells [V.int IntKind.i64 0,V.str [],V.int IntKind.i64 0] false) (Ne.symm (A.ne hb2)) (by rw [hadd_ne' n23]; simp [hadd,hset])
  unfold tokC at h3b
  refine W2 h3b h2b ?_
  exact ⟨_,Sub.refl,hq _ (((A2 _ _).back A3).over (A.new hb2) (Ne.symm (A.ne hb2)))⟩
 ·rw [if_neg c] at hq
  simp only [c,decide_false]
  refine W0 ?_
  refine fail_ac (A2 _ _).re fun h3 A3=>?_
  have h2b:=A3.keep (b:=b2) (o:=.cells [V.int IntKind.i64 0,V.str [],V.int IntKind.i64 0] false) (Ne.symm (A.ne hb2)) (by rw [hadd_ne' n23]; simp [hadd,hset])
  refine W1 h2b ?_
  exact ⟨_,Sub.refl,hq _ (((A2 _ _).back A3).over (A.new hb2) (Ne.symm (A.ne hb2)))⟩
theorem ahead_ac (A:PAt h0 h p tb T s) (n:Nat) (hn:n < 1000) (hq:Q (.agg (tokC (s.ahead T n))) h):AC pg (.fn 96) [.ptr p 0,.int .i64 n] h Q:=by
 have hp:=A.obj
 have ht:=A.tk
 have hl:=A.lt
 have sm:=A.small
 have fl:=flat_len T
 unfold psC at hp
 unfold PS.ahead at hq
 refine AC.fn' (g:=g96) rfl (by simp only [List.length_cons,List.length_nil,g96]; decide) ?_; simp only [g96,Mir.Ab.all]
 refine W0 ?_
 intro b2 hb2
 have n2:=A.ne hb2
 have nt2:tb ≠ b2:=fun e=>by rw [← e,ht] at hb2; cases hb2
 by_cases c:s.err = 0
 ·by_cases c1:T.length ≤ s.i + n
  ·rw [if_pos (.inr c1)] at hq
   refine W1 hp ?_
   exact ⟨h,(fun x o hx=>by repeat (first | exact hx | rw [hadd_ne' (none_ne hb2 hx)])),hq⟩
  ·rw [if_neg (by omega)] at hq
   have e:=flat_at T (s.i + n) (by omega)
   have e':((s.i:Int) + n).toNat = s.i + n:=by omega
   ((try simp -implicitDefEqProofs only [later,laterE,laterD,laterR]); (repeat (first | simp -implicitDefEqProofs only [go_sem,↓reduceIte,Nat.reduceEqDiff,Nat.reduceAdd,Nat.reduceLeDiff,Nat.reduceLT,Nat.reduceMul,reduceCtorEq,Int.reduceEq,Int.reduceLT,Int.reduceLE,Int.reduceNeg,Int.reduceToNat,Int.reduceMul,Int.reduceAdd,Int.reduceSub,hp,ht,e,e',fl,tokC] | simp (disch:=(first | omega | (simp only [go_sem]; done) | (simp only [lens]; omega))) only [cds,hp,ht,e,e',fl,tokC])))
   exact ⟨h,(fun x o hx=>by repeat (first | exact hx | rw [hadd_ne' (none_ne hb2 hx)])),hq⟩
 ·rw [if_pos (.inl c)] at hq
  refine W1 hp ?_
  exact ⟨h,(fun x o hx=>by repeat (first | exact hx | rw [hadd_ne' (none_ne hb2 hx)])),hq⟩
end Go.Proofs.YtkfbldogmgofoaaGreatDoor
namespace Go.Proofs.YtkfbldogmgofoaaGreatDoor
open Mir
variable {h:H} {Q:V → H → Prop} {h0 h':H} {p tb:Nat} {T:List Tokn} {s s':PS} {N:Nat}
def lvl (n c:Nat) (s:PS):Prop:=(s.err = 0 → s.deep + n = 51) ∧ s.deep ≤ c
theorem lvl.fwd {n c:Nat} (l:lvl n c s) (f:Fwd T N s s'):lvl n c s':=⟨fun h=>by rw [f.deep]; exact l.1 (f.err h),by rw [f.deep]; exact l.2⟩
structure FC (T:List Tokn) (N n c:Nat) (f:Nat) (M:PF):Prop where
 run:∀ (h0 h:H) (p tb:Nat) (s:PS) (Q:V → H → Prop),PAt h0 h p tb T s → SOk T N s → lvl n c s → (∀ h' v,PAt h0 h' p tb T (M s).2 → NodeV h0 h' p (M s).1 v → Q v h') → AC pg (.fn f) [.ptr p 0] h Q
 fwd:∀ s,SOk T N s → lvl n c s → Fwd T N s (M s).2
 adv:∀ s,SOk T N s → lvl n c s → Adv s (M s).2
def MapOk (es:Ents) (ops:List (Txt × Txt)):Prop:=∀ t:Txt,(findK (.one .str) (.str t) es = some none ∧ ops.lookup t = none) ∨ ∃ v i,findK (.one .str) (.str t) es = some (some (.str v,i)) ∧ ops.lookup t = some v ∧ v ≠ []
theorem chainN_fwd (W:TkOk T N) {n c:Nat} {M:PF} (hf:∀ s,SOk T N s → lvl n c s → Fwd T N s (M s).2) (ln:Bool) (ops:List (Txt × Txt)):∀ (k:Nat) {t:Tree} {s:PS},SOk T N s → lvl n c s → Fwd T N s (chainN T M ln ops k t s).2
 | 0,_,_,hs,_=>Fwd.refl hs
 | k + 1,t,s,hs,hl=>by
   unfold chainN
   split
   ·split
    ·exact Fwd.refl hs
    ·have f1:Fwd T N s (if ln then (s.step T).lines T else s.step T):=by
      split
      ·exact (step_fwd W hs).trans (lines_fwd W (step_fwd W hs).ok)
      ·exact step_fwd W hs
     have f2:=hf _ f1.ok (hl.fwd f1)
     exact (f1.trans f2).trans (chainN_fwd W hf ln ops k f2.ok (hl.fwd (f1.trans f2)))
   ·exact Fwd.refl hs
theorem tok3 (t:Tokn):tokC t = [.int .i64 t.k,.str t.t,.int .i64 t.a]:=rfl
theorem NodeV.inv {t:Tree} {v:V} (k:NodeV h0 h p t v):∃ kv,v = .agg [.str t.op,.str t.text,.int .i64 t.at',kv] ∧ KidsV h0 h p t.kids kv:=by
 cases k with | mk k=>exact ⟨_,rfl,k⟩
theorem NodeV.of {t:Tree} {kv:V} (k:KidsV h0 h p t.kids kv):NodeV h0 h p t (.agg [.str t.op,.str t.text,.int .i64 t.at',kv]):=by
 cases t; exact .mk k
theorem NodeV.wk {t:Tree} {v:V} {g0:H} (s:Sub g0 h0) (k:NodeV h0 h p t v):NodeV g0 h p t v :=
 NodeV.move (fun c o z n hc=>⟨by
  cases e:g0 c with
  | none=>rfl
  | some o'=>(rw [s _ _ e] at z; cases z),hc⟩) k
theorem chain_ac (W:TkOk T N) {n c f:Nat} {M:PF} (C:FC T N n c f M) (ln:Bool) {bm:Nat} {es:Ents} {ck:Nat} {ops:List (Txt × Txt)} (A:PAt h0 h p tb T s) (hs:SOk T N s) (hl:lvl n c s)
  (hm:h bm = some (.map es ck)) (hes:MapOk es ops) (hq:∀ h' v,PAt h0 h' p tb T (chainM T M ln ops s).2 → NodeV h0 h' p (chainM T M ln ops s).1 v → Q v h') :
  AC pg (.fn 90) [.ptr p 0,.fn f [.ptr p 0] [],.bool ln,.map bm] h Q:=by
 have nm:bm ≠ p:=fun e=>by rw [e,A.obj] at hm; cases hm
 refine AC.fn' (g:=g90) rfl (by simp only [List.length_cons,List.length_nil,g90]; decide) ?_; simp only [g90,Mir.Ab.all]
 refine W0 ?_
 intro b8 hb8
 have n8:=A.ne hb8
 have z8:=A.new hb8
 have nm8:bm ≠ b8:=none_ne hb8 hm
 have A1:=A.put (o:=AObj.cells [V.str [],V.str [],V.int IntKind.i64 0,V.nilsl] false) hb8
 refine W0 ?_
 refine C.run _ _ _ _ _ _ A1.re hs hl fun h1 v A2 k2=>?_
 have F1:=C.fwd s hs hl
 have A3:=A1.back A2
 have hm2:=A2.keep nm (b:=bm) (o:=.map es ck) (by rw [hadd_ne' nm8]; exact hm)
 have h8:=A2.keep (Ne.symm n8) (b:=b8) (o:=.cells [V.str [],V.str [],V.int IntKind.i64 0,V.nilsl] false) (by simp [hadd,hset])
 obtain ⟨kv,rfl,k3⟩:=k2.inv
 have kf:=k3.flat
 refine W0 ?_
 intro b9 hb9
 have n9:=A3.ne hb9
 have z9:=A3.new hb9
 have n89:b8 ≠ b9:=none_ne hb9 h8
 have nm9:bm ≠ b9:=none_ne hb9 hm2
 refine W1 kf ?_
 have A4:=A3.put (o:=AObj.cells [V.str (M s).1.op,V.str (M s).1.text,V.int IntKind.i64 (M s).1.at',kv] false) hb9
 obtain ⟨g9,hg⟩:∃ g9:H,g9 = hadd (hadd h0 b8 (.cells [] false)) b9 (.cells [] false):=⟨_,rfl⟩
 have C0:∀ c,g9 c = none → c ≠ b9 ∧ c ≠ b8 ∧ h0 c = none:=fun c hc=>by
  rw [hg] at hc
  have n:c ≠ b9:=fun e=>by simp [e,hadd,hset] at hc
  have n':c ≠ b8:=fun e=>by simp [e,hadd,hset,n89] at hc
  exact ⟨n,n',by rw [hadd_ne' n,hadd_ne' n'] at hc; exact hc⟩
 have C1:∀ c,c ≠ b9 → c ≠ b8 → h0 c = none → g9 c = none:=fun c n n' hc=>by rw [hg,hadd_ne' n,hadd_ne' n']; exact hc
 have k4:KidsV g9 (hadd h1 b9 (AObj.cells [V.str (M s).1.op,V.str (M s).1.text,V.int IntKind.i64 (M s).1.at',kv] false)) p (M s).1.kids kv :=
  KidsV.move (fun c o z n hc=>⟨by
   rw [show hset _ p none c = _ from if_neg n] at z
   exact C1 c (none_ne hb9 hc) (fun e=>by rw [e] at z; simp [hadd,hset] at z) (A1.new z),by rw [hadd_ne' (none_ne hb9 hc)]; exact hc⟩) k3
 refine E.loopX AC.mono (fun (x:Nat × Tree × PS) a' h'=>chainN T M ln ops x.1 x.2.1 x.2.2 = chainM T M ln ops s ∧ (x.2.2.err = 0 → T.length < x.2.2.i + x.1) ∧ SOk T N x.2.2 ∧ lvl n c x.2.2 ∧ PAt h0 h' p tb T x.2.2 ∧ h' bm = some (.map es ck) ∧ h' b8 = some (.cells [V.str [],V.str [],V.int IntKind.i64 0,V.nilsl] false) ∧ (∃ kv,h' b9 = some (.cells [V.str x.2.1.op,V.str x.2.1.text,V.int IntKind.i64 x.2.1.at',kv] false) ∧ KidsV g9 h' p x.2.1.kids kv) ∧ a'.d = [] ∧ a'.t 0 = .ptr p 0 ∧ a'.t 1 = .fn f [.ptr p 0] [] ∧ a'.t 2 = .bool ln ∧ a'.t 3 = .map bm ∧ a'.t 8 = .ptr b8 0 ∧ a'.t 9 = .ptr b9 0) (fun x=>x.1) (T.length + 1,(M s).1,(M s).2) ?_ ?_
 ·exact ⟨rfl,fun _=>by show T.length < (M s).2.i + (T.length + 1); omega,F1.ok,hl.fwd F1,A4,by rw [hadd_ne' nm9]; exact hm2,by rw [hadd_ne' n89]; exact h8,⟨kv,by simp [hadd,hset],k4⟩,rfl,rfl,rfl,rfl,rfl,rfl,rfl⟩
 ·rintro ⟨k,m,r⟩ ⟨t,ds⟩ h2 ⟨hk,hr,sr,lr,A5,hm5,h85,⟨kv,h95,k5⟩,hd,t0,t1,t2,t3,t8,t9⟩
  simp only at hk hr sr lr A5 h95 k5 hd t0 t1 t2 t3 t8 t9; subst hd
  have kf:=k5.flat
  refine W6 t0 t1 t2 t3 t8 t9 ?_
  refine cur_ac A5 ?_
  rw [tok3]
  refine W6 t0 t1 t2 t3 t8 t9 ?_
  intro b10 hb10
  have n810:=none_ne hb10 h85
  have n910:=none_ne hb10 h95
  have nm10:=none_ne hb10 hm5
  have np10:=A5.ne hb10
  have A6:=A5.put (o:=AObj.cells [.int .i64 (r.cur T).k,.str (r.cur T).t,.int .i64 (r.cur T).a] false) hb10
  have k6:=k5.put (o:=AObj.cells [.int .i64 (r.cur T).k,.str (r.cur T).t,.int .i64 (r.cur T).a] false) hb10
  have h96:hadd h2 b10 (AObj.cells [.int .i64 (r.cur T).k,.str (r.cur T).t,.int .i64 (r.cur T).a] false) b9 = some (.cells [V.str m.op,V.str m.text,V.int IntKind.i64 m.at',kv] false):=by rw [hadd_ne' n910]; exact h95
  have h86:hadd h2 b10 (AObj.cells [.int .i64 (r.cur T).k,.str (r.cur T).t,.int .i64 (r.cur T).a] false) b8 = some (.cells [V.str [],V.str [],V.int IntKind.i64 0,V.nilsl] false):=by rw [hadd_ne' n810]; exact h85
  have hm6:hadd h2 b10 (AObj.cells [.int .i64 (r.cur T).k,.str (r.cur T).t,.int .i64 (r.cur T).a] false) bm = some (.map es ck):=by rw [hadd_ne' nm10]; exact hm5
  have h106:hadd h2 b10 (AObj.cells [.int .i64 (r.cur T).k,.str (r.cur T).t,.int .i64 (r.cur T).a] false) b10 = some (AObj.cells [.int .i64 (r.cur T).k,.str (r.cur T).t,.int .i64 (r.cur T).a] false):=by simp [hadd,hset]
  have out:(m,r) = chainM T M ln ops s → ∃ h4,Mir.Sub h4 (hadd (hadd h2 b10 (AObj.cells [.int .i64 (r.cur T).k,.str (r.cur T).t,.int .i64 (r.cur T).a] false)) b8 (.cells [V.str m.op,V.str m.text,V.int IntKind.i64 m.at',kv] false)) ∧ Q (.agg [V.str m.op,V.str m.text,V.int IntKind.i64 m.at',kv]) h4:=fun e=>by
   rw [← e] at hq
   exact ⟨_,Sub.refl,hq _ _ (A6.over z8 (Ne.symm n8)) (NodeV.of (KidsV.move (fun c o z n hc=>⟨(C0 c z).2.2,by rw [hadd_ne' (C0 c z).2.1]; exact hc⟩) k6))⟩
  by_cases c8:(r.cur T).k = 8
  ·rcases hes (r.cur T).t with ⟨e1,e2⟩ | ⟨v,i,e1,e2,e3⟩
   ·refine W8 t0 t1 t2 t3 t8 t9 h95 (And.intro h85 (And.intro hm5 (And.intro e1 kf))) ?_
    apply out
    rw [← hk]; cases k with
    | zero=>rfl
    | succ k=>rw [chainN,if_pos c8,e2]
   ·have e0:r.err = 0:=cur_err (T:=T) (by omega)
    have nl:=not_last W (by omega) sr
    obtain ⟨k,rfl⟩:∃ k',k = k' + 1:=⟨k - 1,by have:=hr e0; omega⟩
    rw [chainN,if_pos c8,e2] at hk
    simp only at hk
    refine W8 t0 t1 t2 t3 t8 t9 h95 (And.intro h85 (And.intro hm5 (And.intro e1 (And.intro kf e3)))) ?_
    refine step_ac A6.re fun h4 A7=>?_
    have A7':=A6.back A7
    have h97:=A7.keep (Ne.symm n9) h96
    have h87:=A7.keep (Ne.symm n8) h86
    have hm7:=A7.keep nm hm6
    have k7:=k6.keep A7
    have sf:=step_fwd W sr
    have sa:=step_adv W sr (by omega)
    obtain ⟨r1,hr1⟩:∃ r1,r1 = if ln then (r.step T).lines T else r.step T:=⟨_,rfl⟩
    rw [← hr1] at hk
    have sf1:Fwd T N r r1:=by
     rw [hr1]; cases ln
     ·exact sf
     ·exact sf.trans (lines_fwd W sf.ok)
    have sa1:Adv r r1:=by
     rw [hr1]; cases ln
     ·exact sa
     ·exact sa.left (lines_fwd W sf.ok)
    refine W1 t2 ?_
    refine goC_cut AC.mono (fun ex a' h'=>ex = .nm ∧ a'.d = [] ∧ a'.t 0 = .ptr p 0 ∧ a'.t 1 = .fn f [.ptr p 0] [] ∧ a'.t 2 = .bool ln ∧ a'.t 3 = .map bm ∧ a'.t 8 = .ptr b8 0 ∧ a'.t 9 = .ptr b9 0 ∧ a'.t 11 = .str v ∧ PAt h0 h' p tb T r1 ∧ h' bm = some (.map es ck) ∧ h' b8 = some (.cells [V.str [],V.str [],V.int IntKind.i64 0,V.nilsl] false) ∧ h' b9 = some (.cells [V.str m.op,V.str m.text,V.int IntKind.i64 m.at',kv] false) ∧ KidsV g9 h' p m.kids kv) ?_ ?_
    ·cases ln
     ·simp only [if_false,Bool.false_eq_true] at hr1; subst hr1
      refine W6 t0 t1 t2 t3 t8 t9 ?_
      exact ⟨A7',hm7,h87,h97,k7⟩
     ·simp only [if_true] at hr1; subst hr1
      refine W6 t0 t1 t2 t3 t8 t9 ?_
      refine lines_ac A7'.re W.last fun h5 A8=>?_
      refine W6 t0 t1 t2 t3 t8 t9 ?_
      exact ⟨A7'.back A8,A8.keep nm hm7,A8.keep (Ne.symm n8) h87,A8.keep (Ne.symm n9) h97,k7.keep A8⟩
    ·rintro ex ⟨t,ds⟩ h5 ⟨rfl,hd,t0,t1,t2,t3,t8,t9,t11,A8,hm8,h88,h98,k8⟩
     simp only at hd t0 t1 t2 t3 t8 t9 t11; subst hd
     have kf:=k8.flat
     refine W8 t0 t1 t2 t3 t8 t9 t11 (And.intro h98 kf) ?_
     refine C.run _ _ _ _ _ _ A8.re sf1.ok (lr.fwd sf1) fun h6 v2 A9 k9=>?_
     have A9':=A8.back A9
     have h99:=A9.keep (Ne.symm n9) h98
     have h89:=A9.keep (Ne.symm n8) h88
     have hm9:=A9.keep nm hm8
     have k8':=k8.keep A9
     obtain ⟨kv2,rfl,k9b⟩:=k9.inv
     have kf2:=k9b.flat
     have k9':KidsV g9 h6 p (M r1).1.kids kv2:=KidsV.move (fun c o z n hc=>⟨by
      rw [show hset _ p none c = _ from if_neg n] at z
      exact C1 c (fun e=>by rw [e,h98] at z; cases z) (fun e=>by rw [e,h88] at z; cases z) (A8.new z),hc⟩) k9b
     refine W8 t0 t1 t2 t3 t8 t9 t11 (And.intro h99 (And.intro kf kf2)) ?_
     intro bs hbs
     have nps:=A9'.ne hbs
     have zs:=A9'.new hbs
     have n9s:=none_ne hbs h99
     have n8s:=none_ne hbs h89
     have nms:=none_ne hbs hm9
     have A10:=A9'.put (o:=AObj.cells [V.str m.op,V.str m.text,V.int IntKind.i64 ↑m.at',kv,V.str (M r1).fst.op,V.str (M r1).fst.text,V.int IntKind.i64 ↑(M r1).fst.at',kv2] false) hbs
     have k10:KidsV g9 (hadd h6 bs (AObj.cells [V.str m.op,V.str m.text,V.int IntKind.i64 ↑m.at',kv,V.str (M r1).fst.op,V.str (M r1).fst.text,V.int IntKind.i64 ↑(M r1).fst.at',kv2] false)) p [m,(M r1).1] (.sl bs 0 4 2) :=
      .sl (by simp) (C1 bs (Ne.symm n9s) (Ne.symm n8s) zs) (Ne.symm nps) (by simp [hadd,hset]) ((CellsV.one (NodeV.of (k8'.put hbs))).app (CellsV.one (NodeV.of (k9'.put hbs))))
     refine W7 h99 t0 t1 t2 t3 t8 t9 ?_
     refine node_ac v (l:=[m,(M r1).1]) rfl ?_
     refine W7 h99 t0 t1 t2 t3 t8 t9 ?_
     have f3:=C.fwd r1 sf1.ok (lr.fwd sf1)
     refine ⟨(k,nodeM v [m,(M r1).1],(M r1).2),by show k < k + 1; omega,hk,fun e=>?_,f3.ok,lr.fwd (sf1.trans f3),A10.over z9 (Ne.symm n9),?_,?_,⟨_,rfl,KidsV.move (fun c o z n hc=>⟨z,by rw [hadd_ne' (C0 c z).1]; exact hc⟩) k10⟩⟩
     ·have e1:r1.err = 0:=f3.err e
      rcases sa1 e0 with d | d
      ·have d2:=f3.le
       have:=hr e0
       show T.length < (M r1).2.i + k
       omega
      ·exact absurd e1 d
     ·exact hm9
     ·exact h89
  ·have fin:(m,r) = chainM T M ln ops s:=by
    rw [← hk]; cases k with
    | zero=>rfl
    | succ k=>rw [chainN,if_neg c8]
   rcases hes (r.cur T).t with ⟨e1,e2⟩ | ⟨v,i,e1,e2,e3⟩
   ·refine W8 t0 t1 t2 t3 t8 t9 h95 (And.intro h85 (And.intro hm5 (And.intro e1 kf))) ?_
    exact out fin
   ·refine W8 t0 t1 t2 t3 t8 t9 h95 (And.intro h85 (And.intro hm5 (And.intro e1 kf))) ?_
    exact out fin
end Go.Proofs.YtkfbldogmgofoaaGreatDoor
namespace Go.Proofs.YtkfbldogmgofoaaGreatDoor
open Mir
variable {h:H} {Q:V → H → Prop} {h0 h':H} {p tb:Nat} {T:List Tokn} {s s':PS} {N n c:Nat}
abbrev Z4:List V:=[V.str [],V.str [],V.int IntKind.i64 0,V.nilsl]
theorem ret_node (A:PAt h0 h p tb T s) (A':PAt (hset h p none) h' p tb T s') {b:Nat} {o':AObj} (hb:h b = some o') (n:b ≠ p) (z:h0 b = none) {t:Tree} {v:V} (k:NodeV (hset h p none) h' p t v) (o:AObj) :
  PAt h0 (hadd h' b o) p tb T s' ∧ NodeV h0 (hadd h' b o) p t v :=
 ⟨(A.back A').over z n,NodeV.move (fun c o' q nc hc=>by
   rw [show hset _ p none c = _ from if_neg nc] at q
   exact ⟨A.new q,by rw [hadd_ne' (fun e=>by rw [e,hb] at q; cases q)]; exact hc⟩) k⟩
theorem chain_fc (W:TkOk T N) {f:Nat} {M:PF} (C:FC T N n c f M) (ln:Bool) (ops:List (Txt × Txt)) (hs:SOk T N s) (hl:lvl n c s):Fwd T N s (chainM T M ln ops s).2 ∧ Adv s (chainM T M ln ops s).2:=by
 have f1:=C.fwd s hs hl
 have f2:=chainN_fwd W C.fwd ln ops (T.length + 1) (t:=(M s).1) f1.ok (hl.fwd f1)
 exact ⟨f1.trans f2,(C.adv s hs hl).left f2⟩
def entsOf:List (Txt × Txt) → Nat → Ents
 | [],_=>[]
 | (k,v) :: l,i=>(.str k,.str v,i) :: entsOf l (i + 1)
theorem mapOk_of {ops:List (Txt × Txt)} (hv:∀ x ∈ ops,x.2 ≠ []):MapOk (entsOf ops 0) ops:=by
 intro t
 suffices H:∀ i,(findK (.one .str) (.str t) (entsOf ops i) = some none ∧ ops.lookup t = none) ∨ ∃ v j,findK (.one .str) (.str t) (entsOf ops i) = some (some (.str v,j)) ∧ ops.lookup t = some v ∧ v ≠ [] from H 0
 induction ops with
 | nil=>intro i; exact .inl ⟨rfl,rfl⟩
 | cons x l ih =>
   intro i
   obtain ⟨k,v⟩:=x
   by_cases e:t = k
   ·subst e
    exact .inr ⟨v,i,by simp [entsOf,findK,keyEq,evEq],by simp [List.lookup],hv _ (List.mem_cons_self ..)⟩
   ·have e':(t == k) = false:=by simpa using e
    rcases ih (fun x hx=>hv x (List.mem_cons_of_mem _ hx)) (i + 1) with ⟨h1,h2⟩ | ⟨w,j,h1,h2,h3⟩
    ·exact .inl ⟨by simp [entsOf,findK,keyEq,evEq,e',h1],by simp [List.lookup,e',h2]⟩
    ·exact .inr ⟨w,j,by simp [entsOf,findK,keyEq,evEq,e',h1],by simp [List.lookup,e',h2],h3⟩
theorem mul_fc (W:TkOk T N) {U:PF} (C:FC T N n c 126 (U)):FC T N n c 123 (mulM T U):=by
 refine ⟨fun h0 h p tb s Q A hs hl hq=>?_,fun s hs hl=>(chain_fc W C _ _ hs hl).1,fun s hs hl=>(chain_fc W C _ _ hs hl).2⟩
 refine AC.fn' (g:=g123) rfl (by simp only [List.length_cons,List.length_nil,g123]; decide) ?_; simp only [g123,Mir.Ab.all]
 refine W0 ?_
 intro b2 hb2
 have np:=A.ne hb2
 have z2:=A.new hb2
 have A1:=A.put (o:=AObj.cells Z4 false) hb2
 have h2:hadd h b2 (AObj.cells Z4 false) b2 = some (.cells Z4 false):=by simp [hadd,hset]
 refine W0 ?_
 intro b5 hb5
 have n25:=none_ne hb5 h2
 have m0:findK (KC.one EqC.str) (V.str [42]) [] = some none:=rfl; have m1:findK (KC.one EqC.str) (V.str [47]) [(V.str [42],V.str [109,117,108],0)] = some none:=rfl; have m2:findK (KC.one EqC.str) (V.str [37]) [(V.str [42],V.str [109,117,108],0),(V.str [47],V.str [100,105,118],1)] = some none:=rfl
 refine W3 m0 m1 m2 ?_
 have A2:=A1.put (o:=.map (entsOf [([42],[109,117,108]),([47],[100,105,118]),([37],[109,111,100])] 0) 3) hb5
 refine chain_ac W C false A2.re hs hl hadd_same (mapOk_of (ops:=[([42],[109,117,108]),([47],[100,105,118]),([37],[109,111,100])]) (by decide)) fun h3 v A3 k3=>?_
 obtain ⟨kv,rfl,kk⟩:=k3.inv
 have kf:=kk.flat
 have h2':=A3.keep (Ne.symm np) (b:=b2) (o:=.cells Z4 false) (by rw [hadd_ne' n25]; exact h2)
 unfold Z4 at h2'
 refine W2 h2' kf ?_
 obtain ⟨A4,k4⟩:=ret_node A2 A3 (by rw [hadd_ne' n25]; exact h2) (Ne.symm np) z2 k3 (.cells [V.str (mulM T U s).1.op,V.str (mulM T U s).1.text,V.int .i64 (mulM T U s).1.at',kv] false)
 exact ⟨_,Sub.refl,hq _ _ A4 k4⟩
theorem add_fc (W:TkOk T N) {U:PF} (C:FC T N n c 123 (mulM T U)):FC T N n c 115 (addM T U):=by
 refine ⟨fun h0 h p tb s Q A hs hl hq=>?_,fun s hs hl=>(chain_fc W C _ _ hs hl).1,fun s hs hl=>(chain_fc W C _ _ hs hl).2⟩
 refine AC.fn' (g:=g115) rfl (by simp only [List.length_cons,List.length_nil,g115]; decide) ?_; simp only [g115,Mir.Ab.all]
 refine W0 ?_
 intro b2 hb2
 have np:=A.ne hb2
 have z2:=A.new hb2
 have A1:=A.put (o:=AObj.cells Z4 false) hb2
 have h2:hadd h b2 (AObj.cells Z4 false) b2 = some (.cells Z4 false):=by simp [hadd,hset]
 refine W0 ?_
 intro b5 hb5
 have n25:=none_ne hb5 h2
 have m0:findK (KC.one EqC.str) (V.str [43]) [] = some none:=rfl; have m1:findK (KC.one EqC.str) (V.str [45]) [(V.str [43],V.str [97,100,100],0)] = some none:=rfl
 refine W2 m0 m1 ?_
 have A2:=A1.put (o:=.map (entsOf [([43],[97,100,100]),([45],[115,117,98])] 0) 2) hb5
 refine chain_ac W C false A2.re hs hl hadd_same (mapOk_of (ops:=[([43],[97,100,100]),([45],[115,117,98])]) (by decide)) fun h3 v A3 k3=>?_
 obtain ⟨kv,rfl,kk⟩:=k3.inv
 have kf:=kk.flat
 have h2':=A3.keep (Ne.symm np) (b:=b2) (o:=.cells Z4 false) (by rw [hadd_ne' n25]; exact h2)
 unfold Z4 at h2'
 refine W2 h2' kf ?_
 obtain ⟨A4,k4⟩:=ret_node A2 A3 (by rw [hadd_ne' n25]; exact h2) (Ne.symm np) z2 k3 (.cells [V.str (addM T U s).1.op,V.str (addM T U s).1.text,V.int .i64 (addM T U s).1.at',kv] false)
 exact ⟨_,Sub.refl,hq _ _ A4 k4⟩
theorem match_fc (W:TkOk T N) {U:PF} (C:FC T N n c 116 (relM T U)):FC T N n c 107 (matchM T U):=by
 refine ⟨fun h0 h p tb s Q A hs hl hq=>?_,fun s hs hl=>(chain_fc W C _ _ hs hl).1,fun s hs hl=>(chain_fc W C _ _ hs hl).2⟩
 refine AC.fn' (g:=g107) rfl (by simp only [List.length_cons,List.length_nil,g107]; decide) ?_; simp only [g107,Mir.Ab.all]
 refine W0 ?_
 intro b2 hb2
 have np:=A.ne hb2
 have z2:=A.new hb2
 have A1:=A.put (o:=AObj.cells Z4 false) hb2
 have h2:hadd h b2 (AObj.cells Z4 false) b2 = some (.cells Z4 false):=by simp [hadd,hset]
 refine W0 ?_
 intro b5 hb5
 have n25:=none_ne hb5 h2
 have m0:findK (KC.one EqC.str) (V.str [126]) [] = some none:=rfl; have m1:findK (KC.one EqC.str) (V.str [33,126]) [(V.str [126],V.str [109,97,116,99,104],0)] = some none:=rfl
 refine W2 m0 m1 ?_
 have A2:=A1.put (o:=.map (entsOf [([126],[109,97,116,99,104]),([33,126],[110,111,109,97,116,99,104])] 0) 2) hb5
 refine chain_ac W C false A2.re hs hl hadd_same (mapOk_of (ops:=[([126],[109,97,116,99,104]),([33,126],[110,111,109,97,116,99,104])]) (by decide)) fun h3 v A3 k3=>?_
 obtain ⟨kv,rfl,kk⟩:=k3.inv
 have kf:=kk.flat
 have h2':=A3.keep (Ne.symm np) (b:=b2) (o:=.cells Z4 false) (by rw [hadd_ne' n25]; exact h2)
 unfold Z4 at h2'
 refine W2 h2' kf ?_
 obtain ⟨A4,k4⟩:=ret_node A2 A3 (by rw [hadd_ne' n25]; exact h2) (Ne.symm np) z2 k3 (.cells [V.str (matchM T U s).1.op,V.str (matchM T U s).1.text,V.int .i64 (matchM T U s).1.at',kv] false)
 exact ⟨_,Sub.refl,hq _ _ A4 k4⟩
theorem and_fc (W:TkOk T N) {U:PF} (C:FC T N n c 99 (inM T U)):FC T N n c 91 (andM T U):=by
 refine ⟨fun h0 h p tb s Q A hs hl hq=>?_,fun s hs hl=>(chain_fc W C _ _ hs hl).1,fun s hs hl=>(chain_fc W C _ _ hs hl).2⟩
 refine AC.fn' (g:=g91) rfl (by simp only [List.length_cons,List.length_nil,g91]; decide) ?_; simp only [g91,Mir.Ab.all]
 refine W0 ?_
 intro b2 hb2
 have np:=A.ne hb2
 have z2:=A.new hb2
 have A1:=A.put (o:=AObj.cells Z4 false) hb2
 have h2:hadd h b2 (AObj.cells Z4 false) b2 = some (.cells Z4 false):=by simp [hadd,hset]
 refine W0 ?_
 intro b5 hb5
 have n25:=none_ne hb5 h2
 have m0:findK (KC.one EqC.str) (V.str [38,38]) [] = some none:=rfl
 refine W1 m0 ?_
 have A2:=A1.put (o:=.map (entsOf [([38,38],[97,110,100])] 0) 1) hb5
 refine chain_ac W C true A2.re hs hl hadd_same (mapOk_of (ops:=[([38,38],[97,110,100])]) (by decide)) fun h3 v A3 k3=>?_
 obtain ⟨kv,rfl,kk⟩:=k3.inv
 have kf:=kk.flat
 have h2':=A3.keep (Ne.symm np) (b:=b2) (o:=.cells Z4 false) (by rw [hadd_ne' n25]; exact h2)
 unfold Z4 at h2'
 refine W2 h2' kf ?_
 obtain ⟨A4,k4⟩:=ret_node A2 A3 (by rw [hadd_ne' n25]; exact h2) (Ne.symm np) z2 k3 (.cells [V.str (andM T U s).1.op,V.str (andM T U s).1.text,V.int .i64 (andM T U s).1.at',kv] false)
 exact ⟨_,Sub.refl,hq _ _ A4 k4⟩
theorem or_fc (W:TkOk T N) {U:PF} (C:FC T N n c 91 (andM T U)):FC T N n c 73 (orM T U):=by
 refine ⟨fun h0 h p tb s Q A hs hl hq=>?_,fun s hs hl=>(chain_fc W C _ _ hs hl).1,fun s hs hl=>(chain_fc W C _ _ hs hl).2⟩
 refine AC.fn' (g:=g73) rfl (by simp only [List.length_cons,List.length_nil,g73]; decide) ?_; simp only [g73,Mir.Ab.all]
 refine W0 ?_
 intro b2 hb2
 have np:=A.ne hb2
 have z2:=A.new hb2
 have A1:=A.put (o:=AObj.cells Z4 false) hb2
 have h2:hadd h b2 (AObj.cells Z4 false) b2 = some (.cells Z4 false):=by simp [hadd,hset]
 refine W0 ?_
 intro b5 hb5
 have n25:=none_ne hb5 h2
 have m0:findK (KC.one EqC.str) (V.str [124,124]) [] = some none:=rfl
 refine W1 m0 ?_
 have A2:=A1.put (o:=.map (entsOf [([124,124],[111,114])] 0) 1) hb5
 refine chain_ac W C true A2.re hs hl hadd_same (mapOk_of (ops:=[([124,124],[111,114])]) (by decide)) fun h3 v A3 k3=>?_
 obtain ⟨kv,rfl,kk⟩:=k3.inv
 have kf:=kk.flat
 have h2':=A3.keep (Ne.symm np) (b:=b2) (o:=.cells Z4 false) (by rw [hadd_ne' n25]; exact h2)
 unfold Z4 at h2'
 refine W2 h2' kf ?_
 obtain ⟨A4,k4⟩:=ret_node A2 A3 (by rw [hadd_ne' n25]; exact h2) (Ne.symm np) z2 k3 (.cells [V.str (orM T U s).1.op,V.str (orM T U s).1.text,V.int .i64 (orM T U s).1.at',kv] false)
 exact ⟨_,Sub.refl,hq _ _ A4 k4⟩
end Go.Proofs.YtkfbldogmgofoaaGreatDoor
namespace Go.Proofs.YtkfbldogmgofoaaGreatDoor
open Mir
variable {h:H} {Q:V → H → Prop} {h0 h':H} {p tb:Nat} {T:List Tokn} {s s':PS} {N n c:Nat}
def gg (h0:H) (b8 b9:Nat):H:=hadd (hadd h0 b8 (.cells [] false)) b9 (.cells [] false)
theorem gg_none {b8 b9:Nat} {x:Nat} (hc:gg h0 b8 b9 x = none):x ≠ b9 ∧ x ≠ b8 ∧ h0 x = none:=by
 unfold gg at hc
 have n:x ≠ b9:=fun e=>by simp [e,hadd,hset] at hc
 have n':x ≠ b8:=fun e=>by rw [hadd_ne' n,e] at hc; simp [hadd,hset] at hc
 exact ⟨n,n',by rw [hadd_ne' n,hadd_ne' n'] at hc; exact hc⟩
theorem gg_of {b8 b9:Nat} {x:Nat} (n:x ≠ b9) (n':x ≠ b8) (hc:h0 x = none):gg h0 b8 b9 x = none:=by
 unfold gg; rw [hadd_ne' n,hadd_ne' n']; exact hc
abbrev nodeC (m:Tree) (kv:V):List V:=[.str m.op,.str m.text,.int .i64 m.at',kv]
structure AccAt (h0 h:H) (p b8 b9:Nat) (m:Tree) (kv:V):Prop where
 c8:h b8 = some (.cells Z4 false)
 z8:h0 b8 = none
 n8:b8 ≠ p
 c9:h b9 = some (.cells (nodeC m kv) false)
 z9:h0 b9 = none
 n9:b9 ≠ p
 n89:b8 ≠ b9
 kids:KidsV (gg h0 b8 b9) h p m.kids kv
variable {b8 b9:Nat} {m:Tree} {kv:V}
theorem AccAt.keep (K:AccAt h0 h p b8 b9 m kv) (A':PAt (hset h p none) h' p tb T s'):AccAt h0 h' p b8 b9 m kv :=
 ⟨A'.keep K.n8 K.c8,K.z8,K.n8,A'.keep K.n9 K.c9,K.z9,K.n9,K.n89,K.kids.keep A'⟩
theorem AccAt.put (K:AccAt h0 h p b8 b9 m kv) {b:Nat} {o:AObj} (hb:h b = none):AccAt h0 (hadd h b o) p b8 b9 m kv :=
 ⟨by rw [hadd_ne' (none_ne hb K.c8)]; exact K.c8,K.z8,K.n8,by rw [hadd_ne' (none_ne hb K.c9)]; exact K.c9,K.z9,K.n9,K.n89,K.kids.put hb⟩
theorem AccAt.back (K:AccAt h0 h p b8 b9 m kv) (A:PAt h0 h p tb T s) {l:List Tree} {v:V} (k:KidsV (hset h p none) h' p l v):KidsV (gg h0 b8 b9) h' p l v :=
 KidsV.move (fun x o z nx hx=>⟨by
  rw [show hset _ p none x = _ from if_neg nx] at z
  exact gg_of (fun e=>by rw [e,K.c9] at z; cases z) (fun e=>by rw [e,K.c8] at z; cases z) (A.new z),hx⟩) k
theorem AccAt.store (K:AccAt h0 h p b8 b9 m kv) {m':Tree} {kv':V} (k:KidsV (gg h0 b8 b9) h p m'.kids kv'):AccAt h0 (hadd h b9 (.cells (nodeC m' kv') false)) p b8 b9 m' kv' :=
 ⟨by rw [hadd_ne' K.n89]; exact K.c8,K.z8,K.n8,hadd_same,K.z9,K.n9,K.n89,KidsV.move (fun x o z nx hx=>⟨z,by rw [hadd_ne' (gg_none z).1]; exact hx⟩) k⟩
theorem AccAt.ret (K:AccAt h0 h p b8 b9 m kv) (A:PAt h0 h p tb T s) (o:AObj):PAt h0 (hadd h b8 o) p tb T s ∧ NodeV h0 (hadd h b8 o) p m (.agg (nodeC m kv)) :=
 ⟨A.over K.z8 K.n8,NodeV.of (KidsV.move (fun x o z nx hx=>⟨(gg_none z).2.2,by rw [hadd_ne' (gg_none z).2.1]; exact hx⟩) K.kids)⟩
theorem AccAt.row (K:AccAt h0 h p b8 b9 m kv) (A:PAt h0 h p tb T s) {b:Nat} (hb:h b = none) {l:List Tree} {cs:List V} (hl:l ≠ []) (k:CellsV (gg h0 b8 b9) h p l cs):KidsV (gg h0 b8 b9) (hadd h b (.cells cs false)) p l (.sl b 0 4 l.length) :=
 .sl hl (gg_of (none_ne hb K.c9).symm (none_ne hb K.c8).symm (A.new hb)) (Ne.symm (A.ne hb)) hadd_same (k.put hb)
theorem catN_fwd {M:PF} (hf:∀ s,SOk T N s → lvl n c s → Fwd T N s (M s).2):∀ (k:Nat) {t:Tree} {s:PS},SOk T N s → lvl n c s → Fwd T N s (catN T M k t s).2
 | 0,_,_,hs,_=>Fwd.refl hs
 | k + 1,t,s,hs,hl=>by
   unfold catN
   split
   ·have f2:=hf _ hs hl
    exact f2.trans (catN_fwd hf k f2.ok (hl.fwd f2))
   ·exact Fwd.refl hs
theorem inN_fwd (W:TkOk T N):∀ (k:Nat) {t:Tree} {s:PS},SOk T N s → Fwd T N s (inN T k t s).2
 | 0,_,_,hs=>Fwd.refl hs
 | k + 1,t,s,hs=>by
   unfold inN
   split
   ·have f1:=step_fwd W hs
    have f2:=name_fwd W f1.ok [5]
    exact (f1.trans f2).trans (inN_fwd W k f2.ok)
   ·exact Fwd.refl hs
theorem later_cut {call:CP} {l:List IOp} {a:A} {h:H} {K:A → H → Prop} (hm:Mono call) (R:A → H → Prop) (hE:later call l a h R) (hR:∀ a h,R a h → K a h):later call l a h K:=opsE_mono hm hR hE
theorem cat_fc (W:TkOk T N) {U:PF} (C:FC T N n c 115 (addM T U)):FC T N n c 106 (catEM T U):=by
 refine ⟨fun h0 h p tb s Q A hs hl hq=>?_,fun s hs hl=>(C.fwd s hs hl).trans (catN_fwd C.fwd _ (C.fwd s hs hl).ok (hl.fwd (C.fwd s hs hl))),fun s hs hl=>(C.adv s hs hl).left (catN_fwd C.fwd _ (C.fwd s hs hl).ok (hl.fwd (C.fwd s hs hl)))⟩
 refine AC.fn' (g:=g106) rfl (by simp only [List.length_cons,List.length_nil,g106]; decide) ?_; simp only [g106,Mir.Ab.all]
 refine W0 ?_
 intro b8 hb8
 have z8:=A.new hb8
 have A1:=A.put (o:=AObj.cells Z4 false) hb8
 refine W0 ?_
 refine C.run _ _ _ _ _ _ A1.re hs hl fun h1 v A2 k2=>?_
 have F1:=C.fwd s hs hl
 have A3:=A1.back A2
 have h8:=A2.keep (Ne.symm (A.ne hb8)) (b:=b8) (o:=.cells Z4 false) hadd_same
 obtain ⟨kv,rfl,k3⟩:=k2.inv
 have kf:=k3.flat
 refine W0 ?_
 intro b9 hb9
 have n89:b8 ≠ b9:=none_ne hb9 h8
 have K:AccAt h0 (hadd h1 b9 (.cells (nodeC (addM T U s).1 kv) false)) p b8 b9 (addM T U s).1 kv :=
  ⟨by rw [hadd_ne' n89]; exact h8,z8,Ne.symm (A.ne hb8),hadd_same,A3.new hb9,Ne.symm (A3.ne hb9),n89,KidsV.move (fun x o z nx hx=>⟨by
   rw [show hset _ p none x = _ from if_neg nx] at z
   exact gg_of (none_ne hb9 hx) (fun e=>by rw [e] at z; simp [hadd,hset] at z) (A1.new z),by rw [hadd_ne' (none_ne hb9 hx)]; exact hx⟩) k3⟩
 refine W1 kf ?_
 refine E.loopX AC.mono (fun (x:Nat × Tree × PS) a' h'=>catN T (addM T U) x.1 x.2.1 x.2.2 = catEM T U s ∧ (x.2.2.err = 0 → T.length < x.2.2.i + x.1) ∧ SOk T N x.2.2 ∧ lvl n c x.2.2 ∧ PAt h0 h' p tb T x.2.2 ∧ (∃ kv,AccAt h0 h' p b8 b9 x.2.1 kv) ∧ a'.d = [] ∧ a'.t 0 = .ptr p 0 ∧ a'.t 2 = .ptr b8 0 ∧ a'.t 3 = .ptr b9 0) (fun x=>x.1) (T.length + 1,(addM T U s).1,(addM T U s).2) ?_ ?_
 ·exact ⟨rfl,fun _=>by show T.length < (addM T U s).2.i + (T.length + 1); omega,F1.ok,hl.fwd F1,A3.put hb9,⟨kv,K⟩,rfl,rfl,rfl,rfl⟩
 ·rintro ⟨k,m,r⟩ ⟨t,ds⟩ h2 ⟨hk,hr,sr,lr,A5,⟨kv,K5⟩,hd,t0,t2,t3⟩
  simp only at hk hr sr lr A5 K5 hd t0 t2 t3; subst hd
  have kf:=K5.kids.flat
  refine W3 t0 t2 t3 ?_
  refine cur_ac A5 ?_
  rw [tok3]
  refine W3 t0 t2 t3 ?_
  intro b10 hb10
  have A6:=A5.put (o:=AObj.cells [.int .i64 (r.cur T).k,.str (r.cur T).t,.int .i64 (r.cur T).a] false) hb10
  have K6:=K5.put (o:=AObj.cells [.int .i64 (r.cur T).k,.str (r.cur T).t,.int .i64 (r.cur T).a] false) hb10
  refine W3 t0 t2 t3 ?_
  intro b11 hb11
  have A7:=A6.put (o:=AObj.cells [.int .i64 2,.int .i64 3,.int .i64 5,.int .i64 6,.int .i64 9] false) hb11
  have K7:=K6.put (o:=AObj.cells [.int .i64 2,.int .i64 3,.int .i64 5,.int .i64 6,.int .i64 9] false) hb11
  have n1011:b10 ≠ b11:=fun e=>by rw [← e] at hb11; simp [hadd,hset] at hb11
  refine W3 t0 t2 t3 ?_
  refine containsI_ac (ss:=[2,3,5,6,9]) (ro:=false) hadd_same (by decide) _ ?_
  obtain ⟨cc,hcc⟩:∃ cc:Bool,cc = decide ((r.cur T).k ∈ [2,3,5,6,9] ∨ r.isAt T [[36],[40]] = true):=⟨_,rfl⟩
  have ei:decide (((r.cur T).k:Int) ∈ [2,3,5,6,9]) = decide ((r.cur T).k ∈ [2,3,5,6,9]):=by
   simp only [List.mem_cons,List.not_mem_nil,or_false]
   congr 1
   simp only [eq_iff_iff]
   omega
  rw [ei]
  refine later_cut AC.mono (fun a' h'=>a'.d = [] ∧ a'.t 0 = .ptr p 0 ∧ a'.t 2 = .ptr b8 0 ∧ a'.t 3 = .ptr b9 0 ∧ a'.t 19 = .bool (!cc) ∧ PAt h0 h' p tb T r ∧ AccAt h0 h' p b8 b9 m kv) ?_ ?_
  ·by_cases ci:(r.cur T).k ∈ [2,3,5,6,9]
   ·have:cc = true:=by rw [hcc]; simp [ci]
    subst this
    simp only [ci,decide_true]
    refine W3 t0 t2 t3 ?_
    exact ⟨A7,K7⟩
   ·simp only [ci,decide_false]
    refine W3 t0 t2 t3 ?_
    intro b16 hb16
    refine W3 t0 t2 t3 ?_
    refine at_ac (ss:=[[36],[40]]) (A7.put hb16) hadd_same (by decide) ?_
    have:cc = r.isAt T [[36],[40]]:=by rw [hcc]; simp [ci]
    rw [← this]
    refine W3 t0 t2 t3 ?_
    exact ⟨A7.put hb16,K7.put hb16⟩
  ·rintro ⟨t,ds⟩ h3 ⟨hd,t0,t2,t3,t19,A8,K8⟩
   simp only at hd t0 t2 t3 t19; subst hd
   have c9:=K8.c9
   have c8:=K8.c8
   cases cc
   ·have fin:(m,r) = catEM T U s:=by
     rw [← hk]; cases k with
     | zero=>rfl
     | succ k=>rw [catN,if_neg (of_decide_eq_false hcc.symm)]
    rw [← fin] at hq
    refine W7 t0 t2 t3 t19 c9 c8 kf ?_
    obtain ⟨A9,k9⟩:=K8.ret A8 (.cells (nodeC m kv) false)
    exact ⟨_,Sub.refl,hq _ _ A9 k9⟩
   ·have hc:=of_decide_eq_true hcc.symm
    have ek:(r.cur T).k ≠ 0:=by
     rcases hc with e | e
     ·simp at e; omega
     ·rcases at_k e with e | e <;> omega
    have e0:r.err = 0:=cur_err ek
    have nl:=not_last W ek sr
    obtain ⟨k,rfl⟩:∃ k',k = k' + 1:=⟨k - 1,by have:=hr e0; omega⟩
    rw [catN,if_pos hc] at hk
    simp only at hk
    refine W7 t0 t2 t3 t19 c9 c8 kf ?_
    refine C.run _ _ _ _ _ _ A8.re sr lr fun h6 v2 A9 k9=>?_
    have f3:=C.fwd r sr lr
    have a3:=C.adv r sr lr
    have A9':=A8.back A9
    have K9:=K8.keep A9
    obtain ⟨kv2,rfl,k9b⟩:=k9.inv
    have k9':=K8.back A8 k9b
    have kf2:=k9b.flat
    have c9':=K9.c9
    refine W6 t0 t2 t3 c9' kf kf2 ?_
    intro bs hbs
    have nbs:=none_ne hbs c9'
    refine W6 t0 t2 t3 c9' kf kf2 ?_
    refine node_ac [99,97,116] (l:=[m,(addM T U r).1]) rfl ?_
    have kr:=K9.row A9' hbs (l:=[m,(addM T U r).1]) (by simp) ((CellsV.one (NodeV.of K9.kids)).app (CellsV.one (NodeV.of k9')))
    have K10:=(K9.put (o:=.cells (nodeC m kv ++ nodeC (addM T U r).1 kv2) false) hbs).store (m':=nodeM [99,97,116] [m,(addM T U r).1]) kr
    refine W6 t0 t2 t3 c9' kf kf2 ?_
    refine ⟨(k,nodeM [99,97,116] [m,(addM T U r).1],(addM T U r).2),by show k < k + 1; omega,hk,fun e=>?_,f3.ok,lr.fwd f3,(A9'.put hbs).over K.z9 K.n9,_,K10⟩
    rcases a3 e0 with d | d
    ·have:=hr e0
     show T.length < (addM T U r).2.i + k
     omega
    ·exact absurd e d
theorem inM_eq (U:PF) (s:PS):inM T U s = inN T (T.length + 1) (matchM T U s).1 (matchM T U s).2:=by unfold inM; rfl
theorem in_fc (W:TkOk T N) {U:PF} (C:FC T N n c 107 (matchM T U)):FC T N n c 99 (inM T U):=by
 refine ⟨fun h0 h p tb s Q A hs hl hq=>?_,fun s hs hl=>(C.fwd s hs hl).trans (inN_fwd W _ (C.fwd s hs hl).ok),fun s hs hl=>(C.adv s hs hl).left (inN_fwd W _ (C.fwd s hs hl).ok)⟩
 have hy:=inM_eq (T:=T) U s
 generalize inM T U s = y0 at hq hy
 refine AC.fn' (g:=g99) rfl (by simp only [List.length_cons,List.length_nil,g99]; decide) ?_; simp only [g99,Mir.Ab.all]
 refine W0 ?_
 intro b8 hb8
 have z8:=A.new hb8
 have A1:=A.put (o:=AObj.cells Z4 false) hb8
 refine W0 ?_
 refine C.run _ _ _ _ _ _ A1.re hs hl fun h1 v A2 k2=>?_
 have F1:=C.fwd s hs hl
 generalize matchM T U s = x0 at hy k2 A2 F1
 have A3:=A1.back A2
 have h8:=A2.keep (Ne.symm (A.ne hb8)) (b:=b8) (o:=.cells Z4 false) hadd_same
 obtain ⟨kv,rfl,k3⟩:=k2.inv
 have kf:=k3.flat
 refine W0 ?_
 intro b9 hb9
 have n89:b8 ≠ b9:=none_ne hb9 h8
 have K:AccAt h0 (hadd h1 b9 (.cells (nodeC x0.1 kv) false)) p b8 b9 x0.1 kv :=
  ⟨by rw [hadd_ne' n89]; exact h8,z8,Ne.symm (A.ne hb8),hadd_same,A3.new hb9,Ne.symm (A3.ne hb9),n89,KidsV.move (fun x o z nx hx=>⟨by
   rw [show hset _ p none x = _ from if_neg nx] at z
   exact gg_of (none_ne hb9 hx) (fun e=>by rw [e] at z; simp [hadd,hset] at z) (A1.new z),by rw [hadd_ne' (none_ne hb9 hx)]; exact hx⟩) k3⟩
 refine W1 kf ?_
 refine E.cut AC.mono (fun ex a' h'=>ex = .exit 0 ∧ a'.d = [] ∧ a'.t 2 = .ptr b8 0 ∧ a'.t 3 = .ptr b9 0 ∧ PAt h0 h' p tb T (y0).2 ∧ ∃ kv,AccAt h0 h' p b8 b9 (y0).1 kv) ?_ ?_
 ·refine E.loopX AC.mono (fun (x:Nat × Tree × PS) a' h'=>inN T x.1 x.2.1 x.2.2 = y0 ∧ (x.2.2.err = 0 → T.length < x.2.2.i + x.1) ∧ SOk T N x.2.2 ∧ PAt h0 h' p tb T x.2.2 ∧ (∃ kv,AccAt h0 h' p b8 b9 x.2.1 kv) ∧ a'.d = [] ∧ a'.t 0 = .ptr p 0 ∧ a'.t 2 = .ptr b8 0 ∧ a'.t 3 = .ptr b9 0) (fun x=>x.1) (T.length + 1,x0.1,x0.2) ?_ ?_
  ·refine ⟨hy.symm,fun _=>by show T.length < x0.2.i + (T.length + 1); omega,F1.ok,A3.put hb9,⟨kv,K⟩,rfl,rfl,rfl,rfl⟩
  ·rintro ⟨k,m,r⟩ ⟨t,ds⟩ h2 ⟨hk,hr,sr,A5,⟨kv,K5⟩,hd,t0,t2,t3⟩
   simp only at hk hr sr A5 K5 hd t0 t2 t3; subst hd
   have kf:=K5.kids.flat
   refine W3 t0 t2 t3 ?_
   refine accept_ac A5.re [105,110] fun h3 A6=>?_
   cases e:r.isAt T [[105,110]]
   ·simp only [e,if_false,Bool.false_eq_true] at A6
    have fin:(m,r) = y0:=by
     rw [← hk]; cases k with
     | zero=>rfl
     | succ k=>rw [inN,if_neg (by rw [e]; decide)]
    rw [← fin]
    refine W3 t0 t2 t3 ?_
    exact ⟨A5.back A6,_,K5.keep A6⟩
   ·simp only [e,if_true] at A6
    have e0:r.err = 0:=at_err e
    have ek:(r.cur T).k ≠ 0:=by rcases at_k e with e | e <;> omega
    have nl:=not_last W ek sr
    obtain ⟨k,rfl⟩:∃ k',k = k' + 1:=⟨k - 1,by have:=hr e0; omega⟩
    rw [inN,if_pos e] at hk
    simp only at hk
    have A6':=A5.back A6
    have K6:=K5.keep A6
    have c9:=K6.c9
    have f1:=step_fwd W sr
    have a1:=at_adv W sr e
    refine W5 t0 t2 t3 c9 kf ?_
    intro b10 hb10
    have n910:=none_ne hb10 c9
    have A7:=A6'.put (o:=AObj.cells [.int .i64 5] false) hb10
    have K7:=K6.put (o:=AObj.cells [.int .i64 5] false) hb10
    refine W5 t0 t2 t3 c9 kf ?_
    refine name_ac (ks:=[5]) A7.re hadd_same (by decide) fun h4 A8=>?_
    have A8':=A7.back A8
    have K8:=K7.keep A8
    have c9':=K8.c9
    have f2:=name_fwd W f1.ok [5]
    refine W5 t0 t2 t3 c9' kf ?_
    intro bs hbs
    have nbs:=none_ne hbs c9'
    refine W5 t0 t2 t3 c9' kf ?_
    refine leaf_ac [105,110] _ rfl ?_
    have kr:=K8.row A8' hbs (l:=[m]) (by simp) (CellsV.one (NodeV.of K8.kids))
    have K10:=(K8.put (o:=.cells (nodeC m kv) false) hbs).store (m':=leafM [105,110] (PS.name T (r.step T) [5]).1 [m]) kr
    refine W5 t0 t2 t3 c9' kf ?_
    refine ⟨(k,leafM [105,110] (PS.name T (r.step T) [5]).1 [m],(PS.name T (r.step T) [5]).2),by show k < k + 1; omega,hk,fun e=>?_,f2.ok,(A8'.put hbs).over K8.z9 K8.n9,_,K10⟩
    have:=f2.le
    rcases a1 e0 with d | d
    ·have:=hr e0
     show T.length < (PS.name T (r.step T) [5]).2.i + k
     omega
    ·exact absurd (f2.err e) d
 ·rintro ex ⟨t,ds⟩ h3 ⟨rfl,hd,t2,t3,A8,kv,K8⟩
  simp only at hd t2 t3; subst hd
  have c9:=K8.c9
  have c8:=K8.c8
  have kf:=K8.kids.flat
  refine W5 t2 t3 c9 c8 kf ?_
  obtain ⟨A9,k9⟩:=K8.ret A8 (.cells (nodeC (y0).1 kv) false)
  exact ⟨_,Sub.refl,hq _ _ A9 k9⟩
end Go.Proofs.YtkfbldogmgofoaaGreatDoor
namespace Go.Proofs.YtkfbldogmgofoaaGreatDoor
open Mir
variable {h:H} {Q:V → H → Prop} {h0 h':H} {p tb:Nat} {T:List Tokn} {s s':PS} {N n c:Nat}
theorem AccAt.ret' {b8 b9:Nat} {m:Tree} {kv:V} (K:AccAt h0 h p b8 b9 m kv) (A:PAt h0 h p tb T s) {m':Tree} {kv':V} (k:KidsV (gg h0 b8 b9) h p m'.kids kv') (o:AObj):PAt h0 (hadd h b8 o) p tb T s ∧ NodeV h0 (hadd h b8 o) p m' (.agg (nodeC m' kv')) :=
 ⟨A.over K.z8 K.n8,NodeV.of (KidsV.move (fun x o z nx hx=>⟨(gg_none z).2.2,by rw [hadd_ne' (gg_none z).2.1]; exact hx⟩) k)⟩
def relStep (T:List Tokn) (C:PF) (x:Tree × PS):Tree × PS :=
 if (x.2.cur T).k = 8 ∧ ¬ ((x.2.cur T).t = [62] ∧ x.2.flat = true) then match relOps.lookup (x.2.cur T).t with
  | none=>x
  | some op=>(nodeM op [x.1,(C (x.2.step T)).1],(C (x.2.step T)).2)
 else x
theorem relM_eq (U:PF) (s:PS):relM T U s = relStep T (catEM T U) (catEM T U s):=by unfold relM relStep; rfl
theorem relStep_fwd (W:TkOk T N) {C:PF} (hf:∀ s,SOk T N s → lvl n c s → Fwd T N s (C s).2) {x:Tree × PS} (hs:SOk T N x.2) (hl:lvl n c x.2):Fwd T N x.2 (relStep T C x).2:=by
 unfold relStep
 split
 ·split
  ·exact Fwd.refl hs
  ·have f1:=step_fwd W hs
   exact f1.trans (hf _ f1.ok (hl.fwd f1))
 ·exact Fwd.refl hs
theorem rel_fc (W:TkOk T N) {U:PF} (C:FC T N n c 106 (catEM T U)):FC T N n c 116 (relM T U):=by
 refine ⟨fun h0 h p tb s Q A hs hl hq=>?_,fun s hs hl=>?_,fun s hs hl=>?_⟩
 ·have hy:=relM_eq (T:=T) U s
  generalize relM T U s = y0 at hq hy
  have F1:=C.fwd s hs hl
  have R1:=C.run
  have f3:=C.fwd
  generalize catEM T U = M at hy F1 R1 f3
  refine AC.fn' (g:=g116) rfl (by simp only [List.length_cons,List.length_nil,g116]; decide) ?_; simp only [g116,Mir.Ab.all]
  refine W0 ?_
  intro b8 hb8
  have z8:=A.new hb8
  have A1:=A.put (o:=AObj.cells Z4 false) hb8
  refine W0 ?_
  refine R1 _ _ _ _ _ _ A1.re hs hl fun h1 v A2 k2=>?_
  generalize M s = x0 at hy k2 A2 F1
  obtain ⟨m,r⟩:=x0
  simp only at hy k2 A2 F1
  have A3:=A1.back A2
  have h8:=A2.keep (Ne.symm (A.ne hb8)) (b:=b8) (o:=.cells Z4 false) hadd_same
  obtain ⟨kv,rfl,k3⟩:=k2.inv
  have kf:=k3.flat
  refine W0 ?_
  intro b9 hb9
  have n89:b8 ≠ b9:=none_ne hb9 h8
  have K:AccAt h0 (hadd h1 b9 (.cells (nodeC m kv) false)) p b8 b9 m kv :=
   ⟨by rw [hadd_ne' n89]; exact h8,z8,Ne.symm (A.ne hb8),hadd_same,A3.new hb9,Ne.symm (A3.ne hb9),n89,KidsV.move (fun x o z nx hx=>⟨by
    rw [show hset _ p none x = _ from if_neg nx] at z
    exact gg_of (none_ne hb9 hx) (fun e=>by rw [e] at z; simp [hadd,hset] at z) (A1.new z),by rw [hadd_ne' (none_ne hb9 hx)]; exact hx⟩) k3⟩
  have A4:=A3.put (o:=.cells (nodeC m kv) false) hb9
  have c9:=K.c9
  have c8:=K.c8
  refine W1 kf ?_
  generalize hadd h1 b9 _ = h2 at K A4 c9 c8 ⊢
  refine cur_ac A4 ?_
  rw [tok3]
  refine W0 ?_
  intro b10 hb10
  refine W0 ?_
  have A5:=A4.put (o:=AObj.cells [.int .i64 (r.cur T).k,.str (r.cur T).t,.int .i64 (r.cur T).a] false) hb10
  have K5:=K.put (o:=AObj.cells [.int .i64 (r.cur T).k,.str (r.cur T).t,.int .i64 (r.cur T).a] false) hb10
  intro b11 hb11
  have n1011:b10 ≠ b11:=fun e=>by rw [← e] at hb11; simp [hadd,hset] at hb11
  have m0:findK (KC.one EqC.str) (V.str [60]) [] = some none:=rfl; have m1:findK (KC.one EqC.str) (V.str [60,61]) [(V.str [60],V.str [108,101,115,115],0)] = some none:=rfl; have m2:findK (KC.one EqC.str) (V.str [61,61]) [(V.str [60],V.str [108,101,115,115],0),(V.str [60,61],V.str [108,101,115,115,101,113],1)] = some none:=rfl; have m3:findK (KC.one EqC.str) (V.str [33,61]) [(V.str [60],V.str [108,101,115,115],0),(V.str [60,61],V.str [108,101,115,115,101,113],1),(V.str [61,61],V.str [101,113,117,97,108],2)] = some none:=rfl; have m4:findK (KC.one EqC.str) (V.str [62]) [(V.str [60],V.str [108,101,115,115],0),(V.str [60,61],V.str [108,101,115,115,101,113],1),(V.str [61,61],V.str [101,113,117,97,108],2),(V.str [33,61],V.str [110,111,116,101,113,117,97,108],3)] = some none:=rfl; have m5:findK (KC.one EqC.str) (V.str [62,61]) [(V.str [60],V.str [108,101,115,115],0),(V.str [60,61],V.str [108,101,115,115,101,113],1),(V.str [61,61],V.str [101,113,117,97,108],2),(V.str [33,61],V.str [110,111,116,101,113,117,97,108],3),(V.str [62],V.str [103,114,101,97,116,101,114],4)] = some none:=rfl
  have A6:=A5.put (o:=.map (entsOf relOps 0) 6) hb11
  have K6:=K5.put (o:=.map (entsOf relOps 0) 6) hb11
  have c9':=K6.c9
  have c8':=K6.c8
  have hp:=A4.obj
  unfold psC at hp
  have n10:=A4.ne hb10
  have n11:=A5.ne hb11
  have mo:=mapOk_of (ops:=relOps) (by decide) (r.cur T).t
  unfold relStep at hy
  simp only at hy
  have fin:(m,r) = y0 → ∃ h4,Mir.Sub h4 (hadd (hadd (hadd h2 b10 (AObj.cells [.int .i64 (r.cur T).k,.str (r.cur T).t,.int .i64 (r.cur T).a] false)) b11 (.map (entsOf relOps 0) 6)) b8 (.cells (nodeC m kv) false)) ∧ Q (.agg (nodeC m kv)) h4:=fun e=>by
   rw [← e] at hq
   obtain ⟨A9,k9⟩:=K6.ret A6 (.cells (nodeC m kv) false)
   exact ⟨_,Sub.refl,hq _ _ A9 k9⟩
  have em:entsOf relOps 0 = [(V.str [60],V.str [108,101,115,115],0),(V.str [60,61],V.str [108,101,115,115,101,113],1),(V.str [61,61],V.str [101,113,117,97,108],2),(V.str [33,61],V.str [110,111,116,101,113,117,97,108],3),(V.str [62],V.str [103,114,101,97,116,101,114],4),(V.str [62,61],V.str [103,114,101,97,116,101,114,101,113],5)]:=rfl
  rw [em] at mo fin
  have n910:=none_ne hb10 c9
  have n911:=none_ne hb11 K5.c9
  have n810:=none_ne hb10 c8
  have n811:=none_ne hb11 K5.c8
  by_cases c8':(r.cur T).k = 8
  ·rcases mo with ⟨e1,e2⟩ | ⟨v,i,e1,e2,e3⟩
   ·have e:(m,r) = y0:=by rw [hy]; split <;> first | rw [e2] | rfl
    refine W8 m0 m1 m2 m3 m4 m5 e1 (And.intro c9 (And.intro c8 (And.intro kf hp))) ?_
    exact fin e
   ·by_cases go:(r.cur T).t = [62] ∧ r.flat = true
    ·have e:(m,r) = y0:=by rw [hy,if_neg (by simp [go])]
     have cg:((r.cur T).t = [62]) = True:=eq_true go.1
     rw [go.2] at hp
     refine W8 m0 m1 m2 m3 m4 m5 e1 (And.intro e3 (And.intro c9 (And.intro c8 (And.intro kf (And.intro hp cg))))) ?_
     exact fin e
    rw [if_pos ⟨c8',go⟩,e2] at hy
    simp only at hy
    have go':(((r.cur T).t = [62]) = True ∧ r.flat = false) ∨ ((r.cur T).t = [62]) = False:=by
     by_cases cg:(r.cur T).t = [62]
     ·exact .inl ⟨eq_true cg,by cases e:r.flat with | false=>rfl | true=>exact absurd ⟨cg,e⟩ go⟩
     ·exact .inr (eq_false cg)
    have nxt:∀ h4,PAt (hset (hadd (hadd h2 b10 (AObj.cells [.int .i64 (r.cur T).k,.str (r.cur T).t,.int .i64 (r.cur T).a] false)) b11 (.map (entsOf relOps 0) 6)) p none) h4 p tb T (r.step T) → True:=fun _ _=>trivial
    rcases go' with ⟨cg,cf⟩ | cg
    all_goals
     try rw [cf] at hp
     refine W8 m0 m1 m2 m3 m4 m5 e1 (And.intro e3 (And.intro c9 (And.intro c8 (And.intro kf (And.intro hp cg))))) ?_
     refine step_ac A6.re fun h4 A7=>?_
     have A7':=A6.back A7
     have K7:=K6.keep A7
     have c9'':=K7.c9
     have f1:=step_fwd W F1.ok
     have l1:=(hl.fwd F1).fwd f1
     refine W2 c9'' kf ?_
     refine R1 _ _ _ _ _ _ A7'.re f1.ok l1 fun h6 v2 A9 k9=>?_
     have A9':=A7'.back A9
     have K9:=K7.keep A9
     generalize M (r.step T) = x1 at hy k9 A9 A9'
     obtain ⟨kv2,rfl,k9b⟩:=k9.inv
     have k9':=K7.back A7' k9b
     have kf2:=k9b.flat
     have c9x:=K9.c9
     have c8x:=K9.c8
     refine W3 c9x kf kf2 ?_
     intro bs hbs
     have nbs:=none_ne hbs c9x
     have nbs8:=none_ne hbs c8x
     refine W4 c9x c8x kf kf2 ?_
     refine node_ac v (l:=[m,x1.1]) rfl ?_
     have kr:=K9.row A9' hbs (l:=[m,x1.1]) (by simp) ((CellsV.one (NodeV.of K9.kids)).app (CellsV.one (NodeV.of k9')))
     obtain ⟨A10,k10⟩:=(K9.put (o:=.cells (nodeC m kv ++ nodeC x1.1 kv2) false) hbs).ret' (A9'.put hbs) (m':=nodeM v [m,x1.1]) kr (.cells (nodeC (nodeM v [m,x1.1]) (.sl bs 0 4 2)) false)
     rw [hy] at hq
     refine W4 c9x c8x kf kf2 ?_
     exact ⟨_,Sub.refl,hq _ _ A10 k10⟩
  ·have e:(m,r) = y0:=by rw [hy,if_neg (by simp [c8'])]
   rcases mo with ⟨e1,e2⟩ | ⟨v,i,e1,e2,e3⟩
   ·refine W8 m0 m1 m2 m3 m4 m5 e1 (And.intro c9 (And.intro c8 (And.intro kf hp))) ?_
    exact fin e
   ·refine W8 m0 m1 m2 m3 m4 m5 e1 (And.intro c9 (And.intro c8 (And.intro kf hp))) ?_
    exact fin e
 ·rw [relM_eq]
  have F1:=C.fwd s hs hl
  exact F1.trans (relStep_fwd W C.fwd F1.ok (hl.fwd F1))
 ·rw [relM_eq]
  have F1:=C.fwd s hs hl
  exact (C.adv s hs hl).left (relStep_fwd W C.fwd F1.ok (hl.fwd F1))
end Go.Proofs.YtkfbldogmgofoaaGreatDoor
namespace Go.Proofs.YtkfbldogmgofoaaGreatDoor
open Mir
variable {h:H} {Q:V → H → Prop} {h0 h1 h':H} {p tb:Nat} {T:List Tokn} {s s':PS} {N n c:Nat}
theorem AccAt.start {b8 b9:Nat} {m:Tree} {kv:V} (A:PAt h0 h p tb T s) (h8:h b8 = some (.cells Z4 false)) (z8:h0 b8 = none) (n8:b8 ≠ p) (A':PAt (hset h p none) h' p tb T s') (k:KidsV (hset h p none) h' p m.kids kv) (hb9:h' b9 = none) :
  AccAt h0 (hadd h' b9 (.cells (nodeC m kv) false)) p b8 b9 m kv:=by
 have h8':=A'.keep n8 h8
 have A3:=A.back A'
 exact ⟨by rw [hadd_ne' (none_ne hb9 h8')]; exact h8',z8,n8,hadd_same,A3.new hb9,Ne.symm (A3.ne hb9),none_ne hb9 h8',KidsV.move (fun x o z nx hx=>⟨by
  rw [show hset _ p none x = _ from if_neg nx] at z
  exact gg_of (none_ne hb9 hx) (fun e=>by rw [e,h8] at z; cases z) (A.new z),by rw [hadd_ne' (none_ne hb9 hx)]; exact hx⟩) k⟩
theorem AccAt.setp {b8 b9:Nat} {m:Tree} {kv:V} (K:AccAt h0 h p b8 b9 m kv) {o:AObj}:AccAt h0 (hadd h p o) p b8 b9 m kv :=
 ⟨by rw [hadd_ne' K.n8]; exact K.c8,K.z8,K.n8,by rw [hadd_ne' K.n9]; exact K.c9,K.z9,K.n9,K.n89,KidsV.move (fun x o z nx hx=>⟨z,by rw [hadd_ne' nx]; exact hx⟩) K.kids⟩
def SlAt (h0 h:H) (p:Nat) (l:List Tree) (v:V):Prop :=
 (l = [] ∧ v = .nilsl) ∨ ∃ b cs,l ≠ [] ∧ h0 b = none ∧ b ≠ p ∧ v = .sl b 0 4 l.length ∧ h b = some (.cells cs false) ∧ CellsV (hadd h0 b (.cells [] false)) h p l cs
theorem had_none {b x:Nat} {o:AObj} (hc:hadd h0 b o x = none):x ≠ b ∧ h0 x = none:=by
 have n:x ≠ b:=fun e=>by rw [e] at hc; simp [hadd,hset] at hc
 exact ⟨n,by rw [hadd_ne' n] at hc; exact hc⟩
theorem SlAt.kids {l:List Tree} {v:V} (k:SlAt h0 h p l v):KidsV h0 h p l v:=by
 rcases k with ⟨rfl,rfl⟩ | ⟨b,cs,h1,h2,h3,rfl,h5,h6⟩
 ·exact .nil
 ·exact .sl h1 h2 h3 h5 (CellsV.move (fun x o z nx hx=>⟨(had_none z).2,hx⟩) h6)
theorem SlAt.keep {l:List Tree} {v:V} (k:SlAt h0 h p l v) (A':PAt (hset h p none) h' p tb T s'):SlAt h0 h' p l v:=by
 rcases k with k | ⟨b,cs,h1,h2,h3,h4,h5,h6⟩
 ·exact .inl k
 ·exact .inr ⟨b,cs,h1,h2,h3,h4,A'.keep h3 h5,h6.keep A'⟩
theorem SlAt.put {l:List Tree} {v:V} (k:SlAt h0 h p l v) {b:Nat} {o:AObj} (hb:h b = none):SlAt h0 (hadd h b o) p l v:=by
 rcases k with k | ⟨b',cs,h1,h2,h3,h4,h5,h6⟩
 ·exact .inl k
 ·exact .inr ⟨b',cs,h1,h2,h3,h4,by rw [hadd_ne' (none_ne hb h5)]; exact h5,h6.put hb⟩
theorem SlAt.set {l:List Tree} {v:V} (k:SlAt h0 h p l v) {o:AObj}:SlAt h0 (hadd h p o) p l v:=by
 rcases k with k | ⟨b',cs,h1,h2,h3,h4,h5,h6⟩
 ·exact .inl k
 ·exact .inr ⟨b',cs,h1,h2,h3,h4,by rw [hadd_ne' h3]; exact h5,CellsV.move (fun x o z nx hx=>⟨z,by rw [hadd_ne' nx]; exact hx⟩) h6⟩
theorem SlAt.ll {l:List Tree} {v:V} (k:SlAt h0 h p l v):llE v = some (.int .i64 l.length):=by
 rcases k with ⟨rfl,rfl⟩ | ⟨b,cs,h1,h2,h3,rfl,h5,h6⟩
 ·rfl
 ·simp [ll_sl]
theorem SlAt.first (A:PAt h0 h p tb T s) {bn ba:Nat} {o:AObj} {t:Tree} {ds:List V} (hn:h bn = none) (ha:hadd h bn o ba = none) (k:CellsV h0 h p [t] ds) :
  SlAt h0 (hadd (hadd h bn o) ba (.cells ds false)) p [t] (.sl ba 0 4 1):=by
 have na:ba ≠ bn:=fun e=>by rw [e] at ha; simp [hadd,hset] at ha
 have ha':h ba = none:=by rw [hadd_ne' na] at ha; exact ha
 exact .inr ⟨ba,ds,by simp,A.new ha',Ne.symm (A.ne ha'),rfl,hadd_same,CellsV.move (fun x o' z nx hx=>⟨by rw [hadd_ne' (none_ne ha' hx)]; exact z,by rw [hadd_ne' (none_ne ha' hx),hadd_ne' (none_ne hn hx)]; exact hx⟩) k⟩
theorem SlAt.more (A:PAt h0 h p tb T s) {b bn ba:Nat} {o:AObj} {l:List Tree} {t:Tree} {cs ds:List V} (hl:l ≠ []) (k:CellsV (hadd h0 b (.cells [] false)) h p l cs) (hn:h bn = none) (nab:ba ≠ b) (ha:hadd h bn o ba = none) (kt:CellsV (hadd h0 b (.cells [] false)) h p [t] ds) :
  SlAt h0 (hadd (hset (hadd h bn o) b none) ba (.cells (cs ++ ds) false)) p (l ++ [t]) (.sl ba 0 4 (l.length + 1)):=by
 have na:ba ≠ bn:=fun e=>by rw [e] at ha; simp [hadd,hset] at ha
 have ha':h ba = none:=by rw [hadd_ne' na] at ha; exact ha
 exact .inr ⟨ba,_,by simp,A.new ha',Ne.symm (A.ne ha'),by simp,hadd_same,CellsV.move (fun x o' z nx hx=>⟨by rw [hadd_ne' (none_ne ha' hx)]; exact (had_none z).2,by
  rw [hadd_ne' (none_ne ha' hx)]; show hset _ b none x = _; unfold hset; rw [if_neg (had_none z).1]; show hadd h bn o x = _; rw [hadd_ne' (none_ne hn hx)]; exact hx⟩) (k.app kt)⟩
theorem CellsV.off (A:PAt h0 h p tb T s) {b:Nat} {o:AObj} (hb:h b = some o) {l:List Tree} {ds:List V} (k:CellsV (hset h p none) h' p l ds):CellsV (hadd h0 b (.cells [] false)) h' p l ds :=
 CellsV.move (fun x o' z nx hx=>⟨by
  rw [show hset _ p none x = _ from if_neg nx] at z
  rw [hadd_ne' (fun e=>by rw [e,hb] at z; cases z)]; exact A.new z,hx⟩) k
theorem CellsV.wk0 (A:PAt h0 h p tb T s) {l:List Tree} {ds:List V} (k:CellsV (hset h p none) h' p l ds):CellsV h0 h' p l ds :=
 CellsV.move (fun x o' z nx hx=>⟨by rw [show hset _ p none x = _ from if_neg nx] at z; exact A.new z,hx⟩) k
theorem listN_fwd (W:TkOk T N) {M:PF} (hf:∀ s,SOk T N s → lvl n c s → Fwd T N s (M s).2) (e:Txt):∀ (k:Nat) {l:List Tree} {s:PS},SOk T N s → lvl n c s → Fwd T N s (listN T M e k l s).2
 | 0,_,_,hs,_=>Fwd.refl hs
 | k + 1,l,s,hs,hl=>by
   unfold listN
   split
   ·have f1:Fwd T N s (if l = [] then s else (s.expect T [44]).lines T):=by
     split
     ·exact Fwd.refl hs
     ·exact (expect_fwd W hs _).trans (lines_fwd W (expect_fwd W hs _).ok)
    have f2:=f1.trans (hf _ f1.ok (hl.fwd f1))
    have f3:=f2.trans (lines_fwd W f2.ok)
    exact f3.trans (listN_fwd W hf e k f3.ok (hl.fwd f3))
   ·exact Fwd.refl hs
theorem listM_fwd (W:TkOk T N) {M:PF} (hf:∀ s,SOk T N s → lvl n c s → Fwd T N s (M s).2) (e:Txt) (hs:SOk T N s) (hl:lvl n c s):Fwd T N s (listM T M e s).2:=by
 unfold listM
 have f1:=flat_fwd hs false
 have f2:=f1.trans (lines_fwd W f1.ok)
 have f3:=f2.trans (listN_fwd W hf e (T.length + 1) (l:=[]) f2.ok (hl.fwd f2))
 have f4:=f3.trans (expect_fwd W f3.ok e)
 exact f4.trans (flat_fwd f4.ok _)
theorem insideM_fwd (W:TkOk T N) {M:PF} (hf:∀ s,SOk T N s → lvl n c s → Fwd T N s (M s).2) (e:Txt) (hs:SOk T N s) (hl:lvl n c s):Fwd T N s (insideM T M e s).2:=by
 unfold insideM
 have f1:=flat_fwd hs false
 have f2:=f1.trans (lines_fwd W f1.ok)
 have f3:=f2.trans (hf _ f2.ok (hl.fwd f2))
 have f4:=f3.trans (lines_fwd W f3.ok)
 have f5:=f4.trans (expect_fwd W f4.ok e)
 exact f5.trans (flat_fwd f5.ok _)
theorem inside_ac (W:TkOk T N) {M:PF} (C:FC T N n c 46 M) (e:Txt) (A:PAt h0 h p tb T s) (hs:SOk T N s) (hl:lvl n c s)
  (hq:∀ h' v,PAt h0 h' p tb T (insideM T M e s).2 → NodeV h0 h' p (insideM T M e s).1 v → Q v h'):AC pg (.fn 84) [.ptr p 0,.str e] h Q:=by
 unfold insideM at hq
 have f1:=flat_fwd hs false
 have f2:=f1.trans (lines_fwd W f1.ok)
 have hp:=A.obj
 unfold psC at hp
 refine AC.fn' (g:=g84) rfl (by simp only [List.length_cons,List.length_nil,g84]; decide) ?_; simp only [g84,Mir.Ab.all]
 refine W0 ?_
 intro b8 hb8
 have np:=A.ne hb8
 have z8:=A.new hb8
 have A1:=(A.put (o:=AObj.cells Z4 false) hb8).setF false
 refine W1 hp ?_
 refine lines_ac A1.re W.last fun h1 A2=>?_
 have A2':=A1.back A2
 have h8:=A2.keep (Ne.symm np) (b:=b8) (o:=.cells Z4 false) (by rw [hadd_ne' (Ne.symm np)]; exact hadd_same)
 refine W0 ?_
 refine C.run _ _ _ _ _ _ A2'.re f2.ok (hl.fwd f2) fun h2 v A3 k3=>?_
 have f3:=f2.trans (C.fwd _ f2.ok (hl.fwd f2))
 generalize M (PS.lines T { s with flat:=false }) = x0 at hq A3 k3 f3
 obtain ⟨m,r⟩:=x0
 simp only at hq A3 k3 f3
 have A3':=A2'.back A3
 obtain ⟨kv,rfl,kb⟩:=k3.inv
 have kf:=kb.flat
 refine W0 ?_
 intro b9 hb9
 have K:=AccAt.start A2' h8 z8 (Ne.symm np) A3 kb hb9
 have A4:=A3'.put (o:=.cells (nodeC m kv) false) hb9
 refine W1 kf ?_
 generalize hadd h2 b9 _ = h3 at K A4 ⊢
 refine lines_ac A4.re W.last fun h4 A5=>?_
 have A5':=A4.back A5
 have K5:=K.keep A5
 refine W0 ?_
 refine expect_ac A5'.re e fun h5 A6=>?_
 have A6':=A5'.back A6
 have K6:=K5.keep A6
 have hp6:=A6'.obj
 unfold psC at hp6
 have A7:=A6'.setF s.flat
 have K7:=K6.setp (o:=.cells [.sl tb 0 3 T.length,.int .i64 ((r.lines T).expect T e).i,.int .i64 ((r.lines T).expect T e).deep,.bool s.flat,.int .i64 ((r.lines T).expect T e).err,.int .i64 ((r.lines T).expect T e).bad] false)
 have c9:=K6.c9
 have c8:=K6.c8
 have n9:=K6.n9
 have n89:=K6.n89
 obtain ⟨A8,k8⟩:=K7.ret A7 (.cells (nodeC m kv) false)
 refine W4 hp6 c9 c8 kf ?_
 exact ⟨_,Sub.refl,hq _ _ A8 k8⟩
theorem list_ac (W:TkOk T N) {M:PF} (C:FC T N n c 46 M) (e:Txt) (A:PAt h0 h p tb T s) (hs:SOk T N s) (hl:lvl n c s)
  (hq:∀ h' v,PAt h0 h' p tb T (listM T M e s).2 → SlAt h0 h' p (listM T M e s).1 v → Q v h'):AC pg (.fn 105) [.ptr p 0,.str e] h Q:=by
 unfold listM at hq
 have f1:=flat_fwd hs false
 have f2:=f1.trans (lines_fwd W f1.ok)
 have hp:=A.obj
 unfold psC at hp
 have A1:=A.setF false
 generalize hx:listN T M e (T.length + 1) [] (PS.lines T { s with flat:=false }) = x at hq
 refine AC.fn' (g:=g105) rfl (by simp only [List.length_cons,List.length_nil,g105]; decide) ?_; simp only [g105,Mir.Ab.all]
 refine W1 hp ?_
 refine lines_ac A1.re W.last fun h1 A2=>?_
 have A2':=A1.back A2
 refine W0 ?_
 refine E.cut AC.mono (fun ex a' h'=>ex = .exit 0 ∧ a'.d = [] ∧ a'.t 0 = .ptr p 0 ∧ a'.t 1 = .str e ∧ a'.t 6 = .bool s.flat ∧ PAt h0 h' p tb T x.2 ∧ SlAt h0 h' p x.1 (a'.t 5)) ?_ ?_
 ·refine E.loopX AC.mono (fun (y:Nat × List Tree × PS) a' h'=>listN T M e y.1 y.2.1 y.2.2 = x ∧ (y.2.2.err = 0 → T.length < y.2.2.i + y.1 ∧ y.2.1.length ≤ y.2.2.i) ∧ SOk T N y.2.2 ∧ lvl n c y.2.2 ∧ PAt h0 h' p tb T y.2.2 ∧ SlAt h0 h' p y.2.1 (a'.t 5) ∧ a'.d = [] ∧ a'.t 0 = .ptr p 0 ∧ a'.t 1 = .str e ∧ a'.t 6 = .bool s.flat) (fun y=>y.1) (T.length + 1,[],PS.lines T { s with flat:=false }) ?_ ?_
  ·exact ⟨hx,fun _=>⟨by show T.length < (PS.lines T { s with flat:=false }).i + (T.length + 1); omega,Nat.zero_le _⟩,f2.ok,hl.fwd f2,A2',.inl ⟨rfl,rfl⟩,rfl,rfl,rfl,rfl⟩
  ·rintro ⟨k,l,r⟩ ⟨t,ds⟩ h2 ⟨hk,hr,sr,lr,A3,S3,hd,t0,t1,t6⟩
   simp only at hk hr sr lr A3 S3 hd t0 t1 t6; subst hd
   have hp3:=A3.obj
   unfold psC at hp3
   have hlt:=A3.lt
   have sm:=A3.small
   by_cases e0:r.err = 0
   ·obtain ⟨hr1,hr2⟩:=hr e0
    refine W4 t0 t1 t6 hp3 ?_
    intro ba hba
    refine W4 t0 t1 t6 hp3 ?_
    refine at_ac (ss:=[e]) (A3.put hba) hadd_same (by simp) ?_
    obtain ⟨k,rfl⟩:∃ k',k = k' + 1:=⟨k - 1,by omega⟩
    cases ea:r.isAt T [e]
    ·rw [listN,if_pos ⟨e0,ea⟩] at hk
     simp only at hk
     have A4:=A3.put (o:=.cells [.str e] false) hba
     have S4:=S3.put (o:=.cells [.str e] false) hba
     have ll:=S3.ll
     refine W4 t0 t1 t6 ll ?_
     generalize hr1:(if l = [] then r else (r.expect T [44]).lines T) = r1 at hk
     have g1:Fwd T N r r1:=by
      rw [← hr1]; split
      ·exact Fwd.refl sr
      ·exact (expect_fwd W sr _).trans (lines_fwd W (expect_fwd W sr _).ok)
     generalize hv5:t 5 = v5 at S4 ⊢
     refine goC_cut AC.mono (fun ex a' h'=>ex = .nm ∧ a'.d = [] ∧ a'.t 0 = .ptr p 0 ∧ a'.t 1 = .str e ∧ a'.t 6 = .bool s.flat ∧ a'.t 5 = v5 ∧ PAt h0 h' p tb T r1 ∧ SlAt h0 h' p l v5) ?_ ?_
     ·by_cases el:l = []
      ·rw [if_pos el] at hr1; subst hr1
       have:l.length = 0:=by rw [el]; rfl
       refine W3 t0 t1 t6 ?_
       exact ⟨hv5,A4,S4⟩
      ·rw [if_neg el] at hr1; subst hr1
       have:0 < l.length:=List.length_pos_iff.2 el
       refine W3 t0 t1 t6 ?_
       refine expect_ac A4.re [44] fun h4 A5=>?_
       refine W3 t0 t1 t6 ?_
       refine lines_ac (A4.back A5).re W.last fun h5 A6=>?_
       refine W3 t0 t1 t6 ?_
       exact ⟨hv5,(A4.back A5).back A6,(S4.keep A5).keep A6⟩
     ·rintro ex ⟨t,ds⟩ h4 ⟨rfl,hd,t0,t1,t6,t5,A5,S5⟩
      simp only at hd t0 t1 t6 t5; subst hd
      refine W4 t0 t1 t6 t5 ?_
      refine C.run _ _ _ _ _ _ A5.re g1.ok (lr.fwd g1) fun h5 v A6 k6=>?_
      have g2:=g1.trans (C.fwd _ g1.ok (lr.fwd g1))
      have a2:=Adv.right g1 (C.adv _ g1.ok (lr.fwd g1)) (C.fwd _ g1.ok (lr.fwd g1))
      generalize M r1 = y at hk A6 k6 g2 a2
      obtain ⟨m,r2⟩:=y
      simp only at hk A6 k6 g2 a2
      have A6':=A5.back A6
      obtain ⟨kv,rfl,kb⟩:=k6.inv
      have kf:=kb.flat
      refine W5 t0 t1 t6 t5 kf ?_
      intro bn hbn
      have f5:=lines_fwd W g2.ok
      have bnd:(r2.lines T).err = 0 → T.length < (r2.lines T).i + k ∧ (l ++ [m]).length ≤ (r2.lines T).i:=fun e1=>by
       have:=f5.le
       rw [List.length_append]
       show _ ∧ l.length + 1 ≤ _
       rcases a2 e0 with d | d
       ·omega
       ·exact absurd (f5.err e1) d
      rcases S5 with ⟨el,ev⟩ | ⟨b,cs,q1,q2,q3,q4,q5,q6⟩
      ·subst el
       refine W5 t0 t1 t6 t5 ev ?_
       intro ba hba
       have S6:=SlAt.first A6' (o:=.cells (nodeC m kv) false) hbn hba (CellsV.wk0 A5 (CellsV.one k6))
       have A7:=(A6'.put (o:=.cells (nodeC m kv) false) hbn).put (o:=.cells (nodeC m kv) false) hba
       refine W5 t0 t1 t6 t5 ev ?_
       refine lines_ac A7.re W.last fun h7 A8=>?_
       refine W5 t0 t1 t6 t5 ev ?_
       exact ⟨(k,[m],r2.lines T),by show k < k + 1; omega,hk,bnd,(g2.trans f5).ok,lr.fwd (g2.trans f5),A7.back A8,S6.keep A8⟩
      ·have q5':=A6.keep q3 q5
       have cl:=q6.len
       have nbn:=none_ne hbn q5'
       have tk:List.take (l.length * 4) cs = cs:=List.take_of_length_le (by omega)
       refine W7 t0 t1 t6 t5 q4 q5' cl ?_
       intro ba nab hba
       have S6:=SlAt.more A6' (o:=.cells (nodeC m kv) false) q1 (q6.keep A6) hbn nab hba (CellsV.off A5 q5 (CellsV.one k6))
       have A7:=((A6'.put (o:=.cells (nodeC m kv) false) hbn).lose q2 q3).put (o:=.cells (cs ++ nodeC m kv) false) (by unfold hset; rw [if_neg nab]; exact hba)
       refine W6 t0 t1 t6 t5 q4 tk ?_
       refine lines_ac A7.re W.last fun h7 A8=>?_
       refine W4 t0 t1 t6 t5 ?_
       exact ⟨(k,l ++ [m],r2.lines T),by show k < k + 1; omega,hk,bnd,(g2.trans f5).ok,lr.fwd (g2.trans f5),A7.back A8,S6.keep A8⟩
    ·have fin:(l,r) = x:=by rw [← hk,listN,if_neg (by simp [ea])]
     rw [← fin]
     refine W3 t0 t1 t6 ?_
     exact ⟨A3.put hba,S3.put hba⟩
   ·have fin:(l,r) = x:=by
     rw [← hk]; cases k with
     | zero=>rfl
     | succ k=>rw [listN,if_neg (by simp [e0])]
    rw [← fin]
    refine W4 t0 t1 t6 hp3 ?_
    exact ⟨A3,S3⟩
 ·rintro ex ⟨t,ds⟩ h2 ⟨rfl,hd,t0,t1,t6,A3,S3⟩
  simp only at hd t0 t1 t6 S3; subst hd
  refine W3 t0 t1 t6 ?_
  refine expect_ac A3.re e fun h4 A4=>?_
  have A4':=A3.back A4
  have S4:=S3.keep A4
  have hp4:=A4'.obj
  unfold psC at hp4
  have A5:=A4'.setF s.flat
  have S5:=S4.set (o:=.cells [.sl tb 0 3 T.length,.int .i64 (x.2.expect T e).i,.int .i64 (x.2.expect T e).deep,.bool s.flat,.int .i64 (x.2.expect T e).err,.int .i64 (x.2.expect T e).bad] false)
  refine W4 t0 t1 t6 hp4 ?_
  have out:rtE (t 5) = some (t 5):=by rcases S3 with ⟨_,e⟩ | ⟨_,_,_,_,_,e,_⟩ <;> rw [e] <;> rfl
  refine W1 out ?_
  exact ⟨_,Sub.refl,hq _ _ A5 S5⟩
end Go.Proofs.YtkfbldogmgofoaaGreatDoor
namespace Go.Proofs.YtkfbldogmgofoaaGreatDoor
open Mir
variable {h:H} {Q:V → H → Prop} {h0 h1 h':H} {p tb:Nat} {T:List Tokn} {s s':PS} {N n c:Nat}
theorem wrong_ac (A:PAt h0 h p tb T s) {b1 b3:Nat} {t:Tokn} (hb1:h b1 = some (.cells [.ptr p 0] false)) (hb3:h b3 = some (.cells (tokC t) false)) (n1:b1 ≠ p) (n3:b3 ≠ p) (b:Bool) (e:Nat) {q:Prop} [Decidable q] (hb:b = true ↔ q)
  (hq:∀ h',PAt h0 h' p tb T (s.wrong t.a q e) → Q (.tup []) h'):AC pg (.fn 132) [.bool b,.int .i64 e,.ptr b1 0,.ptr b3 0] h Q:=by
 have hp:=A.obj
 unfold psC at hp
 unfold tokC at hb3
 unfold PS.wrong at hq
 refine AC.fn' (g:=g132) rfl (by simp only [List.length_cons,List.length_nil,g132]; decide) ?_; simp only [g132,Mir.Ab.all]
 cases b
 ·rw [if_neg (fun x=>by have:=hb.2 x.1; cases this)] at hq
  refine W3 hp hb1 hb3 ?_
  exact ⟨_,Sub.refl,hq _ A⟩
 ·have hc:=hb.1 rfl
  by_cases c1:s.err = 0
  ·rw [if_pos ⟨hc,c1⟩] at hq
   refine W3 hp hb1 hb3 ?_
   exact ⟨_,Sub.refl,hq _ (A.setE e t.a)⟩
  ·rw [if_neg (by simp [c1])] at hq
   refine W3 hp hb1 hb3 ?_
   exact ⟨_,Sub.refl,hq _ A⟩
theorem biPost_fwd {t:Tokn} {l:List Tree} (ht:t.a ≤ N) (hs:SOk T N s):Fwd T N s (biPost t l s).2:=by
 unfold biPost
 dsimp only
 repeat' split
 all_goals first
  | exact wrong_fwd hs ht (.inl rfl)
  | exact (wrong_fwd hs ht (.inr (.inl rfl))).trans (wrong_fwd (wrong_fwd hs ht (.inr (.inl rfl))).ok ht (.inl rfl))
theorem builtinM_fwd (W:TkOk T N) {M:PF} (hf:∀ s,SOk T N s → lvl n c s → Fwd T N s (M s).2) (hs:SOk T N s) (hl:lvl n c s):Fwd T N s (builtinM T M s).2 ∧ ((s.cur T).k ≠ 0 → Adv s (builtinM T M s).2):=by
 unfold builtinM
 have f1:=step_fwd W hs
 split
 ·exact ⟨f1,fun hk=>step_adv W hs hk⟩
 ·have f2:=f1.trans (expect_fwd W f1.ok [40])
  have f3:=listM_fwd W hf [41] f2.ok (hl.fwd f2)
  have f4:=f3.trans (biPost_fwd (t:=s.cur T) (l:=(listM T M [41] ((s.step T).expect T [40])).1) (cur_a W hs) f3.ok)
  exact ⟨f2.trans f4,fun hk=>(step_adv W hs hk).left ((expect_fwd W f1.ok [40]).trans f4)⟩
theorem SlAt.two {l:List Tree} {v:V} (k:SlAt h0 h p l v) (hl:2 ≤ l.length):∃ b x0 x1 rest k0 k1 cs,l = x0 :: x1 :: rest ∧ h0 b = none ∧ b ≠ p ∧ v = .sl b 0 4 l.length ∧
  h b = some (.cells (.str x0.op :: .str x0.text :: .int .i64 x0.at' :: k0 :: .str x1.op :: .str x1.text :: .int .i64 x1.at' :: k1 :: cs) false) ∧ KidsV (hadd h0 b (.cells [] false)) h p x0.kids k0 ∧ KidsV (hadd h0 b (.cells [] false)) h p x1.kids k1 ∧ CellsV (hadd h0 b (.cells [] false)) h p rest cs:=by
 rcases k with ⟨rfl,_⟩ | ⟨b,cs,h1,h2,h3,h4,h5,h6⟩
 ·simp at hl
 ·cases h6 with
  | nil=>simp at hl
  | cons k0 c0=>cases c0 with
    | nil=>simp at hl
    | cons k1 c1=>exact ⟨b,_,_,_,_,_,_,rfl,h2,h3,h4,h5,k0,k1,c1⟩
theorem PAt.more (A:PAt h0 h p tb T s) {b:Nat} {o:AObj} (hb:h b = some o) (n:b ≠ p) (z:h0 b = none):PAt (hadd h0 b o) h p tb T s :=
 ⟨A.obj,by rw [hadd_ne' (none_ne z A.toks)]; exact A.toks,A.glob.imp fun m hm=>by rw [hadd_ne' (none_ne z hm)]; exact hm,by rw [hadd_ne' (Ne.symm n)]; exact A.base,fun x o' hx=>by
  by_cases e:x = b
  ·subst e; rw [hadd_same] at hx; cases hx; exact hb
  ·rw [hadd_ne' e] at hx; exact A.sub _ _ hx,A.small,A.lt,A.deep⟩
theorem wrong_set {q:Prop} [Decidable q] (hq:q) (a e:Nat) (he:e ≠ 0):(s.wrong a q e).err ≠ 0:=by
 unfold PS.wrong; split
 ·exact he
 ·rename_i c; exact fun x=>c ⟨hq,x⟩
set_option maxHeartbeats 1000000 in
theorem builtin_ac (W:TkOk T N) {M:PF} (C:FC T N n c 46 M) (A:PAt h0 h p tb T s) (hs:SOk T N s) (hl:lvl n c s)
  (hq:∀ h' v,PAt h0 h' p tb T (builtinM T M s).2 → NodeV h0 h' p (builtinM T M s).1 v → Q v h'):AC pg (.fn 130) [.ptr p 0] h Q:=by
 unfold builtinM at hq
 have f1:=step_fwd W hs
 refine AC.fn' (g:=g130) rfl (by simp only [List.length_cons,List.length_nil,g130]; decide) ?_; simp only [g130,Mir.Ab.all]
 refine W0 ?_
 intro b1 hb1
 have A1:=A.put (o:=.cells [.ptr p 0] false) hb1
 have n1:=A.ne hb1
 refine W0 ?_
 intro b8 hb8
 have A2:=A1.put (o:=.cells Z4 false) hb8
 have n8:=A1.ne hb8
 have n18:b1 ≠ b8:=fun e=>by rw [← e] at hb8; simp [hadd,hset] at hb8
 have z1:=A.new hb1
 have z8:=A1.new hb8
 refine W0 ?_
 refine cur_ac A2 ?_
 obtain ⟨tt,ht⟩:∃ tt,tt = s.cur T:=⟨_,rfl⟩
 rw [← ht] at hq ⊢
 rw [tok3]
 refine W0 ?_
 intro b3 hb3
 have A3:=A2.put (o:=.cells (tokC tt) false) hb3
 have n3:=A2.ne hb3
 have z3:=A2.new hb3
 have n13:b1 ≠ b3:=fun e=>by rw [← e] at hb3; simp [hadd,hset,n18] at hb3
 have n83:b8 ≠ b3:=fun e=>by rw [← e] at hb3; simp [hadd,hset] at hb3
 have q1:hadd (hadd (hadd h b1 (.cells [.ptr p 0] false)) b8 (.cells Z4 false)) b3 (.cells (tokC tt) false) b1 = some (.cells [.ptr p 0] false):=by rw [hadd_ne' n13,hadd_ne' n18]; exact hadd_same
 have q8:hadd (hadd (hadd h b1 (.cells [.ptr p 0] false)) b8 (.cells Z4 false)) b3 (.cells (tokC tt) false) b8 = some (.cells Z4 false):=by rw [hadd_ne' n83]; exact hadd_same
 have q3:hadd (hadd (hadd h b1 (.cells [.ptr p 0] false)) b8 (.cells Z4 false)) b3 (.cells (tokC tt) false) b3 = some (.cells (tokC tt) false):=hadd_same
 unfold tokC at A3 q1 q8 q3
 unfold Z4 at A3 q1 q8 q3
 refine W0 ?_
 generalize hadd (hadd (hadd h b1 _) b8 _) b3 _ = h2 at A3 q1 q8 q3 ⊢
 refine step_ac A3.re fun h3 A4=>?_
 have A4':=A3.back A4
 have r1:=A4.keep (Ne.symm n1) q1
 have r8:=A4.keep (Ne.symm n8) q8
 have r3:=A4.keep (Ne.symm n3) q3
 by_cases g:tt.t = [108,101,110,103,116,104] ∧ (s.step T).isAt T [[40]] = false
 ·rw [if_pos g] at hq
  have gt:(tt.t = [108,101,110,103,116,104]) = True:=eq_true g.1
  refine W3 r1 r3 gt ?_
  intro b16 hb16
  have n116:=none_ne hb16 r1
  have n316:=none_ne hb16 r3
  have n816:=none_ne hb16 r8
  refine W2 r1 r3 ?_
  refine at_ac (ss:=[[40]]) (A4'.put hb16) hadd_same (by decide) ?_
  rw [g.2]
  refine W2 r1 r3 ?_
  refine leaf_ac [98,117,105,108,116,105,110] tt rfl ?_
  refine W1 r8 ?_
  exact ⟨_,Sub.refl,hq _ _ ((A4'.put hb16).over z8 (Ne.symm n8)) (.mk .nil)⟩
 rw [if_neg g] at hq
 refine W2 r1 r3 ?_
 refine goG_cut AC.mono (fun a' h'=>a'.d = [] ∧ a'.t 1 = .ptr b1 0 ∧ a'.t 2 = .ptr b8 0 ∧ a'.t 3 = .ptr b3 0 ∧ a'.t 19 = .bool false ∧ PAt h0 h' p tb T (s.step T) ∧ h' b1 = some (.cells [.ptr p 0] false) ∧ h' b8 = some (.cells Z4 false) ∧ h' b3 = some (.cells (tokC tt) false)) ?_ ?_
 ·by_cases gt:tt.t = [108,101,110,103,116,104]
  ·have ga:(s.step T).isAt T [[40]] = true:=by
    cases e:(s.step T).isAt T [[40]]
    ·exact absurd ⟨gt,e⟩ g
    ·rfl
   have gt':(tt.t = [108,101,110,103,116,104]) = True:=eq_true gt
   refine W3 r1 r3 gt' ?_
   intro b16 hb16
   refine W2 r1 r3 ?_
   refine at_ac (ss:=[[40]]) (A4'.put hb16) hadd_same (by decide) ?_
   rw [ga]
   refine W2 r1 r3 ?_
   exact ⟨A4'.put hb16,by rw [hadd_ne' (none_ne hb16 r1)]; exact r1,by rw [hadd_ne' (none_ne hb16 r8)]; exact r8,by rw [hadd_ne' (none_ne hb16 r3)]; exact r3⟩
  ·have gt':(tt.t = [108,101,110,103,116,104]) = False:=eq_false gt
   refine W3 r1 r3 gt' ?_
   exact ⟨A4',r8,rfl⟩
 ·rintro ⟨t,ds⟩ h4 ⟨hd,t1,t2,t3,t19,A5,r1,r8,r3⟩
  simp only at hd t1 t2 t3 t19; subst hd
  refine W5 t1 t2 t3 t19 r1 ?_
  refine expect_ac A5.re [40] fun h5 A6=>?_
  have A6':=A5.back A6
  have r1:=A6.keep (Ne.symm n1) r1
  have r8:=A6.keep (Ne.symm n8) r8
  have r3:=A6.keep (Ne.symm n3) r3
  have f2:=f1.trans (expect_fwd W f1.ok [40])
  refine W4 t1 t2 t3 r1 ?_
  refine list_ac W C [41] A6'.re f2.ok (hl.fwd f2) fun h6 v A7 S7=>?_
  have f3:=f2.trans (listM_fwd W C.fwd [41] f2.ok (hl.fwd f2))
  generalize listM T M [41] ((s.step T).expect T [40]) = x at hq A7 S7 f3
  obtain ⟨l,r⟩:=x
  simp only at hq A7 S7 f3
  have A7':=A6'.back A7
  have r1:=A7.keep (Ne.symm n1) r1
  have r8':=A7.keep (Ne.symm n8) r8
  have r3':=A7.keep (Ne.symm n3) r3
  have ll:=S7.ll
  have r3c:=r3'
  unfold tokC at r3'
  have sl0:SlAt (hadd h0 b8 (.cells Z4 false)) h6 p l v:=by
   rcases S7 with S7 | ⟨b,cs,w1,w2,w3,w4,w5,w6⟩
   ·exact .inl S7
   ·have w2':h5 b = none:=by rw [show hset h5 p none b = h5 b from if_neg w3] at w2; exact w2
    refine .inr ⟨b,cs,w1,by rw [hadd_ne' (none_ne w2' r8).symm]; exact A6'.new w2',w3,w4,w5,CellsV.move (fun x o z nx hx=>⟨?_,hx⟩) w6⟩
    obtain ⟨z1,z2⟩:=had_none z
    rw [show hset h5 p none x = h5 x from if_neg nx] at z2
    rw [hadd_ne' z1,hadd_ne' (none_ne z2 r8).symm]; exact A6'.new z2
  have vf:v.flat = true:=S7.kids.flat
  have fin:∀ (h7:H) (s7:PS) (l7:List Tree) (v7:V),PAt h0 h7 p tb T s7 → KidsV (hadd h0 b8 (.cells Z4 false)) h7 p l7 v7 → biPost tt l r = (l7,s7) → ∃ h3,Mir.Sub h3 (hadd h7 b8 (.cells [.str [98,117,105,108,116,105,110],.str tt.t,.int .i64 tt.a,v7] false)) ∧ Q (.agg [.str [98,117,105,108,116,105,110],.str tt.t,.int .i64 tt.a,v7]) h3:=fun h7 s7 l7 v7 B k e=>by
   rw [e] at hq
   exact ⟨_,Sub.refl,hq _ _ (B.over z8 (Ne.symm n8)) (.mk (KidsV.move (fun x o z nx hx=>⟨(had_none z).2,by rw [hadd_ne' (had_none z).1]; exact hx⟩) k))⟩
  have keepK:∀ {h':H} {s':PS},PAt (hset h6 p none) h' p tb T s' → KidsV (hadd h0 b8 (.cells Z4 false)) h' p l v:=fun B=>sl0.kids.keep B
  unfold biPost at fin
  by_cases c1:tt.t = [108,101,110,103,116,104]
  ·have d1:(tt.t = [108,101,110,103,116,104]) = True:=eq_true c1
   refine W7 t1 t2 t3 r1 r3' ll d1 ?_
   refine wrong_ac A7'.re r1 r3c (Ne.symm n1) (Ne.symm n3) _ 9 (q:=1 < l.length) (by rw [decide_eq_true_iff]; omega) fun h8 A8=>?_
   have r3:=A8.keep (Ne.symm n3) r3'
   have r8:=A8.keep (Ne.symm n8) r8'
   refine W4 t1 t2 t3 r3 ?_
   refine leaf_ac [98,117,105,108,116,105,110] tt vf ?_
   refine W3 t2 r8 vf ?_
   exact fin _ _ _ _ (A7'.back A8) (keepK A8) (by simp only [d1,if_true,if_false,or_true,true_or,or_false,or_self,reduceIte])
  have d1:(tt.t = [108,101,110,103,116,104]) = False:=eq_false c1
  by_cases c2:tt.t = [115,117,98,115,116,114]
  ·have d2:(tt.t = [115,117,98,115,116,114]) = True:=eq_true c2
   by_cases n2:l.length < 2
   ·refine W8 t1 t2 t3 r1 r3' ll d1 d2 ?_
    refine wrong_ac A7'.re r1 r3c (Ne.symm n1) (Ne.symm n3) _ 9 (q:=l.length < 2 ∨ 3 < l.length) (by simp [n2]) fun h8 A8=>?_
    have r3:=A8.keep (Ne.symm n3) r3'
    have r8:=A8.keep (Ne.symm n8) r8'
    refine W4 t1 t2 t3 r3 ?_
    refine leaf_ac [98,117,105,108,116,105,110] tt vf ?_
    refine W3 t2 r8 vf ?_
    exact fin _ _ _ _ (A7'.back A8) (keepK A8) (by simp only [d1,d2,if_true,if_false,or_true,true_or,or_false,or_self,reduceIte])
   ·refine W8 t1 t2 t3 r1 r3' ll d1 d2 ?_
    refine wrong_ac A7'.re r1 r3c (Ne.symm n1) (Ne.symm n3) _ 9 (q:=l.length < 2 ∨ 3 < l.length) (by rw [decide_eq_true_iff]; omega) fun h8 A8=>?_
    have r3:=A8.keep (Ne.symm n3) r3'
    have r8:=A8.keep (Ne.symm n8) r8'
    refine W4 t1 t2 t3 r3 ?_
    refine leaf_ac [98,117,105,108,116,105,110] tt vf ?_
    refine W3 t2 r8 vf ?_
    exact fin _ _ _ _ (A7'.back A8) (keepK A8) (by simp only [d1,d2,if_true,if_false,or_true,true_or,or_false,or_self,reduceIte])
  have d2:(tt.t = [115,117,98,115,116,114]) = False:=eq_false c2
  by_cases c3:tt.t = [115,112,108,105,116]
  ·have d3:(tt.t = [115,112,108,105,116]) = True:=eq_true c3
   obtain ⟨rs,hrs⟩:∃ rs,rs = r.wrong tt.a (l.length < 2 ∨ 3 < l.length ∨ (l.getD 1 .zero).op ≠ [118,97,114]) 9:=⟨_,rfl⟩
   by_cases n2:l.length < 2 ∨ 3 < l.length
   ·have ne:=wrong_set (s:=r) (q:=l.length < 2 ∨ 3 < l.length ∨ (l.getD 1 .zero).op ≠ [118,97,114]) (by rcases n2 with e | e; exact .inl e; exact .inr (.inl e)) tt.a 9 (by decide)
    rw [← hrs] at ne
    have tail:∀ (h8:H),PAt (hset h6 p none) h8 p tb T rs → True:=fun _ _=>trivial
    by_cases n2':l.length < 2
    ·refine W8 t1 t2 t3 r1 r3' ll d1 (And.intro d2 d3) ?_
     refine wrong_ac A7'.re r1 r3c (Ne.symm n1) (Ne.symm n3) _ 9 (q:=l.length < 2 ∨ 3 < l.length ∨ (l.getD 1 .zero).op ≠ [118,97,114]) (by simp [n2']) fun h8 A8=>?_
     rw [← hrs] at A8
     have r1x:=A8.keep (Ne.symm n1) r1
     have hp8:=A8.obj
     unfold psC at hp8
     have r3:=A8.keep (Ne.symm n3) r3'
     have r8:=A8.keep (Ne.symm n8) r8'
     refine W6 t1 t2 t3 r1x hp8 r3 ?_
     refine leaf_ac [98,117,105,108,116,105,110] tt vf ?_
     refine W3 t2 r8 vf ?_
     exact fin _ _ _ _ (A7'.back A8) (keepK A8) (by simp only [d1,d2,d3,if_true,if_false,or_true,true_or,or_false,or_self,reduceIte]; rw [← hrs,if_neg ne])
    ·have n3l:3 < l.length:=by omega
     refine W8 t1 t2 t3 r1 r3' ll d1 (And.intro d2 d3) ?_
     refine wrong_ac A7'.re r1 r3c (Ne.symm n1) (Ne.symm n3) _ 9 (q:=l.length < 2 ∨ 3 < l.length ∨ (l.getD 1 .zero).op ≠ [118,97,114]) (by simp [n3l]) fun h8 A8=>?_
     rw [← hrs] at A8
     have r1x:=A8.keep (Ne.symm n1) r1
     have hp8:=A8.obj
     unfold psC at hp8
     have r3:=A8.keep (Ne.symm n3) r3'
     have r8:=A8.keep (Ne.symm n8) r8'
     refine W6 t1 t2 t3 r1x hp8 r3 ?_
     refine leaf_ac [98,117,105,108,116,105,110] tt vf ?_
     refine W3 t2 r8 vf ?_
     exact fin _ _ _ _ (A7'.back A8) (keepK A8) (by simp only [d1,d2,d3,if_true,if_false,or_true,true_or,or_false,or_self,reduceIte]; rw [← hrs,if_neg ne])
   obtain ⟨b,x0,x1,rest,k0,k1,cs,el,zb,nb,ev,hb,kk0,kk1,kr⟩:=sl0.two (by omega)
   have kf0:=kk0.flat
   have kf1:=kk1.flat
   have nb8:=(had_none zb).1
   have zb0:=(had_none zb).2
   have e1:(l.getD 1 .zero).op = x1.op:=by rw [el]; rfl
   have hb3:b ≠ b3:=fun e=>by rw [e,r3c] at hb; simp [tokC] at hb
   have hb1:b ≠ b1:=fun e=>by rw [e,r1] at hb; simp at hb
   refine W8 t1 t2 t3 r1 r3' ll d1 (And.intro d2 (And.intro d3 (And.intro ev hb))) ?_
   refine wrong_ac A7'.re r1 r3c (Ne.symm n1) (Ne.symm n3) _ 9 (q:=l.length < 2 ∨ 3 < l.length ∨ (l.getD 1 .zero).op ≠ [118,97,114]) (by rw [e1]; simp only [n2,decide_eq_true_iff]; constructor; (intro h; exact .inr (.inr h)); (rintro (h | h | h); omega; omega; exact h)) fun h8 A8=>?_
   rw [← hrs] at A8
   have r1x:=A8.keep (Ne.symm n1) r1
   have hp8:=A8.obj
   unfold psC at hp8
   have r3:=A8.keep (Ne.symm n3) r3'
   have r8:=A8.keep (Ne.symm n8) r8'
   have hb':=A8.keep nb hb
   by_cases ne:rs.err = 0
   ·refine W8 t1 t2 t3 r1x hp8 r3 ev hb' ?_
    refine leaf_ac [98,117,105,108,116,105,110] tt rfl ?_
    refine W2 t2 r8 ?_
    have kk0':=kk0.keep A8
    have kk1':=kk1.keep A8
    have kr':=kr.keep A8
    refine fin _ rs (x0 :: x1.withOp [110,97,109,101] :: rest) _ ((A7'.back A8).over zb0 nb) ?_ (by simp only [d1,d2,d3,if_true,if_false,or_true,true_or,or_false,or_self,reduceIte]; rw [← hrs,if_pos ne,el]; rfl)
    have ll':(x0 :: x1.withOp [110,97,109,101] :: rest).length = l.length:=by rw [el]; rfl
    rw [← ll']
    have mv:∀ (o':AObj) (ll:List Tree) (vv:V),KidsV (hadd (hadd h0 b8 (.cells Z4 false)) b (.cells [] false)) h8 p ll vv → KidsV (hadd h0 b8 (.cells Z4 false)) (hadd h8 b o') p ll vv:=fun o' ll vv k =>
     KidsV.move (fun x o z nx hx=>⟨(had_none z).2,by rw [hadd_ne' (had_none z).1]; exact hx⟩) k
    cases x0; cases x1
    exact .sl (by simp) zb nb hadd_same (.cons (mv _ _ _ kk0') (.cons (mv _ _ _ kk1') (CellsV.move (fun x o z nx hx=>⟨(had_none z).2,by rw [hadd_ne' (had_none z).1]; exact hx⟩) kr')))
   ·refine W6 t1 t2 t3 r1x hp8 r3 ?_
    refine leaf_ac [98,117,105,108,116,105,110] tt rfl ?_
    refine W3 t2 r8 vf ?_
    exact fin _ _ _ _ (A7'.back A8) (ev ▸ keepK A8) (by simp only [d1,d2,d3,if_true,if_false,or_true,true_or,or_false,or_self,reduceIte]; rw [← hrs,if_neg ne])
  have d3:(tt.t = [115,112,108,105,116]) = False:=eq_false c3
  by_cases c4:tt.t = [115,117,98]
  ·have d4:(tt.t = [115,117,98]) = True:=eq_true c4
   by_cases n2:l.length < 2 ∨ 3 < l.length
   ·by_cases n2':l.length < 2
    ·refine W8 t1 t2 t3 r1 r3' ll d1 (And.intro d2 (And.intro d3 d4)) ?_
     refine wrong_ac A7'.re r1 r3c (Ne.symm n1) (Ne.symm n3) _ 9 (q:=l.length < 2 ∨ 3 < l.length ∨ l.length = 3 ∧ (l.getD 2 .zero).isPlace = false) (by simp [n2']) fun h8 A8=>?_
     have r3:=A8.keep (Ne.symm n3) r3'
     have r8:=A8.keep (Ne.symm n8) r8'
     refine W4 t1 t2 t3 r3 ?_
     refine leaf_ac [98,117,105,108,116,105,110] tt vf ?_
     refine W3 t2 r8 vf ?_
     exact fin _ _ _ _ (A7'.back A8) (keepK A8) (by simp only [d1,d2,d3,d4,if_true,if_false,or_true,true_or,or_false,or_self,reduceIte]; rw [if_neg (by omega)])
    ·have n3l:3 < l.length:=by omega
     refine W8 t1 t2 t3 r1 r3' ll d1 (And.intro d2 (And.intro d3 d4)) ?_
     refine wrong_ac A7'.re r1 r3c (Ne.symm n1) (Ne.symm n3) _ 9 (q:=l.length < 2 ∨ 3 < l.length ∨ l.length = 3 ∧ (l.getD 2 .zero).isPlace = false) (by simp [n3l]) fun h8 A8=>?_
     have r3:=A8.keep (Ne.symm n3) r3'
     have r8:=A8.keep (Ne.symm n8) r8'
     refine W4 t1 t2 t3 r3 ?_
     refine leaf_ac [98,117,105,108,116,105,110] tt vf ?_
     refine W3 t2 r8 vf ?_
     exact fin _ _ _ _ (A7'.back A8) (keepK A8) (by simp only [d1,d2,d3,d4,if_true,if_false,or_true,true_or,or_false,or_self,reduceIte]; rw [if_neg (by omega)])
   obtain ⟨b,x0,x1,rest,k0,k1,cs,el,zb,nb,ev,hb,kk0,kk1,kr⟩:=sl0.two (by omega)
   have kf0:=kk0.flat
   have kf1:=kk1.flat
   have nb8:=(had_none zb).1
   have zb0:=(had_none zb).2
   have hb3:b ≠ b3:=fun e=>by rw [e,r3c] at hb; simp [tokC] at hb
   have hb1:b ≠ b1:=fun e=>by rw [e,r1] at hb; simp at hb
   have vf':(V.sl b 0 4 l.length).flat = true:=rfl
   by_cases n3l:l.length = 3
   ·have:∃ x2,rest = [x2]:=by
     rw [el] at n3l
     match rest,n3l with
     | [x2],_=>exact ⟨x2,rfl⟩
    obtain ⟨x2,rfl⟩:=this
    cases kr with
    | cons k2 kn =>
      cases kn
      have kf2:=k2.flat
      refine W8 t1 t2 t3 r1 r3' ll d1 (And.intro d2 (And.intro d3 (And.intro d4 (And.intro ev hb)))) ?_
      refine place_ac _ _ _ [] kf2 ?_
      refine W8 t1 t2 t3 r1 r3' ll d1 (And.intro d2 (And.intro d3 d4)) ?_
      refine wrong_ac A7'.re r1 r3c (Ne.symm n1) (Ne.symm n3) _ 9 (q:=l.length < 2 ∨ 3 < l.length ∨ l.length = 3 ∧ (l.getD 2 .zero).isPlace = false) (by rw [el]; simp; rfl) fun h8 A8=>?_
      have r3:=A8.keep (Ne.symm n3) r3'
      have r8:=A8.keep (Ne.symm n8) r8'
      refine W4 t1 t2 t3 r3 ?_
      refine leaf_ac [98,117,105,108,116,105,110] tt vf' ?_
      refine W2 t2 r8 ?_
      exact fin _ _ _ _ (A7'.back A8) (ev ▸ keepK A8) (by simp only [d1,d2,d3,d4,if_true,if_false,or_true,true_or,or_false,or_self,reduceIte]; rw [if_neg (by omega)])
   ·have n2l:l.length = 2:=by omega
    have:rest = []:=by
     rw [el] at n2l
     match rest,n2l with
     | [],_=>rfl
    subst this
    cases kr
    refine W8 t1 t2 t3 r1 r3' ll d1 (And.intro d2 (And.intro d3 (And.intro d4 (And.intro ev hb)))) ?_
    refine wrong_ac A7'.re r1 r3c (Ne.symm n1) (Ne.symm n3) _ 9 (q:=l.length < 2 ∨ 3 < l.length ∨ l.length = 3 ∧ (l.getD 2 .zero).isPlace = false) (by simp [n2,n3l]) fun h8 A8=>?_
    have r3:=A8.keep (Ne.symm n3) r3'
    have r8:=A8.keep (Ne.symm n8) r8'
    have hb':=A8.keep nb hb
    have A8g:=(A7'.back A8).more r8 (Ne.symm n8) z8
    refine W4 t1 t2 t3 r3 ?_
    intro bx hbx
    have nbx:=none_ne hbx hb'
    refine W4 t1 t2 t3 r3 ?_
    refine node_ac [102,105,101,108,100] (l:=[]) rfl ?_
    refine W4 t1 t2 t3 r3 ?_
    intro by' hby
    have nbx8:=none_ne hbx r8
    have nbx3:=none_ne hbx r3
    have nby8:b8 ≠ by':=fun e=>by rw [← e,hadd_ne' nbx8,r8] at hby; cases hby
    have nby3:b3 ≠ by':=fun e=>by rw [← e,hadd_ne' nbx3,r3] at hby; cases hby
    have nby:b ≠ by':=fun e=>by rw [← e,hadd_ne' nbx,hb'] at hby; cases hby
    refine W7 t1 t2 t3 r3 ev hb' n2l ?_
    intro ba nab hba
    have ha0:hadd h8 bx (.cells [V.str [110,117,109],V.str [48],V.int IntKind.i64 ↑tt.a,V.nilsl] false) ba = none:=by
     have n:ba ≠ by':=fun e=>by rw [e,hadd_same] at hba; cases hba
     rw [hadd_ne' n] at hba; exact hba
    have nba8:b8 ≠ ba:=fun e=>by rw [← e,hadd_ne' nbx8,r8] at ha0; cases ha0
    have nba3:b3 ≠ ba:=fun e=>by rw [← e,hadd_ne' nbx3,r3] at ha0; cases ha0
    have kt:CellsV (hadd (hadd h0 b8 (.cells Z4 false)) b (.cells [] false)) (hadd h8 bx (.cells [V.str [110,117,109],V.str [48],V.int IntKind.i64 ↑tt.a,V.nilsl] false)) p [nodeM [102,105,101,108,100] [.nd [110,117,109] [48] tt.a []]] [V.str [102,105,101,108,100],V.str [],V.int IntKind.i64 0,V.sl bx 0 4 1] :=
     .cons (.sl (by simp) (by rw [hadd_ne' (Ne.symm nbx),hadd_ne' (Ne.symm nbx8)]; exact (A7'.back A8).new hbx) (Ne.symm ((A7'.back A8).ne hbx)) hadd_same (.cons .nil .nil)) .nil
    have kc:CellsV (hadd (hadd h0 b8 (.cells Z4 false)) b (.cells [] false)) (hadd h8 bx (.cells [V.str [110,117,109],V.str [48],V.int IntKind.i64 ↑tt.a,V.nilsl] false)) p [x0,x1] (nodeC x0 k0 ++ nodeC x1 k1) :=
     (CellsV.one (NodeV.of ((kk0.keep A8).put hbx))).app (CellsV.one (NodeV.of ((kk1.keep A8).put hbx)))
    have S9:=SlAt.more (A8g.put hbx) (by simp) kc hby nab hba kt
    have A9:=((((A7'.back A8).put hbx).put hby).lose zb0 nb).put (o:=.cells (nodeC x0 k0 ++ nodeC x1 k1 ++ [V.str [102,105,101,108,100],V.str [],V.int IntKind.i64 0,V.sl bx 0 4 1]) false) (b:=ba) (by unfold hset; rw [if_neg nab]; exact hba)
    refine W6 t1 t2 t3 r3 ev n2l ?_
    refine leaf_ac [98,117,105,108,116,105,110] tt rfl ?_
    refine W2 t2 r8 ?_
    exact fin _ _ _ _ A9 S9.kids (by simp only [d1,d2,d3,d4,if_true,if_false,or_true,true_or,or_false,or_self,reduceIte]; rw [if_pos (by omega),el])
  have d4:(tt.t = [115,117,98]) = False:=eq_false c4
  by_cases c5:tt.t = [103,115,117,98]
  ·have d5:(tt.t = [103,115,117,98]) = True:=eq_true c5
   by_cases n2:l.length < 2 ∨ 3 < l.length
   ·by_cases n2':l.length < 2
    ·refine W8 t1 t2 t3 r1 r3' ll d1 (And.intro d2 (And.intro d3 (And.intro d4 d5))) ?_
     refine wrong_ac A7'.re r1 r3c (Ne.symm n1) (Ne.symm n3) _ 9 (q:=l.length < 2 ∨ 3 < l.length ∨ l.length = 3 ∧ (l.getD 2 .zero).isPlace = false) (by simp [n2']) fun h8 A8=>?_
     have r3:=A8.keep (Ne.symm n3) r3'
     have r8:=A8.keep (Ne.symm n8) r8'
     refine W4 t1 t2 t3 r3 ?_
     refine leaf_ac [98,117,105,108,116,105,110] tt vf ?_
     refine W3 t2 r8 vf ?_
     exact fin _ _ _ _ (A7'.back A8) (keepK A8) (by simp only [d1,d2,d3,d4,d5,if_true,if_false,or_true,true_or,or_false,or_self,reduceIte]; rw [if_neg (by omega)])
    ·have n3l:3 < l.length:=by omega
     refine W8 t1 t2 t3 r1 r3' ll d1 (And.intro d2 (And.intro d3 (And.intro d4 d5))) ?_
     refine wrong_ac A7'.re r1 r3c (Ne.symm n1) (Ne.symm n3) _ 9 (q:=l.length < 2 ∨ 3 < l.length ∨ l.length = 3 ∧ (l.getD 2 .zero).isPlace = false) (by simp [n3l]) fun h8 A8=>?_
     have r3:=A8.keep (Ne.symm n3) r3'
     have r8:=A8.keep (Ne.symm n8) r8'
     refine W4 t1 t2 t3 r3 ?_
     refine leaf_ac [98,117,105,108,116,105,110] tt vf ?_
     refine W3 t2 r8 vf ?_
     exact fin _ _ _ _ (A7'.back A8) (keepK A8) (by simp only [d1,d2,d3,d4,d5,if_true,if_false,or_true,true_or,or_false,or_self,reduceIte]; rw [if_neg (by omega)])
   obtain ⟨b,x0,x1,rest,k0,k1,cs,el,zb,nb,ev,hb,kk0,kk1,kr⟩:=sl0.two (by omega)
   have kf0:=kk0.flat
   have kf1:=kk1.flat
   have nb8:=(had_none zb).1
   have zb0:=(had_none zb).2
   have hb3:b ≠ b3:=fun e=>by rw [e,r3c] at hb; simp [tokC] at hb
   have hb1:b ≠ b1:=fun e=>by rw [e,r1] at hb; simp at hb
   have vf':(V.sl b 0 4 l.length).flat = true:=rfl
   by_cases n3l:l.length = 3
   ·have:∃ x2,rest = [x2]:=by
     rw [el] at n3l
     match rest,n3l with
     | [x2],_=>exact ⟨x2,rfl⟩
    obtain ⟨x2,rfl⟩:=this
    cases kr with
    | cons k2 kn =>
      cases kn
      have kf2:=k2.flat
      refine W8 t1 t2 t3 r1 r3' ll d1 (And.intro d2 (And.intro d3 (And.intro d4 (And.intro d5 (And.intro ev hb))))) ?_
      refine place_ac _ _ _ [] kf2 ?_
      refine W8 t1 t2 t3 r1 r3' ll d1 (And.intro d2 (And.intro d3 (And.intro d4 d5))) ?_
      refine wrong_ac A7'.re r1 r3c (Ne.symm n1) (Ne.symm n3) _ 9 (q:=l.length < 2 ∨ 3 < l.length ∨ l.length = 3 ∧ (l.getD 2 .zero).isPlace = false) (by rw [el]; simp; rfl) fun h8 A8=>?_
      have r3:=A8.keep (Ne.symm n3) r3'
      have r8:=A8.keep (Ne.symm n8) r8'
      refine W4 t1 t2 t3 r3 ?_
      refine leaf_ac [98,117,105,108,116,105,110] tt vf' ?_
      refine W2 t2 r8 ?_
      exact fin _ _ _ _ (A7'.back A8) (ev ▸ keepK A8) (by simp only [d1,d2,d3,d4,d5,if_true,if_false,or_true,true_or,or_false,or_self,reduceIte]; rw [if_neg (by omega)])
   ·have n2l:l.length = 2:=by omega
    have:rest = []:=by
     rw [el] at n2l
     match rest,n2l with
     | [],_=>rfl
    subst this
    cases kr
    refine W8 t1 t2 t3 r1 r3' ll d1 (And.intro d2 (And.intro d3 (And.intro d4 (And.intro d5 (And.intro ev hb))))) ?_
    refine wrong_ac A7'.re r1 r3c (Ne.symm n1) (Ne.symm n3) _ 9 (q:=l.length < 2 ∨ 3 < l.length ∨ l.length = 3 ∧ (l.getD 2 .zero).isPlace = false) (by simp [n2,n3l]) fun h8 A8=>?_
    have r3:=A8.keep (Ne.symm n3) r3'
    have r8:=A8.keep (Ne.symm n8) r8'
    have hb':=A8.keep nb hb
    have A8g:=(A7'.back A8).more r8 (Ne.symm n8) z8
    refine W4 t1 t2 t3 r3 ?_
    intro bx hbx
    have nbx:=none_ne hbx hb'
    refine W4 t1 t2 t3 r3 ?_
    refine node_ac [102,105,101,108,100] (l:=[]) rfl ?_
    refine W4 t1 t2 t3 r3 ?_
    intro by' hby
    have nbx8:=none_ne hbx r8
    have nbx3:=none_ne hbx r3
    have nby8:b8 ≠ by':=fun e=>by rw [← e,hadd_ne' nbx8,r8] at hby; cases hby
    have nby3:b3 ≠ by':=fun e=>by rw [← e,hadd_ne' nbx3,r3] at hby; cases hby
    have nby:b ≠ by':=fun e=>by rw [← e,hadd_ne' nbx,hb'] at hby; cases hby
    refine W7 t1 t2 t3 r3 ev hb' n2l ?_
    intro ba nab hba
    have ha0:hadd h8 bx (.cells [V.str [110,117,109],V.str [48],V.int IntKind.i64 ↑tt.a,V.nilsl] false) ba = none:=by
     have n:ba ≠ by':=fun e=>by rw [e,hadd_same] at hba; cases hba
     rw [hadd_ne' n] at hba; exact hba
    have nba8:b8 ≠ ba:=fun e=>by rw [← e,hadd_ne' nbx8,r8] at ha0; cases ha0
    have nba3:b3 ≠ ba:=fun e=>by rw [← e,hadd_ne' nbx3,r3] at ha0; cases ha0
    have kt:CellsV (hadd (hadd h0 b8 (.cells Z4 false)) b (.cells [] false)) (hadd h8 bx (.cells [V.str [110,117,109],V.str [48],V.int IntKind.i64 ↑tt.a,V.nilsl] false)) p [nodeM [102,105,101,108,100] [.nd [110,117,109] [48] tt.a []]] [V.str [102,105,101,108,100],V.str [],V.int IntKind.i64 0,V.sl bx 0 4 1] :=
     .cons (.sl (by simp) (by rw [hadd_ne' (Ne.symm nbx),hadd_ne' (Ne.symm nbx8)]; exact (A7'.back A8).new hbx) (Ne.symm ((A7'.back A8).ne hbx)) hadd_same (.cons .nil .nil)) .nil
    have kc:CellsV (hadd (hadd h0 b8 (.cells Z4 false)) b (.cells [] false)) (hadd h8 bx (.cells [V.str [110,117,109],V.str [48],V.int IntKind.i64 ↑tt.a,V.nilsl] false)) p [x0,x1] (nodeC x0 k0 ++ nodeC x1 k1) :=
     (CellsV.one (NodeV.of ((kk0.keep A8).put hbx))).app (CellsV.one (NodeV.of ((kk1.keep A8).put hbx)))
    have S9:=SlAt.more (A8g.put hbx) (by simp) kc hby nab hba kt
    have A9:=((((A7'.back A8).put hbx).put hby).lose zb0 nb).put (o:=.cells (nodeC x0 k0 ++ nodeC x1 k1 ++ [V.str [102,105,101,108,100],V.str [],V.int IntKind.i64 0,V.sl bx 0 4 1]) false) (b:=ba) (by unfold hset; rw [if_neg nab]; exact hba)
    refine W6 t1 t2 t3 r3 ev n2l ?_
    refine leaf_ac [98,117,105,108,116,105,110] tt rfl ?_
    refine W2 t2 r8 ?_
    exact fin _ _ _ _ A9 S9.kids (by simp only [d1,d2,d3,d4,d5,if_true,if_false,or_true,true_or,or_false,or_self,reduceIte]; rw [if_pos (by omega),el])
  have d5:(tt.t = [103,115,117,98]) = False:=eq_false c5
  by_cases c6:tt.t = [105,110,100,101,120]
  ·have d6:(tt.t = [105,110,100,101,120]) = True:=eq_true c6
   refine W8 t1 t2 t3 r1 r3' ll d1 (And.intro d2 (And.intro d3 (And.intro d4 (And.intro d5 d6)))) ?_
   refine wrong_ac A7'.re r1 r3c (Ne.symm n1) (Ne.symm n3) _ 9 (q:=l.length ≠ 2) (by rw [decide_eq_true_iff]; omega) fun h8 A8=>?_
   have r3:=A8.keep (Ne.symm n3) r3'
   have r8:=A8.keep (Ne.symm n8) r8'
   refine W4 t1 t2 t3 r3 ?_
   refine leaf_ac [98,117,105,108,116,105,110] tt vf ?_
   refine W3 t2 r8 vf ?_
   exact fin _ _ _ _ (A7'.back A8) (keepK A8) (by simp only [d1,d2,d3,d4,d5,d6,if_true,if_false,or_true,true_or,or_false,or_self,reduceIte])
  have d6:(tt.t = [105,110,100,101,120]) = False:=eq_false c6
  by_cases c7:tt.t = [109,97,116,99,104]
  ·have d7:(tt.t = [109,97,116,99,104]) = True:=eq_true c7
   refine W8 t1 t2 t3 r1 r3' ll d1 (And.intro d2 (And.intro d3 (And.intro d4 (And.intro d5 (And.intro d6 d7))))) ?_
   refine wrong_ac A7'.re r1 r3c (Ne.symm n1) (Ne.symm n3) _ 9 (q:=l.length ≠ 2) (by rw [decide_eq_true_iff]; omega) fun h8 A8=>?_
   have r3:=A8.keep (Ne.symm n3) r3'
   have r8:=A8.keep (Ne.symm n8) r8'
   refine W4 t1 t2 t3 r3 ?_
   refine leaf_ac [98,117,105,108,116,105,110] tt vf ?_
   refine W3 t2 r8 vf ?_
   exact fin _ _ _ _ (A7'.back A8) (keepK A8) (by simp only [d1,d2,d3,d4,d5,d6,d7,if_true,if_false,or_true,true_or,or_false,or_self,reduceIte])
  have d7:(tt.t = [109,97,116,99,104]) = False:=eq_false c7
  by_cases c8:tt.t = [115,112,114,105,110,116,102]
  ·have d8:(tt.t = [115,112,114,105,110,116,102]) = True:=eq_true c8
   refine W8 t1 t2 t3 r1 r3' ll d1 (And.intro d2 (And.intro d3 (And.intro d4 (And.intro d5 (And.intro d6 (And.intro d7 d8)))))) ?_
   refine wrong_ac A7'.re r1 r3c (Ne.symm n1) (Ne.symm n3) _ 9 (q:=l.length < 1) (by rw [decide_eq_true_iff]; omega) fun h8 A8=>?_
   have r3:=A8.keep (Ne.symm n3) r3'
   have r8:=A8.keep (Ne.symm n8) r8'
   refine W4 t1 t2 t3 r3 ?_
   refine leaf_ac [98,117,105,108,116,105,110] tt vf ?_
   refine W3 t2 r8 vf ?_
   exact fin _ _ _ _ (A7'.back A8) (keepK A8) (by simp only [d1,d2,d3,d4,d5,d6,d7,d8,if_true,if_false,or_true,true_or,or_false,or_self,reduceIte])
  have d8:(tt.t = [115,112,114,105,110,116,102]) = False:=eq_false c8
  by_cases c9:tt.t = [114,97,110,100]
  ·have d9:(tt.t = [114,97,110,100]) = True:=eq_true c9
   refine W8 t1 t2 t3 r1 r3' ll d1 (And.intro d2 (And.intro d3 (And.intro d4 (And.intro d5 (And.intro d6 (And.intro d7 (And.intro d8 d9))))))) ?_
   refine wrong_ac A7'.re r1 r3c (Ne.symm n1) (Ne.symm n3) _ 9 (q:=l.length ≠ 0) (by rw [decide_eq_true_iff]; omega) fun h8 A8=>?_
   have r3:=A8.keep (Ne.symm n3) r3'
   have r8:=A8.keep (Ne.symm n8) r8'
   refine W4 t1 t2 t3 r3 ?_
   refine leaf_ac [98,117,105,108,116,105,110] tt vf ?_
   refine W3 t2 r8 vf ?_
   exact fin _ _ _ _ (A7'.back A8) (keepK A8) (by simp only [d1,d2,d3,d4,d5,d6,d7,d8,d9,if_true,if_false,or_true,true_or,or_false,or_self,reduceIte])
  have d9:(tt.t = [114,97,110,100]) = False:=eq_false c9
  by_cases c10:tt.t = [115,114,97,110,100]
  ·have d10:(tt.t = [115,114,97,110,100]) = True:=eq_true c10
   refine W8 t1 t2 t3 r1 r3' ll d1 (And.intro d2 (And.intro d3 (And.intro d4 (And.intro d5 (And.intro d6 (And.intro d7 (And.intro d8 (And.intro d9 d10)))))))) ?_
   refine wrong_ac A7'.re r1 r3c (Ne.symm n1) (Ne.symm n3) _ 10 (q:=l.length = 0) (by rw [decide_eq_true_iff]; omega) fun h8 A8=>?_
   have r1x:=A8.keep (Ne.symm n1) r1
   have r3x:=A8.keep (Ne.symm n3) r3c
   refine W3 t1 t2 t3 ?_
   refine wrong_ac (A7'.back A8).re r1x r3x (Ne.symm n1) (Ne.symm n3) _ 9 (q:=l.length ≠ 1) (by rw [decide_eq_true_iff]; omega) fun h9 A9=>?_
   have r3:=A9.keep (Ne.symm n3) (A8.keep (Ne.symm n3) r3')
   have r8:=A9.keep (Ne.symm n8) (A8.keep (Ne.symm n8) r8')
   refine W4 t1 t2 t3 r3 ?_
   refine leaf_ac [98,117,105,108,116,105,110] tt vf ?_
   refine W3 t2 r8 vf ?_
   exact fin _ _ _ _ ((A7'.back A8).back A9) ((keepK A8).keep A9) (by simp only [d1,d2,d3,d4,d5,d6,d7,d8,d9,d10,if_true,if_false,or_true,true_or,or_false,or_self,reduceIte])
  have d10:(tt.t = [115,114,97,110,100]) = False:=eq_false c10
  refine W8 t1 t2 t3 r1 r3' ll d1 (And.intro d2 (And.intro d3 (And.intro d4 (And.intro d5 (And.intro d6 (And.intro d7 (And.intro d8 (And.intro d9 d10)))))))) ?_
  refine wrong_ac A7'.re r1 r3c (Ne.symm n1) (Ne.symm n3) _ 9 (q:=l.length ≠ 1) (by rw [decide_eq_true_iff]; omega) fun h8 A8=>?_
  have r3:=A8.keep (Ne.symm n3) r3'
  have r8:=A8.keep (Ne.symm n8) r8'
  refine W4 t1 t2 t3 r3 ?_
  refine leaf_ac [98,117,105,108,116,105,110] tt vf ?_
  refine W3 t2 r8 vf ?_
  exact fin _ _ _ _ (A7'.back A8) (keepK A8) (by simp only [d1,d2,d3,d4,d5,d6,d7,d8,d9,d10,if_true,if_false,or_true,true_or,or_false,or_self,reduceIte])
end Go.Proofs.YtkfbldogmgofoaaGreatDoor
namespace Go.Proofs.YtkfbldogmgofoaaGreatDoor
open Mir
variable {h:H} {Q:V → H → Prop} {h0 h1 h':H} {p tb:Nat} {T:List Tokn} {s s':PS} {N n c:Nat}
theorem PAt.ext (A:PAt h0 h p tb T s) (x:Sub h h'):PAt h0 h' p tb T s:=⟨x _ _ A.obj,A.toks,A.glob,A.base,fun b o hb=>x _ _ (A.sub _ _ hb),A.small,A.lt,A.deep⟩
theorem lvl.down (W:TkOk T N) (hs:SOk T N s) (l:lvl (n + 1) c s):lvl n (c + 1) (s.down T):=by
 obtain ⟨d1,d2,d3,d4,d5⟩:=down_ok W hs
 exact ⟨fun h=>by have:=l.1 (d5 h); omega,by have:=l.2; omega⟩
theorem row1 {b8:Nat} (B:PAt h0 h p tb T s) (hb8:h b8 = some (.cells Z4 false)) {bs:Nat} (hbs:h bs = none) {m:Tree} {kv:V} (k:KidsV (hadd h0 b8 (.cells Z4 false)) h p m.kids kv) :
  KidsV (hadd h0 b8 (.cells Z4 false)) (hadd h bs (.cells (nodeC m kv) false)) p [m] (.sl bs 0 4 1) :=
 .sl (by simp) (by rw [hadd_ne' (none_ne hbs hb8).symm]; exact B.new hbs) (Ne.symm (B.ne hbs)) hadd_same (CellsV.one (NodeV.of (k.put hbs)))
theorem primM_fwd (W:TkOk T N) {E P R:PF} (CE:FC T N (n + 1) c 46 E) (CP:FC T N n (c + 1) 127 P) (CR:FC T N n (c + 1) 128 R) (hs:SOk T N s) (hl:lvl (n + 1) c s) :
  Fwd T N s (primM T E P R s).2 ∧ Adv s (primM T E P R s).2:=by
 have f1:=step_fwd W hs
 have nk:∀ k,(s.cur T).k = k → k ≠ 0 → Adv s (s.step T):=fun k e h=>step_adv W hs (by omega)
 unfold primM
 dsimp only
 split
 ·exact ⟨f1,nk 2 (by assumption) (by decide)⟩
 split
 ·exact ⟨f1,nk 3 (by assumption) (by decide)⟩
 split
 ·have e4:(s.cur T).k = 4:=by assumption
  by_cases c:reErr (s.cur T).t ≠ 0
  ·rw [if_pos c]
   have g:=fail_fwd W hs
   exact ⟨g.trans (step_fwd W g.ok),Adv.left (fun _=>.inr (fail_adv W hs)) (step_fwd W g.ok)⟩
  ·rw [if_neg c]
   exact ⟨f1,nk 4 e4 (by decide)⟩
 split
 ·have e5:=nk 5 (by assumption) (by decide)
  split
  ·have f2:=f1.trans (step_fwd W f1.ok)
   have f3:=insideM_fwd W CE.fwd [93] f2.ok (hl.fwd f2)
   exact ⟨f2.trans f3,e5.left ((step_fwd W f1.ok).trans f3)⟩
  ·exact ⟨f1,e5⟩
 split
 ·have e6:=nk 6 (by assumption) (by decide)
  have f2:=expect_fwd W f1.ok [40]
  have f3:=listM_fwd W CE.fwd [41] (f1.trans f2).ok (hl.fwd (f1.trans f2))
  exact ⟨(f1.trans f2).trans f3,e6.left (f2.trans f3)⟩
 split
 ·have e9:(s.cur T).k = 9:=by assumption
  have:=builtinM_fwd W CE.fwd hs hl
  exact ⟨this.1,this.2 (by omega)⟩
 split
 ·rename_i e
  have f3:=insideM_fwd W CE.fwd [41] f1.ok (hl.fwd f1)
  exact ⟨f1.trans f3,(at_adv W hs e).left f3⟩
 split
 ·rename_i e
  obtain ⟨d1,d2,d3,d4,d5⟩:=down_ok W f1.ok
  have ld:=lvl.down W f1.ok (hl.fwd f1)
  have g:Fwd T N ((s.step T).down T) (if ((s.step T).down T).isAt T [[43,43],[45,45]] = true then P ((s.step T).down T) else R ((s.step T).down T)).2:=by
   split
   ·exact CP.fwd _ d1 ld
   ·exact CR.fwd _ d1 ld
  have:=up_fwd W f1.ok g
  exact ⟨f1.trans this,(at_adv W hs e).left this⟩
 ·exact ⟨fail_fwd W hs,fun _=>.inr (fail_adv W hs)⟩
theorem prim_fc (W:TkOk T N) (hc:c < 900) {E P R:PF} (CE:FC T N (n + 1) c 46 E) (CP:FC T N n (c + 1) 127 P) (CR:FC T N n (c + 1) 128 R):FC T N (n + 1) c 128 (primM T E P R):=by
 refine ⟨fun h0 h p tb s Q A hs hl hq=>?_,fun s hs hl=>(primM_fwd W CE CP CR hs hl).1,fun s hs hl=>(primM_fwd W CE CP CR hs hl).2⟩
 unfold primM at hq
 dsimp only at hq
 have f1:=step_fwd W hs
 refine AC.fn' (g:=g128) rfl (by simp only [List.length_cons,List.length_nil,g128]; decide) ?_; simp only [g128,Mir.Ab.all]
 refine W0 ?_
 intro b8 hb8
 have A1:=A.put (o:=.cells Z4 false) hb8
 have n8:=A.ne hb8
 have z8:=A.new hb8
 refine W0 ?_
 refine cur_ac A1 ?_
 have st:=cur_t W (s:=s)
 obtain ⟨tt,ht⟩:∃ tt,tt = s.cur T:=⟨_,rfl⟩
 rw [← ht] at hq st ⊢
 rw [tok3]
 refine W0 ?_
 intro b3 hb3
 have n3:=A1.ne hb3
 have n83:b8 ≠ b3:=fun e=>by rw [← e] at hb3; simp [hadd,hset] at hb3
 have A3:=A1.put (o:=.cells (tokC tt) false) hb3
 have r8:hadd (hadd h b8 (.cells Z4 false)) b3 (.cells (tokC tt) false) b8 = some (.cells Z4 false):=by rw [hadd_ne' n83]; exact hadd_same
 have r3:hadd (hadd h b8 (.cells Z4 false)) b3 (.cells (tokC tt) false) b3 = some (.cells (tokC tt) false):=hadd_same
 unfold tokC at A3 r8 r3
 unfold Z4 at A3 r8 r3
 refine W0 ?_
 generalize hadd (hadd h b8 _) b3 _ = h2 at A3 r8 r3 ⊢
 have fin:∀ (h7:H) (m:Tree) (s7:PS) (kv:V) (o:AObj),PAt h0 h7 p tb T s7 → KidsV (hadd h0 b8 (.cells Z4 false)) h7 p m.kids kv → (∀ h' v,PAt h0 h' p tb T s7 → NodeV h0 h' p m v → Q v h') → ∃ h3,Mir.Sub h3 (hadd h7 b8 o) ∧ Q (.agg (nodeC m kv)) h3:=fun h7 m s7 kv o B k hq' =>
  ⟨_,Sub.refl,hq' _ _ (B.over z8 (Ne.symm n8)) (NodeV.of (KidsV.move (fun x o z nx hx=>⟨(had_none z).2,by rw [hadd_ne' (had_none z).1]; exact hx⟩) k))⟩
 have bk:∀ {h5 h6:H} {s5:PS} {l:List Tree} {v:V},PAt h0 h5 p tb T s5 → h5 b8 = some (.cells Z4 false) → KidsV (hset h5 p none) h6 p l v → KidsV (hadd h0 b8 (.cells Z4 false)) h6 p l v:=fun {h5 h6 s5 l v} B hb k =>
  KidsV.move (fun x o z nx hx=>⟨by
   rw [show hset h5 p none x = h5 x from if_neg nx] at z
   rw [hadd_ne' (none_ne z hb).symm]; exact B.new z,hx⟩) k
 by_cases k2:tt.k = 2
 ·rw [if_pos k2] at hq
  refine W1 r3 ?_
  refine step_ac A3.re fun h3 A4=>?_
  have r3:=A4.keep (Ne.symm n3) r3
  have r8:=A4.keep (Ne.symm n8) r8
  refine W1 r3 ?_
  refine leaf_ac [110,117,109] tt rfl ?_
  refine W1 r8 ?_
  exact fin _ (leafM [110,117,109] tt []) _ _ _ (A3.back A4) .nil hq
 rw [if_neg k2] at hq
 by_cases k3:tt.k = 3
 ·rw [if_pos k3] at hq
  refine W1 r3 ?_
  refine step_ac A3.re fun h3 A4=>?_
  have r3:=A4.keep (Ne.symm n3) r3
  have r8:=A4.keep (Ne.symm n8) r8
  refine W1 r3 ?_
  refine leaf_ac [115,116,114] tt rfl ?_
  refine W1 r8 ?_
  exact fin _ (leafM [115,116,114] tt []) _ _ _ (A3.back A4) .nil hq
 rw [if_neg k3] at hq
 by_cases k4:tt.k = 4
 ·rw [if_pos k4] at hq
  refine W1 r3 ?_
  refine reParse_ac tt.t st fun h3 v a x3 hv=>?_
  have A4:=A3.ext x3
  have r3:=x3 _ _ r3
  have r8:=x3 _ _ r8
  obtain ⟨v1,v2,v3,v4,v5,v6,rfl,w1,w2,w3,w4,w5,w6⟩:=hv
  refine W6 w1 w2 w3 w4 w5 w6 ?_
  intro b4 hb4
  have A5:=A4.put (o:=.cells [v1,v2,v3,v4,v5,v6] false) hb4
  have n34:=none_ne hb4 r3
  have n84:=none_ne hb4 r8
  have r3:hadd h3 b4 (.cells [v1,v2,v3,v4,v5,v6] false) b3 = _:=(hadd_ne' n34).trans r3
  have r8:hadd h3 b4 (.cells [v1,v2,v3,v4,v5,v6] false) b8 = _:=(hadd_ne' n84).trans r8
  refine W6 w1 w2 w3 w4 w5 w6 ?_
  generalize hadd h3 b4 _ = h4 at A5 r3 r8 ⊢
  by_cases ce:reErr tt.t = 0
  ·rw [if_neg (by omega)] at hq
   refine W0 ?_
   refine step_ac A5.re fun h5 A6=>?_
   have r3:=A6.keep (Ne.symm n3) r3
   have r8:=A6.keep (Ne.symm n8) r8
   refine W1 r3 ?_
   refine leaf_ac [114,101] tt rfl ?_
   refine W1 r8 ?_
   exact fin _ (leafM [114,101] tt []) _ _ _ (A5.back A6) .nil hq
  ·rw [if_pos ce] at hq
   refine W0 ?_
   refine fail_ac A5.re fun h5 A6=>?_
   have A6':=A5.back A6
   have r3:=A6.keep (Ne.symm n3) r3
   have r8:=A6.keep (Ne.symm n8) r8
   refine W0 ?_
   refine step_ac A6'.re fun h5 A7=>?_
   have r3:=A7.keep (Ne.symm n3) r3
   have r8:=A7.keep (Ne.symm n8) r8
   refine W1 r3 ?_
   refine leaf_ac [114,101] tt rfl ?_
   refine W1 r8 ?_
   exact fin _ (leafM [114,101] tt []) _ _ _ (A6'.back A7) .nil hq
 rw [if_neg k4] at hq
 by_cases k5:tt.k = 5
 ·rw [if_pos k5] at hq
  refine W1 r3 ?_
  refine step_ac A3.re fun h3 A4=>?_
  have A4':=A3.back A4
  have r3:=A4.keep (Ne.symm n3) r3
  have r8:=A4.keep (Ne.symm n8) r8
  refine W0 ?_
  refine accept_ac A4'.re [91] fun h4 A5=>?_
  have A5':=A4'.back A5
  have r3:=A5.keep (Ne.symm n3) r3
  have r8:=A5.keep (Ne.symm n8) r8
  cases e:(s.step T).isAt T [[91]]
  ·simp only [e,if_false,Bool.false_eq_true] at hq A5'
   refine W1 r3 ?_
   refine leaf_ac [118,97,114] tt rfl ?_
   refine W1 r8 ?_
   exact fin _ (leafM [118,97,114] tt []) _ _ _ A5' .nil hq
  ·simp only [e,if_true] at hq A5'
   have f2:=f1.trans (step_fwd W f1.ok)
   refine W1 r3 ?_
   refine inside_ac W CE [93] A5'.re f2.ok (hl.fwd f2) fun h5 v A6 k6=>?_
   obtain ⟨kv,rfl,kb⟩:=k6.inv
   have kf:=kb.flat
   have A6':=A5'.back A6
   have r3':=A6.keep (Ne.symm n3) r3
   have r8':=A6.keep (Ne.symm n8) r8
   refine W2 r3' kf ?_
   intro bs hbs
   have kb':=row1 A6' r8' hbs (bk A5' r8 kb)
   have A7:=A6'.put (o:=.cells (nodeC (insideM T E [93] ((s.step T).step T)).1 kv) false) hbs
   have n8s:=none_ne hbs r8'
   have n3s:=none_ne hbs r3'
   refine W2 r3' kf ?_
   refine leaf_ac [105,110,100,101,120] tt rfl ?_
   refine W2 r3' r8' ?_
   exact fin _ (leafM [105,110,100,101,120] tt [(insideM T E [93] ((s.step T).step T)).1]) _ _ _ A7 kb' hq
 rw [if_neg k5] at hq
 by_cases k6:tt.k = 6
 ·rw [if_pos k6] at hq
  refine W1 r3 ?_
  refine step_ac A3.re fun h3 A4=>?_
  have A4':=A3.back A4
  have r3:=A4.keep (Ne.symm n3) r3
  have r8:=A4.keep (Ne.symm n8) r8
  refine W0 ?_
  refine expect_ac A4'.re [40] fun h4 A5=>?_
  have A5':=A4'.back A5
  have r3:=A5.keep (Ne.symm n3) r3
  have r8:=A5.keep (Ne.symm n8) r8
  have f2:=f1.trans (expect_fwd W f1.ok [40])
  refine W1 r3 ?_
  refine list_ac W CE [41] A5'.re f2.ok (hl.fwd f2) fun h5 v A6 S6=>?_
  have A6':=A5'.back A6
  have r3':=A6.keep (Ne.symm n3) r3
  have r8':=A6.keep (Ne.symm n8) r8
  have vf:=S6.kids.flat
  refine W1 r3' ?_
  refine leaf_ac [99,97,108,108] tt vf ?_
  refine W3 r3' r8' vf ?_
  exact fin _ (leafM [99,97,108,108] tt (listM T E [41] ((s.step T).expect T [40])).1) _ _ _ A6' (bk A5' r8 S6.kids) hq
 rw [if_neg k6] at hq
 by_cases k9:tt.k = 9
 ·rw [if_pos k9] at hq
  refine W1 r3 ?_
  refine builtin_ac W CE A3.re hs hl fun h5 v A6 kn=>?_
  obtain ⟨kv,rfl,kb⟩:=kn.inv
  have kf:=kb.flat
  have r8':=A6.keep (Ne.symm n8) r8
  refine W2 r8' kf ?_
  exact fin _ (builtinM T E s).1 _ _ _ (A3.back A6) (bk A3 r8 kb) hq
 rw [if_neg k9] at hq
 refine W1 r3 ?_
 refine accept_ac A3.re [40] fun h4 A5=>?_
 have A5':=A3.back A5
 have r3:=A5.keep (Ne.symm n3) r3
 have r8:=A5.keep (Ne.symm n8) r8
 cases e1:s.isAt T [[40]]
 case true =>
  simp only [e1,if_true] at hq A5'
  refine W0 ?_
  refine inside_ac W CE [41] A5'.re f1.ok (hl.fwd f1) fun h5 v A6 k6=>?_
  obtain ⟨kv,rfl,kb⟩:=k6.inv
  have kf:=kb.flat
  have r8':=A6.keep (Ne.symm n8) r8
  refine W2 r8' kf ?_
  exact fin _ (insideM T E [41] (s.step T)).1 _ _ _ (A5'.back A6) (bk A5' r8 kb) hq
 simp only [e1,if_false,Bool.false_eq_true] at hq A5'
 refine W0 ?_
 refine accept_ac A5'.re [36] fun h4 A6=>?_
 have A6':=A5'.back A6
 have r8:=A6.keep (Ne.symm n8) r8
 cases e2:s.isAt T [[36]]
 case true =>
  simp only [e2,if_true] at hq A6'
  obtain ⟨d1,d2,d3,d4,d5⟩:=down_ok W f1.ok
  have ld:=lvl.down W f1.ok (hl.fwd f1)
  have dl:=hl.2
  have df:=f1.deep
  refine W0 ?_
  refine down_ac A6'.re (by omega) fun h5 A7=>?_
  have A7':=A6'.back A7
  have r8:=A7.keep (Ne.symm n8) r8
  refine W0 ?_
  intro b9 hb9
  have n89:=none_ne hb9 r8
  have A8:=A7'.put (o:=.cells [.str [43,43],.str [45,45]] false) hb9
  have r8':hadd h5 b9 (.cells [.str [43,43],.str [45,45]] false) b8 = _:=(hadd_ne' n89).trans r8
  refine W0 ?_
  refine at_ac (ss:=[[43,43],[45,45]]) A8.re hadd_same (by decide) ?_
  cases e3:((s.step T).down T).isAt T [[43,43],[45,45]]
  ·simp only [e3,if_false,Bool.false_eq_true] at hq
   refine W0 ?_
   refine CR.run _ _ _ _ _ _ A8.re d1 ld fun h6 v A9 k9=>?_
   generalize hx:R ((s.step T).down T) = x at hq A9 k9
   have g:Fwd T N ((s.step T).down T) x.2:=by rw [← hx]; exact CR.fwd _ d1 ld
   have A9':=A8.back A9
   obtain ⟨kv,rfl,kb⟩:=k9.inv
   have kf:=kb.flat
   have r8x:=A9.keep (Ne.symm n8) r8'
   have kg:=bk A8 r8' kb
   refine W1 kf ?_
   intro bs hbs
   have n8s:=none_ne hbs r8x
   refine W1 kf ?_
   refine node_ac [102,105,101,108,100] (l:=[]) rfl ?_
   have kr:=row1 A9' r8x hbs kg
   have A10:=A9'.put (o:=.cells (nodeC x.1 kv) false) hbs
   refine W2 r8x n8s ?_
   have A11:=A10.over (o:=.cells (nodeC (nodeM [102,105,101,108,100] [x.1]) (.sl bs 0 4 1)) false) z8 (Ne.symm n8)
   have kn:NodeV h0 (hadd (hadd h6 bs (.cells (nodeC x.1 kv) false)) b8 (.cells (nodeC (nodeM [102,105,101,108,100] [x.1]) (.sl bs 0 4 1)) false)) p (nodeM [102,105,101,108,100] [x.1]) (.agg (nodeC (nodeM [102,105,101,108,100] [x.1]) (.sl bs 0 4 1))) :=
    NodeV.of (KidsV.move (fun y o z nx hx=>⟨(had_none z).2,by rw [hadd_ne' (had_none z).1]; exact hx⟩) kr)
   refine up_ac A11.re (by rw [g.deep,d3]; omega) fun h8 A12=>?_
   have c8:=A12.keep (Ne.symm n8) hadd_same
   refine W1 c8 ?_
   exact ⟨_,Sub.refl,hq _ _ (A11.back A12) (kn.keep A12)⟩
  ·simp only [e3,if_true] at hq
   refine W0 ?_
   refine CP.run _ _ _ _ _ _ A8.re d1 ld fun h6 v A9 k9=>?_
   generalize hx:P ((s.step T).down T) = x at hq A9 k9
   have g:Fwd T N ((s.step T).down T) x.2:=by rw [← hx]; exact CP.fwd _ d1 ld
   have A9':=A8.back A9
   obtain ⟨kv,rfl,kb⟩:=k9.inv
   have kf:=kb.flat
   have r8x:=A9.keep (Ne.symm n8) r8'
   have kg:=bk A8 r8' kb
   refine W1 kf ?_
   intro bs hbs
   have n8s:=none_ne hbs r8x
   refine W1 kf ?_
   refine node_ac [102,105,101,108,100] (l:=[]) rfl ?_
   have kr:=row1 A9' r8x hbs kg
   have A10:=A9'.put (o:=.cells (nodeC x.1 kv) false) hbs
   refine W2 r8x n8s ?_
   have A11:=A10.over (o:=.cells (nodeC (nodeM [102,105,101,108,100] [x.1]) (.sl bs 0 4 1)) false) z8 (Ne.symm n8)
   have kn:NodeV h0 (hadd (hadd h6 bs (.cells (nodeC x.1 kv) false)) b8 (.cells (nodeC (nodeM [102,105,101,108,100] [x.1]) (.sl bs 0 4 1)) false)) p (nodeM [102,105,101,108,100] [x.1]) (.agg (nodeC (nodeM [102,105,101,108,100] [x.1]) (.sl bs 0 4 1))) :=
    NodeV.of (KidsV.move (fun y o z nx hx=>⟨(had_none z).2,by rw [hadd_ne' (had_none z).1]; exact hx⟩) kr)
   refine up_ac A11.re (by rw [g.deep,d3]; omega) fun h8 A12=>?_
   have c8:=A12.keep (Ne.symm n8) hadd_same
   refine W1 c8 ?_
   exact ⟨_,Sub.refl,hq _ _ (A11.back A12) (kn.keep A12)⟩
 simp only [e2,if_false,Bool.false_eq_true] at hq A6'
 refine W0 ?_
 refine fail_ac A6'.re fun h5 A7=>?_
 have r8:=A7.keep (Ne.symm n8) r8
 refine W1 r8 ?_
 exact fin _ .zero _ _ _ (A6'.back A7) .nil hq
end Go.Proofs.YtkfbldogmgofoaaGreatDoor
namespace Go.Proofs.YtkfbldogmgofoaaGreatDoor
open Mir
variable {h:H} {Q:V → H → Prop} {h0 h1 h':H} {p tb:Nat} {T:List Tokn} {s s':PS} {N n c:Nat}
theorem postM_fwd (W:TkOk T N) {R:PF} (hf:∀ s,SOk T N s → lvl n c s → Fwd T N s (R s).2) (ha:∀ s,SOk T N s → lvl n c s → Adv s (R s).2) (hs:SOk T N s) (hl:lvl n c s):Fwd T N s (postM T R s).2 ∧ Adv s (postM T R s).2:=by
 have f1:=step_fwd W hs
 have g1:=hf s hs hl
 have b1:=ha s hs hl
 have g2:=f1.trans (hf _ f1.ok (hl.fwd f1))
 unfold postM
 dsimp only
 split
 ·rename_i e
  have a1:=(at_adv W hs e).left (hf _ f1.ok (hl.fwd f1))
  split
  ·exact ⟨g2,a1⟩
  ·exact ⟨g2.trans (fail_fwd W g2.ok),a1.left (fail_fwd W g2.ok)⟩
 split
 ·rename_i e
  have a1:=(at_adv W hs e).left (hf _ f1.ok (hl.fwd f1))
  split
  ·exact ⟨g2,a1⟩
  ·exact ⟨g2.trans (fail_fwd W g2.ok),a1.left (fail_fwd W g2.ok)⟩
 split
 ·exact ⟨g1,b1⟩
 split
 ·exact ⟨g1.trans (step_fwd W g1.ok),b1.left (step_fwd W g1.ok)⟩
 split
 ·exact ⟨g1.trans (step_fwd W g1.ok),b1.left (step_fwd W g1.ok)⟩
 ·exact ⟨g1,b1⟩
theorem place_ac' {m:Tree} {kv:V} (hk:kv.flat = true) (hq:Q (.bool m.isPlace) h):AC pg (.fn 74) [.agg (nodeC m kv)] h Q:=by
 cases m with | nd o t a l=>exact place_ac o t a l hk hq
theorem post_fc (W:TkOk T N) {R:PF} (C:FC T N n c 128 R):FC T N n c 127 (postM T R):=by
 refine ⟨fun h0 h p tb s Q A hs hl hq=>?_,fun s hs hl=>(postM_fwd W C.fwd C.adv hs hl).1,fun s hs hl=>(postM_fwd W C.fwd C.adv hs hl).2⟩
 unfold postM at hq
 dsimp only at hq
 have f1:=step_fwd W hs
 refine AC.fn' (g:=g127) rfl (by simp only [List.length_cons,List.length_nil,g127]; decide) ?_; simp only [g127,Mir.Ab.all]
 refine W0 ?_
 intro b8 hb8
 have A1:=A.put (o:=.cells Z4 false) hb8
 have n8:=A.ne hb8
 have z8:=A.new hb8
 refine W0 ?_
 intro b7 hb7
 have n87:b8 ≠ b7:=fun e=>by rw [← e] at hb7; simp [hadd,hset] at hb7
 have n7:=A1.ne hb7
 have A2:=A1.put (o:=.cells [.str [43,43],.str [45,45]] false) hb7
 have r8:hadd (hadd h b8 (.cells Z4 false)) b7 (.cells [.str [43,43],.str [45,45]] false) b8 = some (.cells Z4 false):=by rw [hadd_ne' n87]; exact hadd_same
 have r7:hadd (hadd h b8 (.cells Z4 false)) b7 (.cells [.str [43,43],.str [45,45]] false) b7 = some (.cells [.str [43,43],.str [45,45]] false):=hadd_same
 unfold Z4 at A2 r8 r7
 refine W0 ?_
 generalize hadd (hadd h b8 _) b7 _ = h2 at A2 r8 r7 ⊢
 have fin:∀ (h7:H) (m:Tree) (s7:PS) (kv:V) (o:AObj),PAt h0 h7 p tb T s7 → KidsV (hadd h0 b8 (.cells Z4 false)) h7 p m.kids kv → (∀ h' v,PAt h0 h' p tb T s7 → NodeV h0 h' p m v → Q v h') → ∃ h3,Mir.Sub h3 (hadd h7 b8 o) ∧ Q (.agg (nodeC m kv)) h3:=fun h7 m s7 kv o B k hq' =>
  ⟨_,Sub.refl,hq' _ _ (B.over z8 (Ne.symm n8)) (NodeV.of (KidsV.move (fun x o z nx hx=>⟨(had_none z).2,by rw [hadd_ne' (had_none z).1]; exact hx⟩) k))⟩
 have bk:∀ {h5 h6:H} {s5:PS} {l:List Tree} {v:V},PAt h0 h5 p tb T s5 → h5 b8 = some (.cells Z4 false) → KidsV (hset h5 p none) h6 p l v → KidsV (hadd h0 b8 (.cells Z4 false)) h6 p l v:=fun {h5 h6 s5 l v} B hb k =>
  KidsV.move (fun x o z nx hx=>⟨by
   rw [show hset h5 p none x = h5 x from if_neg nx] at z
   rw [hadd_ne' (none_ne z hb).symm]; exact B.new z,hx⟩) k
 refine E.cut AC.mono (fun ex a' h'=>(ex = .exit 0 ∧ a'.d = [] ∧ a'.t 0 = .ptr p 0 ∧ a'.t 2 = .ptr b8 0 ∧ PAt h0 h' p tb T s ∧ h' b8 = some (.cells Z4 false) ∧ s.isAt T [[43,43]] = false ∧ s.isAt T [[45,45]] = false) ∨ (ex = .ret ∧ finK (AC pg) [Res.cell 2 4 true] Q ex a' h')) ?_ ?_
 ·refine E.loopX AC.mono (fun (i:Nat) a' h'=>i ≤ 2 ∧ (1 ≤ i → s.isAt T [[43,43]] = false) ∧ (2 ≤ i → s.isAt T [[45,45]] = false) ∧ PAt h0 h' p tb T s ∧ h' b8 = some (.cells Z4 false) ∧ h' b7 = some (.cells [.str [43,43],.str [45,45]] false) ∧ a'.d = [] ∧ a'.t 0 = .ptr p 0 ∧ a'.t 2 = .ptr b8 0 ∧ a'.t 7 = .sl b7 0 1 2 ∧ a'.t 8 = .int .i64 2 ∧ a'.t 9 = .int .i64 i) (fun i=>2 - i) 0 ?_ ?_
  ·exact ⟨by omega,fun h=>by omega,fun h=>by omega,A2,r8,r7,rfl,rfl,rfl,rfl,rfl,rfl⟩
  ·rintro i ⟨t,ds⟩ h3 ⟨hi,i1,i2,A3,r8,r7,hd,t0,t2,t7,t8,t9⟩
   simp only at hd t0 t2 t7 t8 t9; subst hd
   have ci:i = 0 ∨ i = 1 ∨ i = 2:=by omega
   rcases ci with rfl | rfl | rfl
   ·refine W6 t0 t2 t7 t8 t9 r7 ?_
    refine accept_ac A3.re [43,43] fun h4 A4=>?_
    have A4':=A3.back A4
    have r8:=A4.keep (Ne.symm n8) r8
    have r7:=A4.keep (Ne.symm n7) r7
    cases e:s.isAt T [[43,43]]
    ·simp only [e,if_false,Bool.false_eq_true] at A4'
     refine W5 t0 t2 t7 t8 t9 ?_
     exact ⟨1,by omega,by omega,fun _=>(by first | exact e | trivial),fun h=>(by first | exact e | trivial | omega),A4',r8,r7,rfl⟩
    ·simp only [e,if_true,if_false,Bool.false_eq_true] at A4' hq
     refine W5 t0 t2 t7 t8 t9 ?_
     refine C.run _ _ _ _ _ _ A4'.re f1.ok (hl.fwd f1) fun h5 v A5 k5=>?_
     have g2:=f1.trans (C.fwd _ f1.ok (hl.fwd f1))
     generalize R (s.step T) = x at hq A5 k5 g2
     obtain ⟨m,r⟩:=x
     simp only at hq A5 k5 g2
     obtain ⟨kv,rfl,kb⟩:=k5.inv
     have kf:=kb.flat
     have A5':=A4'.back A5
     have kg:=bk A4' r8 kb
     have r8:=A5.keep (Ne.symm n8) r8
     refine W1 kf ?_
     intro b9 hb9
     have n89:=none_ne hb9 r8
     have A6:=A5'.put (o:=.cells (nodeC m kv) false) hb9
     have r8':hadd h5 b9 (.cells (nodeC m kv) false) b8 = _:=(hadd_ne' n89).trans r8
     have kg':=kg.put (o:=.cells (nodeC m kv) false) hb9
     have r9:hadd h5 b9 (.cells (nodeC m kv) false) b9 = _:=hadd_same
     refine W1 kf ?_
     refine place_ac' kf ?_
     cases ep:m.isPlace
     ·simp only [ep,if_false,Bool.false_eq_true] at hq
      refine W2 t0 t2 ?_
      refine fail_ac A6.re fun h6 A7=>?_
      have r8:=A7.keep (Ne.symm n8) r8'
      refine W3 t0 t2 r8 ?_
      exact .inr (fin _ .zero _ _ _ (A6.back A7) .nil hq)
     ·simp only [ep,if_true] at hq
      have m0:findK (KC.one EqC.str) (V.str [43,43]) [] = some none:=rfl; have m1:findK (KC.one EqC.str) (V.str [45,45]) [(V.str [43,43],V.str [112,114,101,105,110,99],0)] = some none:=rfl
      refine W0 ?_
      intro bm hbm
      have n8m:=none_ne hbm r8'
      have n9m:=none_ne hbm r9
      have hfk:findK (KC.one EqC.str) (V.str [43,43]) (entsOf [([43,43],[112,114,101,105,110,99]),([45,45],[112,114,101,100,101,99])] 0) = some (some (V.str [112,114,101,105,110,99],0)):=rfl
      have A7:=A6.put (o:=.map (entsOf [([43,43],[112,114,101,105,110,99]),([45,45],[112,114,101,100,101,99])] 0) 2) hbm
      have r8m:hadd (hadd h5 b9 (.cells (nodeC m kv) false)) bm (.map (entsOf [([43,43],[112,114,101,105,110,99]),([45,45],[112,114,101,100,101,99])] 0) 2) b8 = _:=(hadd_ne' n8m).trans r8'
      have r9m:hadd (hadd h5 b9 (.cells (nodeC m kv) false)) bm (.map (entsOf [([43,43],[112,114,101,105,110,99]),([45,45],[112,114,101,100,101,99])] 0) 2) b9 = _:=(hadd_ne' n9m).trans r9
      have kgm:=kg'.put (o:=.map (entsOf [([43,43],[112,114,101,105,110,99]),([45,45],[112,114,101,100,101,99])] 0) 2) hbm
      unfold entsOf entsOf entsOf at hfk A7 r8m r9m kgm
      refine W4 m0 m1 hfk kf ?_
      intro bs hbs
      have n8s:=none_ne hbs r8m
      have n9s:=none_ne hbs r9m
      refine W1 kf ?_
      refine node_ac [112,114,101,105,110,99] (l:=[]) rfl ?_
      have kr:=row1 A7 r8m hbs kgm
      have A8:=A7.put (o:=.cells (nodeC m kv) false) hbs
      refine W3 t0 t2 r8 ?_
      exact .inr (fin _ (nodeM [112,114,101,105,110,99] [m]) _ _ _ A8 kr hq)
   ·have i1:=i1 (Nat.le_refl _)
    refine W6 t0 t2 t7 t8 t9 r7 ?_
    refine accept_ac A3.re [45,45] fun h4 A4=>?_
    have A4':=A3.back A4
    have r8:=A4.keep (Ne.symm n8) r8
    have r7:=A4.keep (Ne.symm n7) r7
    cases e:s.isAt T [[45,45]]
    ·simp only [e,if_false,Bool.false_eq_true] at A4'
     refine W5 t0 t2 t7 t8 t9 ?_
     exact ⟨2,by omega,by omega,fun _=>(by first | exact i1 | trivial),fun h=>(by first | exact e | trivial | omega),A4',r8,r7,rfl⟩
    ·simp only [i1,e,if_true,if_false,Bool.false_eq_true] at A4' hq
     refine W5 t0 t2 t7 t8 t9 ?_
     refine C.run _ _ _ _ _ _ A4'.re f1.ok (hl.fwd f1) fun h5 v A5 k5=>?_
     have g2:=f1.trans (C.fwd _ f1.ok (hl.fwd f1))
     generalize R (s.step T) = x at hq A5 k5 g2
     obtain ⟨m,r⟩:=x
     simp only at hq A5 k5 g2
     obtain ⟨kv,rfl,kb⟩:=k5.inv
     have kf:=kb.flat
     have A5':=A4'.back A5
     have kg:=bk A4' r8 kb
     have r8:=A5.keep (Ne.symm n8) r8
     refine W1 kf ?_
     intro b9 hb9
     have n89:=none_ne hb9 r8
     have A6:=A5'.put (o:=.cells (nodeC m kv) false) hb9
     have r8':hadd h5 b9 (.cells (nodeC m kv) false) b8 = _:=(hadd_ne' n89).trans r8
     have kg':=kg.put (o:=.cells (nodeC m kv) false) hb9
     have r9:hadd h5 b9 (.cells (nodeC m kv) false) b9 = _:=hadd_same
     refine W1 kf ?_
     refine place_ac' kf ?_
     cases ep:m.isPlace
     ·simp only [ep,if_false,Bool.false_eq_true] at hq
      refine W2 t0 t2 ?_
      refine fail_ac A6.re fun h6 A7=>?_
      have r8:=A7.keep (Ne.symm n8) r8'
      refine W3 t0 t2 r8 ?_
      exact .inr (fin _ .zero _ _ _ (A6.back A7) .nil hq)
     ·simp only [ep,if_true] at hq
      have m0:findK (KC.one EqC.str) (V.str [43,43]) [] = some none:=rfl; have m1:findK (KC.one EqC.str) (V.str [45,45]) [(V.str [43,43],V.str [112,114,101,105,110,99],0)] = some none:=rfl
      refine W0 ?_
      intro bm hbm
      have n8m:=none_ne hbm r8'
      have n9m:=none_ne hbm r9
      have hfk:findK (KC.one EqC.str) (V.str [45,45]) (entsOf [([43,43],[112,114,101,105,110,99]),([45,45],[112,114,101,100,101,99])] 0) = some (some (V.str [112,114,101,100,101,99],1)):=rfl
      have A7:=A6.put (o:=.map (entsOf [([43,43],[112,114,101,105,110,99]),([45,45],[112,114,101,100,101,99])] 0) 2) hbm
      have r8m:hadd (hadd h5 b9 (.cells (nodeC m kv) false)) bm (.map (entsOf [([43,43],[112,114,101,105,110,99]),([45,45],[112,114,101,100,101,99])] 0) 2) b8 = _:=(hadd_ne' n8m).trans r8'
      have r9m:hadd (hadd h5 b9 (.cells (nodeC m kv) false)) bm (.map (entsOf [([43,43],[112,114,101,105,110,99]),([45,45],[112,114,101,100,101,99])] 0) 2) b9 = _:=(hadd_ne' n9m).trans r9
      have kgm:=kg'.put (o:=.map (entsOf [([43,43],[112,114,101,105,110,99]),([45,45],[112,114,101,100,101,99])] 0) 2) hbm
      unfold entsOf entsOf entsOf at hfk A7 r8m r9m kgm
      refine W4 m0 m1 hfk kf ?_
      intro bs hbs
      have n8s:=none_ne hbs r8m
      have n9s:=none_ne hbs r9m
      refine W1 kf ?_
      refine node_ac [112,114,101,100,101,99] (l:=[]) rfl ?_
      have kr:=row1 A7 r8m hbs kgm
      have A8:=A7.put (o:=.cells (nodeC m kv) false) hbs
      refine W3 t0 t2 r8 ?_
      exact .inr (fin _ (nodeM [112,114,101,100,101,99] [m]) _ _ _ A8 kr hq)
   ·have i1:=i1 (by omega)
    have i2:=i2 (Nat.le_refl _)
    refine W6 t0 t2 t7 t8 t9 r7 ?_
    exact .inl ⟨A3,r8,i1,i2⟩
 ·rintro ex ⟨t,ds⟩ h3 (⟨rfl,hd,t0,t2,A3,r8,e1,e2⟩ | ⟨rfl,q⟩)
  ·simp only at hd t0 t2; subst hd
   simp only [e1,e2,if_false,Bool.false_eq_true] at hq
   refine W2 t0 t2 ?_
   refine C.run _ _ _ _ _ _ A3.re hs hl fun h5 v A5 k5=>?_
   generalize R s = x at hq A5 k5
   obtain ⟨m,r⟩:=x
   simp only at hq A5 k5
   obtain ⟨kv,rfl,kb⟩:=k5.inv
   have kf:=kb.flat
   have A5':=A3.back A5
   have kg:=bk A3 r8 kb
   have r8:=A5.keep (Ne.symm n8) r8
   refine W1 kf ?_
   intro b9 hb9
   have n89:=none_ne hb9 r8
   have n9:=A5'.ne hb9
   have A6:=A5'.put (o:=.cells (nodeC m kv) false) hb9
   have r8':hadd h5 b9 (.cells (nodeC m kv) false) b8 = _:=(hadd_ne' n89).trans r8
   have kg':=kg.put (o:=.cells (nodeC m kv) false) hb9
   have r9:hadd h5 b9 (.cells (nodeC m kv) false) b9 = _:=hadd_same
   refine W1 kf ?_
   refine place_ac' kf ?_
   cases ep:m.isPlace
   ·simp only [ep,if_true] at hq
    refine W4 t0 t2 r8 kf ?_
    exact fin _ m _ _ _ A6 kg' hq
   simp only [ep,if_false,Bool.true_eq_false] at hq
   refine W2 t0 t2 ?_
   refine accept_ac A6.re [43,43] fun h6 A7=>?_
   have A7':=A6.back A7
   have s8:=A7.keep (Ne.symm n8) r8'
   have s9:=A7.keep (Ne.symm n9) r9
   have kg7:=kg'.keep A7
   cases ea:r.isAt T [[43,43]]
   case true =>
    simp only [ea,if_true] at hq A7'
    refine W4 t0 t2 s9 kf ?_
    intro bs hbs
    have n8s:=none_ne hbs s8
    refine W1 kf ?_
    refine node_ac [112,111,115,116,105,110,99] (l:=[]) rfl ?_
    have kr:=row1 A7' s8 hbs kg7
    have A8:=A7'.put (o:=.cells (nodeC m kv) false) hbs
    refine W3 t0 t2 s8 ?_
    exact fin _ (nodeM [112,111,115,116,105,110,99] [m]) _ _ _ A8 kr hq
   simp only [ea,if_false,Bool.false_eq_true] at hq A7'
   refine W2 t0 t2 ?_
   refine accept_ac A7'.re [45,45] fun h7 A8=>?_
   have A8':=A7'.back A8
   have s8:=A8.keep (Ne.symm n8) s8
   have s9:=A8.keep (Ne.symm n9) s9
   have kg8:=kg7.keep A8
   cases eb:r.isAt T [[45,45]]
   case true =>
    simp only [eb,if_true] at hq A8'
    refine W4 t0 t2 s9 kf ?_
    intro bs hbs
    have n8s:=none_ne hbs s8
    refine W1 kf ?_
    refine node_ac [112,111,115,116,100,101,99] (l:=[]) rfl ?_
    have kr:=row1 A8' s8 hbs kg8
    have A9:=A8'.put (o:=.cells (nodeC m kv) false) hbs
    refine W3 t0 t2 s8 ?_
    exact fin _ (nodeM [112,111,115,116,100,101,99] [m]) _ _ _ A9 kr hq
   simp only [eb,if_false,Bool.false_eq_true] at hq A8'
   refine W5 t0 t2 s8 s9 kf ?_
   exact fin _ m _ _ _ A8' kg8 hq
  ·rw [finK_ret'] at q
   refine W0 ?_
   exact q
end Go.Proofs.YtkfbldogmgofoaaGreatDoor
namespace Go.Proofs.YtkfbldogmgofoaaGreatDoor
open Mir
variable {h:H} {Q:V → H → Prop} {h0 h1 h':H} {p tb:Nat} {T:List Tokn} {s s':PS} {N n c:Nat}
theorem at_one {x y:Txt} (hx:s.isAt T [x] = true) (hne:x ≠ y):s.isAt T [y] = false:=by
 unfold PS.isAt at *
 simp only [Bool.and_eq_true,decide_eq_true_eq,List.mem_singleton] at hx
 have:¬ (s.cur T).t = y:=fun e=>hne (hx.2.symm.trans e)
 simp [this]
theorem unaryM_fwd (W:TkOk T N) {U P:PF} (low:s.err = 0 → (Fwd T N ((s.step T).down T) (U ((s.step T).down T)).2)) (hp:Fwd T N s (P s).2 ∧ Adv s (P s).2) (hs:SOk T N s):Fwd T N s (unaryM T U P s).2 ∧ Adv s (unaryM T U P s).2:=by
 have f1:=step_fwd W hs
 unfold unaryM
 dsimp only
 have key:∀ x,s.isAt T [x] = true → Fwd T N s (U ((s.step T).down T)).2.up ∧ Adv s (U ((s.step T).down T)).2.up:=fun x e=>by
  have:=up_fwd W f1.ok (low (at_err e))
  exact ⟨f1.trans this,(at_adv W hs e).left this⟩
 split
 ·exact key _ (by assumption)
 split
 ·exact key _ (by assumption)
 split
 ·exact key _ (by assumption)
 ·exact hp
def unEs:Ents:=entsOf [([33],[110,111,116]),([45],[110,101,103]),([43],[112,108,117,115])] 0
theorem unaryM_at {U P:PF} {x op:Txt} (hx:(x,op) ∈ [([33],[110,111,116]),([45],[110,101,103]),([43],[112,108,117,115])]) (e:s.isAt T [x] = true):unaryM T U P s = (nodeM op [(U ((s.step T).down T)).1],(U ((s.step T).down T)).2.up):=by
 simp only [List.mem_cons,Prod.mk.injEq,List.not_mem_nil,or_false] at hx
 unfold unaryM
 rcases hx with ⟨rfl,rfl⟩ | ⟨rfl,rfl⟩ | ⟨rfl,rfl⟩
 ·rw [if_pos e]
 ·rw [if_neg (by rw [at_one e (by decide)]; decide),if_pos e]
 ·rw [if_neg (by rw [at_one e (by decide)]; decide),if_neg (by rw [at_one e (by decide)]; decide),if_pos e]
theorem unary_run (W:TkOk T N) (hc:c < 900) {U P:PF} (low:∀ s:PS,SOk T N s → lvl n c s → s.err = 0 → ∃ m,n = m + 1 ∧ FC T N m (c + 1) 126 U) (C:FC T N n c 127 P):FC T N n c 126 (unaryM T U P):=by
 have lowf:∀ s,SOk T N s → lvl n c s → s.err = 0 → Fwd T N ((s.step T).down T) (U ((s.step T).down T)).2:=fun s hs hl e=>by
  obtain ⟨m,rfl,L⟩:=low s hs hl e
  have f1:=step_fwd W hs
  exact L.fwd _ (down_ok W f1.ok).1 (lvl.down W f1.ok (hl.fwd f1))
 refine ⟨fun h0 h p tb s Q A hs hl hq=>?_,fun s hs hl=>(unaryM_fwd W (lowf s hs hl) ⟨C.fwd s hs hl,C.adv s hs hl⟩ hs).1,fun s hs hl=>(unaryM_fwd W (lowf s hs hl) ⟨C.fwd s hs hl,C.adv s hs hl⟩ hs).2⟩
 have f1:=step_fwd W hs
 refine AC.fn' (g:=g126) rfl (by simp only [List.length_cons,List.length_nil,g126]; decide) ?_; simp only [g126,Mir.Ab.all]
 refine W0 ?_
 intro b8 hb8
 have A1:=A.put (o:=.cells Z4 false) hb8
 have n8:=A.ne hb8
 have z8:=A.new hb8
 have m0:findK (KC.one EqC.str) (V.str [33]) [] = some none:=rfl; have m1:findK (KC.one EqC.str) (V.str [45]) [(V.str [33],V.str [110,111,116],0)] = some none:=rfl; have m2:findK (KC.one EqC.str) (V.str [43]) [(V.str [33],V.str [110,111,116],0),(V.str [45],V.str [110,101,103],1)] = some none:=rfl
 refine W0 ?_
 intro bm hbm
 have nm:=A1.ne hbm
 have n8m:b8 ≠ bm:=fun e=>by rw [← e] at hbm; simp [hadd,hset] at hbm
 have A2:=A1.put (o:=.map unEs 3) hbm
 have r8:hadd (hadd h b8 (.cells Z4 false)) bm (.map unEs 3) b8 = some (.cells Z4 false):=by rw [hadd_ne' n8m]; exact hadd_same
 have rm:hadd (hadd h b8 (.cells Z4 false)) bm (.map unEs 3) bm = some (.map unEs 3):=hadd_same
 unfold unEs entsOf entsOf entsOf entsOf at A2 r8 rm
 refine W3 m0 m1 m2 ?_
 intro bi hbi
 have ni:=A2.ne hbi
 have n8i:=none_ne hbi r8
 have nmi:=none_ne hbi rm
 have A3:=A2.put (o:=.iter (some bm) 3 [] 3) hbi
 refine W0 ?_
 have hA3:PAt h0 (hadd (hadd (hadd h b8 (.cells Z4 false)) bm (.map unEs 3)) bi (.iter (some bm) 3 [] 3)) p tb T s:=A3
 have r8:hadd (hadd (hadd h b8 (.cells Z4 false)) bm (.map unEs 3)) bi (.iter (some bm) 3 [] 3) b8 = some (.cells Z4 false):=(hadd_ne' n8i).trans r8
 have rm:hadd (hadd (hadd h b8 (.cells Z4 false)) bm (.map unEs 3)) bi (.iter (some bm) 3 [] 3) bm = some (.map unEs 3):=(hadd_ne' nmi).trans rm
 refine E.cut AC.mono (fun ex a' h'=>(ex = .exit 0 ∧ a'.d = [] ∧ a'.t 0 = .ptr p 0 ∧ a'.t 2 = .ptr b8 0 ∧ PAt h0 h' p tb T s ∧ h' b8 = some (.cells Z4 false) ∧ s.isAt T [[33]] = false ∧ s.isAt T [[45]] = false ∧ s.isAt T [[43]] = false) ∨ (ex = .ret ∧ finK (AC pg) [Res.cell 2 4 true] Q ex a' h')) ?_ ?_
 ·refine E.loopX AC.mono (fun (x:Ents × Ents) a' h'=>Half unEs 3 (x.1.map fun e=>e.2.2) x.1 x.2 ∧ (∀ e ∈ x.1,∀ k,e.1 = .str k → s.isAt T [k] = false) ∧ PAt h0 h' p tb T s ∧ h' b8 = some (.cells Z4 false) ∧ h' bm = some (.map unEs 3) ∧ h' bi = some (.iter (some bm) 3 (x.1.map fun e=>e.2.2) 3) ∧ a'.d = [] ∧ a'.t 0 = .ptr p 0 ∧ a'.t 2 = .ptr b8 0 ∧ a'.t 7 = .ptr bi 0) (fun x=>x.2.length) ([],unEs) ?_ ?_
  ·exact ⟨Half.start (by decide) (by decide),fun e he=>by simp at he,hA3,r8,rm,hadd_same,rfl,rfl,rfl,rfl⟩
  ·rintro ⟨done,rest⟩ ⟨t,ds⟩ h3 ⟨H,hno,A4,r8,rm,ri,hd,t0,t2,t7⟩
   simp only at H hno A4 r8 rm ri hd t0 t2 t7; subst hd
   simp only
   refine W5 t0 t2 t7 ri rm ?_
   refine goNXM_half H (fun hr=>?_) (fun e r1 r2 hr he H'=>?_)
   ·have hp:=H.perm
    rw [hr,List.append_nil] at hp
    have all:∀ e ∈ unEs,∀ k,e.1 = .str k → s.isAt T [k] = false:=fun e he=>hno e (hp.mem_iff.2 he)
    refine W3 t0 t2 t7 ?_
    exact .inl ⟨A4,r8,all _ (List.mem_cons_self ..) _ rfl,all _ (List.mem_cons_of_mem _ (List.mem_cons_self ..)) _ rfl,all _ (List.mem_cons_of_mem _ (List.mem_cons_of_mem _ (List.mem_cons_self ..))) _ rfl⟩
   ·obtain ⟨x,op,i,hmem,rfl⟩:∃ x op i,(x,op) ∈ [([33],[110,111,116]),([45],[110,101,103]),([43],[112,108,117,115])] ∧ e = (.str x,.str op,i):=by
     simp only [unEs,entsOf,List.mem_cons,List.not_mem_nil,or_false] at he
     rcases he with rfl | rfl | rfl
     ·exact ⟨_,_,_,by simp,rfl⟩
     ·exact ⟨_,_,_,by simp,rfl⟩
     ·exact ⟨_,_,_,by simp,rfl⟩
    have hfb:=findBorn_mem (es:=unEs) (by decide) he
    simp only at hfb
    have A5:PAt h0 (hadd h3 bi (.iter (some bm) 3 (done.map (fun e=>e.2.2) ++ [i]) 3)) p tb T s:=A4.over (A2.new hbi) (Ne.symm ni)
    have r8':hadd h3 bi (.iter (some bm) 3 (done.map (fun e=>e.2.2) ++ [i]) 3) b8 = _:=(hadd_ne' n8i).trans r8
    have rm':hadd h3 bi (.iter (some bm) 3 (done.map (fun e=>e.2.2) ++ [i]) 3) bm = _:=(hadd_ne' nmi).trans rm
    have ri':hadd h3 bi (.iter (some bm) 3 (done.map (fun e=>e.2.2) ++ [i]) 3) bi = _:=hadd_same
    refine W5 t0 t2 t7 hfb rm ?_
    refine accept_ac A5.re x fun h4 A6=>?_
    have A6':=A5.back A6
    have r8:=A6.keep (Ne.symm n8) r8'
    have rm:=A6.keep (Ne.symm nm) rm'
    have ri:=A6.keep (Ne.symm ni) ri'
    cases e:s.isAt T [x]
    ·simp only [e,if_false,Bool.false_eq_true] at A6'
     refine W3 t0 t2 t7 ?_
     refine ⟨(done ++ [(.str x,.str op,i)],r1 ++ r2),by rw [hr]; simp,by rw [List.map_append]; exact H',fun e' he' k hk=>?_,A6',r8,rm,by rw [List.map_append]; exact ri⟩
     rcases List.mem_append.1 he' with d | d
     ·exact hno e' d k hk
     ·simp only [List.mem_singleton] at d
      subst d
      simp only [V.str.injEq] at hk
      subst hk; exact e
    ·simp only [e,if_true] at A6'
     obtain ⟨m,rfl,L⟩:=low s hs hl (at_err e)
     rw [unaryM_at hmem e] at hq
     obtain ⟨d1,d2,d3,d4,d5⟩:=down_ok W f1.ok
     have ld:=lvl.down W f1.ok (hl.fwd f1)
     have dl:=hl.2
     have df:=f1.deep
     refine W3 t0 t2 t7 ?_
     refine down_ac A6'.re (by omega) fun h5 A7=>?_
     have A8:=A6'.back A7
     have r8':=A7.keep (Ne.symm n8) r8
     refine W3 t0 t2 t7 ?_
     refine L.run _ _ _ _ _ _ A8.re d1 ld fun h6 v A9 k9=>?_
     have g:=L.fwd _ d1 ld
     generalize U ((s.step T).down T) = y at hq A9 k9 g
     have A9':=A8.back A9
     obtain ⟨kv,rfl,kb⟩:=k9.inv
     have kf:=kb.flat
     have r8x:=A9.keep (Ne.symm n8) r8'
     have kg:KidsV (hadd h0 b8 (.cells Z4 false)) h6 p y.1.kids kv:=KidsV.move (fun x o z nx hx=>⟨by
      rw [show hset h5 p none x = h5 x from if_neg nx] at z
      rw [hadd_ne' (none_ne z r8').symm]; exact A8.new z,hx⟩) kb
     refine W3 kf t0 t2 ?_
     intro bs hbs
     have n8s:=none_ne hbs r8x
     refine W3 kf t0 t2 ?_
     refine node_ac op (l:=[]) rfl ?_
     have kr:=row1 A9' r8x hbs kg
     have A10:=A9'.put (o:=.cells (nodeC y.1 kv) false) hbs
     refine W4 r8x n8s t0 t2 ?_
     have A11:=A10.over (o:=.cells (nodeC (nodeM op [y.1]) (.sl bs 0 4 1)) false) z8 (Ne.symm n8)
     have kn:NodeV h0 (hadd (hadd h6 bs (.cells (nodeC y.1 kv) false)) b8 (.cells (nodeC (nodeM op [y.1]) (.sl bs 0 4 1)) false)) p (nodeM op [y.1]) (.agg (nodeC (nodeM op [y.1]) (.sl bs 0 4 1))) :=
      NodeV.of (KidsV.move (fun y o z nx hx=>⟨(had_none z).2,by rw [hadd_ne' (had_none z).1]; exact hx⟩) kr)
     refine .inr (up_ac A11.re (by rw [g.deep,d3]; omega) fun h8 A12=>?_)
     have c8:=A12.keep (Ne.symm n8) hadd_same
     refine W2 c8 t2 ?_
     exact ⟨_,Sub.refl,hq _ _ (A11.back A12) (kn.keep A12)⟩
 ·rintro ex ⟨t,ds⟩ h3 (⟨rfl,hd,t0,t2,A4,r8,e1,e2,e3⟩ | ⟨rfl,q⟩)
  ·simp only at hd t0 t2; subst hd
   have em:unaryM T U P s = P s:=by unfold unaryM; simp only [e1,e2,e3,if_false,Bool.false_eq_true]
   rw [em] at hq
   refine W2 t0 t2 ?_
   refine C.run _ _ _ _ _ _ A4.re hs hl fun h5 v A5 k5=>?_
   obtain ⟨kv,rfl,kb⟩:=k5.inv
   obtain ⟨A6,k6⟩:=ret_node A4 A5 r8 (Ne.symm n8) z8 k5 (.cells (nodeC (P s).1 kv) false)
   have kf:=kb.flat
   have r8':=A5.keep (Ne.symm n8) r8
   refine W3 r8' kf t2 ?_
   exact ⟨_,Sub.refl,hq _ _ A6 k6⟩
  ·rw [finK_ret'] at q
   refine W0 ?_
   exact q
end Go.Proofs.YtkfbldogmgofoaaGreatDoor
namespace Go.Proofs.YtkfbldogmgofoaaGreatDoor
open Mir
variable {h:H} {Q:V → H → Prop} {h0 h1 h':H} {p tb:Nat} {T:List Tokn} {s s':PS} {N n c m:Nat}
def exprStep (T:List Tokn) (E:PF) (x:Tree × PS):Tree × PS :=
 if x.2.isAt T [[63]] = true then
  let a:=E ((x.2.step T).lines T)
  let b:=E ((((a.2.lines T).expect T [58])).lines T)
  (nodeM [99,111,110,100] [x.1,a.1,b.1],b.2)
 else if x.1.isPlace = true ∧ (x.2.cur T).k = 8 ∧ (x.2.cur T).t ∈ assignOps then
  let a:=E ((x.2.step T).lines T)
  (.nd [97,115,115,105,103,110] (x.2.cur T).t 0 [x.1,a.1],a.2)
 else x
theorem exprM_eq (E U:PF) (s:PS):exprM T E U s = ((exprStep T E (orM T U (s.down T))).1,(exprStep T E (orM T U (s.down T))).2.up):=by
 unfold exprM exprStep
 dsimp only
 split
 ·rfl
 ·split <;> rfl
theorem exprStep_fwd (W:TkOk T N) {E:PF} {x:Tree × PS} (low:x.2.err = 0 → ∀ s,SOk T N s → lvl m c s → Fwd T N s (E s).2) (hs:SOk T N x.2) (hl:lvl m c x.2):Fwd T N x.2 (exprStep T E x).2:=by
 unfold exprStep
 dsimp only
 have f1:=step_fwd W hs
 have f2:=f1.trans (lines_fwd W f1.ok)
 split
 ·rename_i e
  have L:=low (at_err e)
  have f3:=f2.trans (L _ f2.ok (hl.fwd f2))
  have f4:=f3.trans (lines_fwd W f3.ok)
  have f5:=f4.trans (expect_fwd W f4.ok [58])
  have f6:=f5.trans (lines_fwd W f5.ok)
  exact f6.trans (L _ f6.ok (hl.fwd f6))
 split
 ·rename_i e
  have L:=low (cur_err (T:=T) (by omega))
  exact f2.trans (L _ f2.ok (hl.fwd f2))
 ·exact Fwd.refl hs
theorem expr_run (W:TkOk T N) (hc:c < 900) {E U:PF} (hd:∀ s,SOk T N s → lvl n c s → lvl m (c + 1) (s.down T)) (CO:FC T N m (c + 1) 73 (orM T U))
  (low:∀ s,SOk T N s → lvl n c s → s.err = 0 → FC T N m (c + 1) 46 E):FC T N n c 46 (exprM T E U):=by
 have FA:∀ s,SOk T N s → lvl n c s → Fwd T N s (exprM T E U s).2 ∧ Adv s (exprM T E U s).2:=fun s hs hl=>by
  rw [exprM_eq]
  obtain ⟨d1,d2,d3,d4,d5⟩:=down_ok W hs
  have l1:=hd s hs hl
  have g1:=CO.fwd _ d1 l1
  have g2:=exprStep_fwd W (E:=E) (x:=orM T U (s.down T)) (fun e=>(low s hs hl (d5 (g1.err e))).fwd) g1.ok (l1.fwd g1)
  exact ⟨up_fwd W hs (g1.trans g2),up_adv W hs (g1.trans g2) ((CO.adv _ d1 l1).left g2)⟩
 refine ⟨fun h0 h p tb s Q A hs hl hq=>?_,fun s hs hl=>(FA s hs hl).1,fun s hs hl=>(FA s hs hl).2⟩
 rw [exprM_eq] at hq
 obtain ⟨d1,d2,d3,d4,d5⟩:=down_ok W hs
 have l1:=hd s hs hl
 have g1:=CO.fwd _ d1 l1
 have L:=fun e=>low s hs hl (d5 (g1.err e))
 have g2:=exprStep_fwd W (E:=E) (x:=orM T U (s.down T)) (fun e=>(L e).fwd) g1.ok (l1.fwd g1)
 have dl:=hl.2
 refine AC.fn' (g:=g46) rfl (by simp only [List.length_cons,List.length_nil,g46]; decide) ?_; simp only [g46,Mir.Ab.all]
 refine W0 ?_
 intro b8 hb8
 have A1:=A.put (o:=.cells Z4 false) hb8
 have n8:=A.ne hb8
 have z8:=A.new hb8
 refine W0 ?_
 refine down_ac A1.re (by omega) fun h2 A2=>?_
 have A3:=A1.back A2
 have r8:=A2.keep (Ne.symm n8) (b:=b8) (o:=.cells Z4 false) hadd_same
 refine W0 ?_
 refine CO.run _ _ _ _ _ _ A3.re d1 l1 fun h3 v A4 k4=>?_
 generalize orM T U (s.down T) = x at hq A4 k4 g1 g2 L
 obtain ⟨m1,r⟩:=x
 simp only at hq A4 k4 g1 g2 L
 have lr:=l1.fwd g1
 obtain ⟨kv,rfl,kb⟩:=k4.inv
 have kf:=kb.flat
 have A4':=A3.back A4
 have bk:∀ {h5 h6:H} {s5:PS} {l:List Tree} {v:V},PAt h0 h5 p tb T s5 → h5 b8 = some (.cells Z4 false) → KidsV (hset h5 p none) h6 p l v → KidsV (hadd h0 b8 (.cells Z4 false)) h6 p l v:=fun {h5 h6 s5 l v} B hb k =>
  KidsV.move (fun x o z nx hx=>⟨by
   rw [show hset h5 p none x = h5 x from if_neg nx] at z
   rw [hadd_ne' (none_ne z hb).symm]; exact B.new z,hx⟩) k
 have kg:=bk A3 r8 kb
 have r8:=A4.keep (Ne.symm n8) r8
 refine W1 kf ?_
 intro b9 hb9
 have n89:=none_ne hb9 r8
 have n9:=A4'.ne hb9
 have A5:=A4'.put (o:=.cells (nodeC m1 kv) false) hb9
 have r8':hadd h3 b9 (.cells (nodeC m1 kv) false) b8 = _:=(hadd_ne' n89).trans r8
 have kg':=kg.put (o:=.cells (nodeC m1 kv) false) hb9
 have r9:hadd h3 b9 (.cells (nodeC m1 kv) false) b9 = _:=hadd_same
 refine W1 kf ?_
 generalize hadd h3 b9 _ = h4 at A5 r8' kg' r9 ⊢
 have fin:∀ (h7:H) (m:Tree) (s7:PS) (kv:V),PAt h0 h7 p tb T s7 → 1 ≤ s7.deep → KidsV (hadd h0 b8 (.cells Z4 false)) h7 p m.kids kv → (∀ h' v,PAt h0 h' p tb T s7.up → NodeV h0 h' p m v → Q v h') →
   ∀ (Q':V → H → Prop),(∀ h8 x,h8 b8 = some (.cells (nodeC m kv) false) → Q (.agg (nodeC m kv)) h8 → Q' x h8) → AC pg (.fn 72) [.ptr p 0] (hadd h7 b8 (.cells (nodeC m kv) false)) Q':=fun h7 m s7 kv B hd k hq' Q' hQ=>by
  have A11:=B.over (o:=.cells (nodeC m kv) false) z8 (Ne.symm n8)
  have kn:NodeV h0 (hadd h7 b8 (.cells (nodeC m kv) false)) p m (.agg (nodeC m kv)) :=
   NodeV.of (KidsV.move (fun y o z nx hx=>⟨(had_none z).2,by rw [hadd_ne' (had_none z).1]; exact hx⟩) k)
  exact up_ac A11.re hd fun h8 A12=>hQ _ _ (A12.keep (Ne.symm n8) hadd_same) (hq' _ _ (A11.back A12) (kn.keep A12))
 refine accept_ac A5.re [63] fun h5 A6=>?_
 have A6':=A5.back A6
 have s8:=A6.keep (Ne.symm n8) r8'
 have s9:=A6.keep (Ne.symm n9) r9
 have kg6:=kg'.keep A6
 unfold exprStep at hq g2
 dsimp only at hq g2
 cases ea:r.isAt T [[63]]
 case true =>
  simp only [ea,if_true] at hq g2 A6'
  have L:=L (at_err ea)
  have f1:=step_fwd W g1.ok
  have f2:=f1.trans (lines_fwd W f1.ok)
  refine W0 ?_
  refine lines_ac A6'.re W.last fun h6 A7=>?_
  have A7':=A6'.back A7
  have s8:=A7.keep (Ne.symm n8) s8
  have s9:=A7.keep (Ne.symm n9) s9
  have kg7:=kg6.keep A7
  refine W0 ?_
  refine L.run _ _ _ _ _ _ A7'.re f2.ok (lr.fwd f2) fun h7 v A8 k8=>?_
  have f3:=f2.trans (L.fwd _ f2.ok (lr.fwd f2))
  generalize E ((r.step T).lines T) = a at hq g2 A8 k8 f3
  obtain ⟨m2,r2⟩:=a
  simp only at hq g2 A8 k8 f3
  obtain ⟨kv2,rfl,kb2⟩:=k8.inv
  have kf2:=kb2.flat
  have A8':=A7'.back A8
  have kh:=bk A7' s8 kb2
  have s8:=A8.keep (Ne.symm n8) s8
  have s9:=A8.keep (Ne.symm n9) s9
  have kg8:=kg7.keep A8
  refine W1 kf2 ?_
  intro b10 hb10
  have n10:=A8'.ne hb10
  have n810:=none_ne hb10 s8
  have n910:=none_ne hb10 s9
  have A9:=A8'.put (o:=.cells (nodeC m2 kv2) false) hb10
  have u8:hadd h7 b10 (.cells (nodeC m2 kv2) false) b8 = _:=(hadd_ne' n810).trans s8
  have u9:hadd h7 b10 (.cells (nodeC m2 kv2) false) b9 = _:=(hadd_ne' n910).trans s9
  have u10:hadd h7 b10 (.cells (nodeC m2 kv2) false) b10 = _:=hadd_same
  have kg9:=kg8.put (o:=.cells (nodeC m2 kv2) false) hb10
  have kh9:=kh.put (o:=.cells (nodeC m2 kv2) false) hb10
  refine W1 kf2 ?_
  generalize hadd h7 b10 _ = h8 at A9 u8 u9 u10 kg9 kh9 ⊢
  refine lines_ac A9.re W.last fun h9 A10=>?_
  have A10':=A9.back A10
  have f4:=f3.trans (lines_fwd W f3.ok)
  refine W0 ?_
  refine expect_ac A10'.re [58] fun h10 A11=>?_
  have A11':=A10'.back A11
  have f5:=f4.trans (expect_fwd W f4.ok [58])
  refine W0 ?_
  refine lines_ac A11'.re W.last fun h11 A12=>?_
  have A12':=A11'.back A12
  have f6:=f5.trans (lines_fwd W f5.ok)
  have u8:=A12.keep (Ne.symm n8) (A11.keep (Ne.symm n8) (A10.keep (Ne.symm n8) u8))
  have u9:=A12.keep (Ne.symm n9) (A11.keep (Ne.symm n9) (A10.keep (Ne.symm n9) u9))
  have u10:=A12.keep (Ne.symm n10) (A11.keep (Ne.symm n10) (A10.keep (Ne.symm n10) u10))
  have kg12:=((kg9.keep A10).keep A11).keep A12
  have kh12:=((kh9.keep A10).keep A11).keep A12
  refine W4 u9 u10 kf kf2 ?_
  refine L.run _ _ _ _ _ _ A12'.re f6.ok (lr.fwd f6) fun h12 v A13 k13=>?_
  have f7:=f6.trans (L.fwd _ f6.ok (lr.fwd f6))
  generalize E ((((r2.lines T).expect T [58])).lines T) = bb at hq g2 A13 k13 f7
  obtain ⟨m3,r3⟩:=bb
  simp only at hq g2 A13 k13 f7
  obtain ⟨kv3,rfl,kb3⟩:=k13.inv
  have kf3:=kb3.flat
  have A13':=A12'.back A13
  have ki:=bk A12' u8 kb3
  have u8:=A13.keep (Ne.symm n8) u8
  have u9:=A13.keep (Ne.symm n9) u9
  have u10:=A13.keep (Ne.symm n10) u10
  have kg13:=kg12.keep A13
  have kh13:=kh12.keep A13
  refine W5 u9 u10 kf kf2 kf3 ?_
  intro bs hbs
  have n8s:=none_ne hbs u8
  have n9s:=none_ne hbs u9
  have n10s:=none_ne hbs u10
  refine W5 u9 u10 kf kf2 kf3 ?_
  refine node_ac [99,111,110,100] (l:=[]) rfl ?_
  have A14:=A13'.put (o:=.cells (nodeC m1 kv ++ (nodeC m2 kv2 ++ nodeC m3 kv3)) false) hbs
  have kr:KidsV (hadd h0 b8 (.cells Z4 false)) (hadd h12 bs (.cells (nodeC m1 kv ++ (nodeC m2 kv2 ++ nodeC m3 kv3)) false)) p [m1,m2,m3] (.sl bs 0 4 3) :=
   .sl (by simp) (by rw [hadd_ne' (none_ne hbs u8).symm]; exact A13'.new hbs) (Ne.symm (A13'.ne hbs)) hadd_same ((CellsV.one (NodeV.of (kg13.put hbs))).app ((CellsV.one (NodeV.of (kh13.put hbs))).app (CellsV.one (NodeV.of (ki.put hbs)))))
  refine W3 u8 u9 u10 ?_
  refine fin _ (nodeM [99,111,110,100] [m1,m2,m3]) r3 _ A14 (by rw [f7.deep,g1.deep,d3]; omega) kr hq _ fun h8 x e q=>?_
  refine W1 e ?_
  exact ⟨_,Sub.refl,q⟩
 simp only [ea,if_false,Bool.false_eq_true] at hq g2 A6'
 refine W0 ?_
 refine cur_ac A6' ?_
 obtain ⟨tt,ht⟩:∃ tt,tt = r.cur T:=⟨_,rfl⟩
 rw [← ht] at hq g2 ⊢
 rw [tok3]
 refine W0 ?_
 intro b5 hb5
 have n5:=A6'.ne hb5
 have n85:=none_ne hb5 s8
 have n95:=none_ne hb5 s9
 have A7:=A6'.put (o:=.cells (tokC tt) false) hb5
 have u8:hadd h5 b5 (.cells (tokC tt) false) b8 = _:=(hadd_ne' n85).trans s8
 have u9:hadd h5 b5 (.cells (tokC tt) false) b9 = _:=(hadd_ne' n95).trans s9
 have u5:hadd h5 b5 (.cells (tokC tt) false) b5 = _:=hadd_same
 have kg7:=kg6.put (o:=.cells (tokC tt) false) hb5
 unfold tokC at A7 u8 u9 u5 kg7
 refine W2 s9 kf ?_
 generalize hadd h5 b5 _ = h6 at A7 u8 u9 u5 kg7 ⊢
 refine place_ac' kf ?_
 have plain:(if m1.isPlace = true ∧ tt.k = 8 ∧ tt.t ∈ assignOps then ((.nd [97,115,115,105,103,110] tt.t 0 [m1,(E ((r.step T).lines T)).1],(E ((r.step T).lines T)).2):Tree × PS) else (m1,r)) = (m1,r) →
   ∀ (h7:H),PAt h0 h7 p tb T r → KidsV (hadd h0 b8 (.cells Z4 false)) h7 p m1.kids kv → ∀ (Q':V → H → Prop),(∀ h8 x,h8 b8 = some (.cells (nodeC m1 kv) false) → Q (.agg (nodeC m1 kv)) h8 → Q' x h8) → AC pg (.fn 72) [.ptr p 0] (hadd h7 b8 (.cells (nodeC m1 kv) false)) Q':=fun e h7 B k Q' hQ=>by
  rw [e] at hq
  exact fin _ m1 r _ B (by rw [g1.deep,d3]; omega) k hq Q' hQ
 cases ep:m1.isPlace
 ·have e:=plain (by rw [if_neg (by simp [ep])])
  refine W3 u8 u9 kf ?_
  refine e _ A7 kg7 _ fun h8 x e q=>?_
  refine W1 e ?_
  exact ⟨_,Sub.refl,q⟩
 by_cases k8:tt.k = 8
 ·refine W1 u5 ?_
  intro b6 hb6
  have n86:=none_ne hb6 u8
  have n96:=none_ne hb6 u9
  have n56:=none_ne hb6 u5
  have A8:=A7.put (o:=.cells (assignOps.map V.str) false) hb6
  have v8:hadd h6 b6 (.cells (assignOps.map V.str) false) b8 = _:=(hadd_ne' n86).trans u8
  have v9:hadd h6 b6 (.cells (assignOps.map V.str) false) b9 = _:=(hadd_ne' n96).trans u9
  have v5:hadd h6 b6 (.cells (assignOps.map V.str) false) b5 = _:=(hadd_ne' n56).trans u5
  have kg8:=kg7.put (o:=.cells (assignOps.map V.str) false) hb6
  refine W1 u5 ?_
  refine containsS_ac (ss:=assignOps) (ro:=false) hadd_same (by decide) _ ?_
  by_cases ka:tt.t ∈ assignOps
  ·rw [if_pos ⟨ep,k8,ka⟩] at hq g2
   have L:=L (cur_err (T:=T) (by rw [← ht]; omega))
   have f1:=step_fwd W g1.ok
   have f2:=f1.trans (lines_fwd W f1.ok)
   simp only [ka,decide_true]
   refine W0 ?_
   refine step_ac A8.re fun h9 A9=>?_
   have A9':=A8.back A9
   refine W0 ?_
   refine lines_ac A9'.re W.last fun h10 A10=>?_
   have A10':=A9'.back A10
   have v8:=A10.keep (Ne.symm n8) (A9.keep (Ne.symm n8) v8)
   have v9:=A10.keep (Ne.symm n9) (A9.keep (Ne.symm n9) v9)
   have v5:=A10.keep (Ne.symm n5) (A9.keep (Ne.symm n5) v5)
   have kg10:=(kg8.keep A9).keep A10
   refine W3 v9 v5 kf ?_
   refine L.run _ _ _ _ _ _ A10'.re f2.ok (lr.fwd f2) fun h11 v A11 k11=>?_
   have f3:=f2.trans (L.fwd _ f2.ok (lr.fwd f2))
   generalize E ((r.step T).lines T) = a at hq g2 A11 k11 f3 plain
   obtain ⟨m2,r2⟩:=a
   simp only at hq g2 A11 k11 f3
   obtain ⟨kv2,rfl,kb2⟩:=k11.inv
   have kf2:=kb2.flat
   have A11':=A10'.back A11
   have kh:=bk A10' v8 kb2
   have v8:=A11.keep (Ne.symm n8) v8
   have v9:=A11.keep (Ne.symm n9) v9
   have v5:=A11.keep (Ne.symm n5) v5
   have kg11:=kg10.keep A11
   refine W4 v9 v5 kf kf2 ?_
   intro bs hbs
   have n8s:=none_ne hbs v8
   have n9s:=none_ne hbs v9
   have n5s:=none_ne hbs v5
   have A12:=A11'.put (o:=.cells (nodeC m1 kv ++ nodeC m2 kv2) false) hbs
   have kr:KidsV (hadd h0 b8 (.cells Z4 false)) (hadd h11 bs (.cells (nodeC m1 kv ++ nodeC m2 kv2) false)) p [m1,m2] (.sl bs 0 4 2) :=
    .sl (by simp) (by rw [hadd_ne' (none_ne hbs v8).symm]; exact A11'.new hbs) (Ne.symm (A11'.ne hbs)) hadd_same ((CellsV.one (NodeV.of (kg11.put hbs))).app (CellsV.one (NodeV.of (kh.put hbs))))
   refine W5 v8 v9 v5 kf kf2 ?_
   refine fin _ (.nd [97,115,115,105,103,110] tt.t 0 [m1,m2]) r2 _ A12 (by rw [f3.deep,g1.deep,d3]; omega) kr hq _ fun h8 x e q=>?_
   refine W1 e ?_
   exact ⟨_,Sub.refl,q⟩
  ·have e:=plain (by rw [if_neg (by simp [ka])])
   simp only [ka,decide_false]
   refine W3 v8 v9 kf ?_
   refine e _ A8 kg8 _ fun h8 x e q=>?_
   refine W1 e ?_
   exact ⟨_,Sub.refl,q⟩
 ·have e:=plain (by rw [if_neg (by simp [k8])])
  refine W4 u8 u9 u5 kf ?_
  refine e _ A7 kg7 _ fun h8 x e q=>?_
  refine W1 e ?_
  exact ⟨_,Sub.refl,q⟩
end Go.Proofs.YtkfbldogmgofoaaGreatDoor
namespace Go.Proofs.YtkfbldogmgofoaaGreatDoor
open Mir
variable {h:H} {Q:V → H → Prop} {h0 h1 h':H} {p tb:Nat} {T:List Tokn} {s s':PS} {N n c m:Nat}
theorem or_of (W:TkOk T N) {U:PF} (C:FC T N n c 126 U):FC T N n c 73 (orM T U) :=
 or_fc W (and_fc W (in_fc W (match_fc W (rel_fc W (cat_fc W (add_fc W (mul_fc W C)))))))
theorem cat_of (W:TkOk T N) {U:PF} (C:FC T N n c 126 U):FC T N n c 106 (catEM T U):=cat_fc W (add_fc W (mul_fc W C))
theorem FC.congr {f:Nat} {M M':PF} (C:FC T N n c f M) (e:∀ s,SOk T N s → lvl n c s → M s = M' s):FC T N n c f M' :=
 ⟨fun h0 h p tb s Q A hs hl hq=>C.run h0 h p tb s Q A hs hl (by rw [e s hs hl]; exact hq),fun s hs hl=>by rw [← e s hs hl]; exact C.fwd s hs hl,fun s hs hl=>by rw [← e s hs hl]; exact C.adv s hs hl⟩
def zeroF:PF:=fun s=>(.zero,s)
theorem lvl0 (hs:SOk T N s) (hl:lvl 0 c s):s.err ≠ 0:=fun e=>by have:=hl.1 e; have:=hs.low e; omega
theorem at_z (h:s.err ≠ 0) (l:List Txt):s.isAt T l = false:=by unfold PS.isAt; rw [cur_z h]; rfl
theorem prim0:FC T N 0 c 128 zeroF:=by
 refine ⟨fun h0 h p tb s Q A hs hl hq=>?_,fun s hs hl=>Fwd.refl hs,fun s hs hl e=>absurd e (lvl0 hs hl)⟩
 have ne:=lvl0 hs hl
 refine AC.fn' (g:=g128) rfl (by simp only [List.length_cons,List.length_nil,g128]; decide) ?_; simp only [g128,Mir.Ab.all]
 refine W0 ?_
 intro b8 hb8
 have A1:=A.put (o:=.cells Z4 false) hb8
 have n8:=A.ne hb8
 have z8:=A.new hb8
 refine W0 ?_
 refine cur_ac A1 ?_
 rw [cur_z ne]
 unfold tokC tkz
 refine W0 ?_
 intro b3 hb3
 have n83:b8 ≠ b3:=fun e=>by rw [← e] at hb3; simp [hadd,hset] at hb3
 have A3:=A1.put (o:=.cells [.int .i64 0,.str [],.int .i64 0] false) hb3
 have r8:hadd (hadd h b8 (.cells Z4 false)) b3 (.cells [.int .i64 0,.str [],.int .i64 0] false) b8 = some (.cells Z4 false):=by rw [hadd_ne' n83]; exact hadd_same
 refine W0 ?_
 refine accept_ac A3.re [40] fun h4 A5=>?_
 simp only [at_z ne,if_false,Bool.false_eq_true] at A5 ⊢
 have A5':=A3.back A5
 have r8:=A5.keep (Ne.symm n8) r8
 refine W0 ?_
 refine accept_ac A5'.re [36] fun h4 A6=>?_
 simp only [at_z ne,if_false,Bool.false_eq_true] at A6 ⊢
 have A6':=A5'.back A6
 have r8:=A6.keep (Ne.symm n8) r8
 refine W0 ?_
 refine fail_ac A6'.re fun h5 A7=>?_
 rw [show s.fail T = s from if_pos ne] at A7
 have r8:=A7.keep (Ne.symm n8) r8
 refine W1 r8 ?_
 exact ⟨_,Sub.refl,hq _ _ ((A6'.back A7).over z8 (Ne.symm n8)) (.mk .nil)⟩
theorem chain_z (h:s.err ≠ 0) {M:PF} (hM:M s = (.zero,s)) (ln:Bool) (ops:List (Txt × Txt)):chainM T M ln ops s = (.zero,s):=by
 unfold chainM; rw [hM]; simp only [chainN,cur_z h]; rfl
theorem or_z (h:s.err ≠ 0):orM T zeroF s = (.zero,s):=by
 have c0:catEM T zeroF s = (.zero,s):=by
  have a:addM T zeroF s = (.zero,s):=chain_z h (chain_z h rfl _ _) _ _
  unfold catEM
  rw [a]
  simp only [catN,cur_z h,at_z h,tkz]
  rfl
 have r0:relM T zeroF s = (.zero,s):=by
  unfold relM
  rw [c0]
  simp only [cur_z h,tkz]
  rfl
 have i0:inM T zeroF s = (.zero,s):=by
  unfold inM
  rw [show matchM T zeroF s = (.zero,s) from chain_z h r0 _ _]
  simp only [inN,at_z h]
  rfl
 exact chain_z h (chain_z h i0 _ _) _ _
theorem post0 (W:TkOk T N):FC T N 0 c 127 zeroF:=(post_fc W prim0).congr fun s hs hl=>by
 unfold postM zeroF
 simp only [at_z (lvl0 hs hl)]
 rfl
theorem unary0 (W:TkOk T N) (hc:c < 900):FC T N 0 c 126 zeroF :=
 (unary_run W hc (U:=zeroF) (fun s hs hl e=>absurd e (lvl0 hs hl)) (post0 W)).congr fun s hs hl=>by
  unfold unaryM
  simp only [at_z (lvl0 hs hl)]
  rfl
theorem expr0 (W:TkOk T N) (hc:c < 800):FC T N 0 c 46 zeroF :=
 (expr_run W (by omega) (m:=0) (E:=zeroF) (U:=zeroF) (fun s hs hl=>by
  obtain ⟨d1,d2,d3,d4,d5⟩:=down_ok W hs
  exact ⟨fun e=>absurd (d5 e) (lvl0 hs hl),by have:=hl.2; omega⟩) (or_of W (unary0 W (by omega))) (fun s hs hl e=>absurd e (lvl0 hs hl))).congr fun s hs hl=>by
  have ne:=lvl0 hs hl
  obtain ⟨d1,d2,d3,d4,d5⟩:=down_ok W hs
  have nd:(s.down T).err ≠ 0:=fun e=>ne (d5 e)
  have e:exprStep T zeroF (.zero,s.down T) = (.zero,s.down T):=by
   unfold exprStep
   rw [if_neg (by rw [at_z nd]; decide),if_neg (fun h=>absurd h.1 (show ¬ Tree.zero.isPlace = true by decide))]
  have hu:(s.down T).up = s:=by
   unfold PS.down; rw [if_neg (by simp [ne])]; rfl
  rw [exprM_eq,or_z nd,e]
  show (Tree.zero,(s.down T).up) = (Tree.zero,s)
  rw [hu]
structure Good (T:List Tokn) (N n c:Nat):Prop where
 expr:FC T N n c 46 (lev T n).expr
 unary:FC T N n c 126 (lev T n).unary
 post:FC T N n c 127 (lev T n).post
 prim:FC T N n c 128 (lev T n).prim
theorem lev_expr:(lev T (n + 1)).expr = exprM T (lev T n).expr (lev T n).unary:=by rw [lev]
theorem lev_prim:(lev T (n + 1)).prim = primM T (lev T (n + 1)).expr (lev T n).post (lev T n).prim:=by rw [lev]
theorem lev_post:(lev T (n + 1)).post = postM T (lev T (n + 1)).prim:=by rw [lev]
theorem lev_unary:(lev T (n + 1)).unary = unaryM T (lev T n).unary (lev T (n + 1)).post:=by rw [lev]
theorem lev_z:lev T 0 = ⟨zeroF,zeroF,zeroF,zeroF⟩:=by rw [lev]; rfl
theorem good (W:TkOk T N):∀ n c,c + n < 800 → Good T N n c:=by
 intro n
 induction n with
 | zero =>
   intro c hc
   refine ⟨?_,?_,?_,?_⟩
   all_goals rw [lev_z]
   ·exact expr0 W (by omega)
   ·exact unary0 W (by omega)
   ·exact post0 W
   ·exact prim0
 | succ n ih =>
   intro c hc
   have G:=ih (c + 1) (by omega)
   have X:FC T N (n + 1) c 46 (lev T (n + 1)).expr:=by
    rw [lev_expr]; exact expr_run W (by omega) (fun s hs hl=>lvl.down W hs hl) (or_of W G.unary) fun _ _ _ _=>G.expr
   have R:FC T N (n + 1) c 128 (lev T (n + 1)).prim:=by
    rw [lev_prim]; exact prim_fc W (by omega) X G.post G.prim
   have P:FC T N (n + 1) c 127 (lev T (n + 1)).post:=by
    rw [lev_post]; exact post_fc W R
   have V:FC T N (n + 1) c 126 (lev T (n + 1)).unary:=by
    rw [lev_unary]; exact unary_run W (by omega) (fun _ _ _ _=>⟨n,rfl,G.unary⟩) P
   exact ⟨X,V,P,R⟩
end Go.Proofs.YtkfbldogmgofoaaGreatDoor
namespace Go.Proofs.YtkfbldogmgofoaaGreatDoor
open Mir
variable {h:H} {Q:V → H → Prop} {h0 h1 h':H} {p tb:Nat} {T:List Tokn} {s s':PS} {N n c m:Nat}
theorem over_ac (A:PAt h0 h p tb T s) (hq:Q (.bool (s.over T)) h):AC pg (.fn 97) [.ptr p 0] h Q:=by
 unfold PS.over at hq
 refine AC.fn' (g:=g97) rfl (by simp only [List.length_cons,List.length_nil,g97]; decide) ?_; simp only [g97,Mir.Ab.all]
 refine W0 ?_
 intro b1 hb1
 have A1:=A.put (o:=.cells [.str [59],.str [125],.str [41]] false) hb1
 refine W0 ?_
 refine at_ac (ss:=[[59],[125],[41]]) A1 hadd_same (by decide) ?_
 cases e:s.isAt T [[59],[125],[41]]
 ·rw [e] at hq
  refine W0 ?_
  refine cur_ac A1 ?_
  rw [tok3]
  by_cases k1:(s.cur T).k = 1
  ·simp only [k1,decide_true,Bool.false_or,Bool.true_or] at hq
   refine W0 ?_
   exact ⟨h,(fun x o hx=>by repeat (first | exact hx | rw [hadd_ne' (none_ne hb1 hx)])),hq⟩
  ·simp only [k1,decide_false,Bool.false_or] at hq
   refine W0 ?_
   refine cur_ac A1 ?_
   rw [tok3]
   refine W0 ?_
   refine ⟨h,(fun x o hx=>by repeat (first | exact hx | rw [hadd_ne' (none_ne hb1 hx)])),?_⟩
   by_cases k0:(s.cur T).k = 0
   ·simpa [k0] using hq
   ·simpa [k0] using hq
 ·rw [e] at hq
  refine W0 ?_
  exact ⟨h,(fun x o hx=>by repeat (first | exact hx | rw [hadd_ne' (none_ne hb1 hx)])),hq⟩
theorem fin_fwd (W:TkOk T N) (hs:SOk T N s):Fwd T N s (s.fin T):=by
 unfold PS.fin
 split
 ·exact step_fwd W hs
 split
 ·exact Fwd.refl hs
 split
 ·exact step_fwd W hs
 ·exact fail_fwd W hs
theorem end_ac (A:PAt h0 h p tb T s) (hq:∀ h',PAt h0 h' p tb T (s.fin T) → Q (.tup []) h'):AC pg (.fn 88) [.ptr p 0] h Q:=by
 unfold PS.fin at hq
 refine AC.fn' (g:=g88) rfl (by simp only [List.length_cons,List.length_nil,g88]; decide) ?_; simp only [g88,Mir.Ab.all]
 refine W0 ?_
 refine accept_ac A [59] fun h1 A1=>?_
 cases e:s.isAt T [[59]]
 ·simp only [e,if_false,Bool.false_eq_true] at A1 hq
  refine W0 ?_
  intro b1 hb1
  have A2:=A1.put (o:=.cells [.str [125]] false) hb1
  refine W0 ?_
  refine at_ac (ss:=[[125]]) A2 hadd_same (by decide) ?_
  cases e2:s.isAt T [[125]]
  ·simp only [e2,if_false,Bool.false_eq_true] at hq
   refine W0 ?_
   refine cur_ac A2 ?_
   rw [tok3]
   by_cases k1:(s.cur T).k = 1
   ·rw [if_pos k1] at hq
    refine W0 ?_
    refine step_ac A2 fun h3 A3=>?_
    refine W0 ?_
    exact ⟨_,Sub.refl,hq _ A3⟩
   ·rw [if_neg k1] at hq
    refine W0 ?_
    refine fail_ac A2 fun h3 A3=>?_
    refine W0 ?_
    exact ⟨_,Sub.refl,hq _ A3⟩
  ·simp only [e2,if_true] at hq
   refine W0 ?_
   exact ⟨_,Sub.refl,hq _ A2⟩
 ·simp only [e,if_true] at A1 hq
  refine W0 ?_
  exact ⟨_,Sub.refl,hq _ A1⟩
theorem listed_ac (A:PAt h0 h p tb T s) (st:∀ i,(T.getD i tkz).t.length < 1000000) (hq:Q (.bool (s.listed T)) h):AC pg (.fn 104) [.ptr p 0] h Q:=by
 unfold PS.listed at hq
 have hp:=A.obj
 unfold psC at hp
 refine AC.fn' (g:=g104) rfl (by simp only [List.length_cons,List.length_nil,g104]; decide) ?_; simp only [g104,Mir.Ab.all]
 refine W0 ?_
 intro b1 hb1
 have np:=A.ne hb1
 have A1:=A.put (o:=.cells [.str [40]] false) hb1
 refine W0 ?_
 refine at_ac (ss:=[[40]]) A1 hadd_same (by decide) ?_
 cases e:s.isAt T [[40]]
 ·rw [e] at hq
  refine W0 ?_
  exact ⟨h,(fun x o hx=>by repeat (first | exact hx | rw [hadd_ne' (none_ne hb1 hx)])),hq⟩
 rw [e] at hq
 simp only [Bool.true_and] at hq
 refine W1 hp ?_
 refine E.loopX AC.mono (fun (x:Nat × Nat × Int) a' h'=>listedN T x.1 x.2.1 x.2.2 = listedN T (T.length + 1) s.i 0 ∧ T.length < x.2.1 + x.1 ∧ x.2.1 ≤ T.length ∧ -(x.2.1:Int) ≤ x.2.2 ∧ x.2.2 ≤ x.2.1 ∧ PAt h0 h' p tb T s ∧ Sub h h' ∧ a'.d = [] ∧ a'.t 0 = .ptr p 0 ∧ a'.t 3 = .int .i64 x.2.2 ∧ a'.t 4 = .int .i64 x.2.1) (fun x=>x.1) (T.length + 1,s.i,0) ?_ ?_
 ·have:=A.lt
  exact ⟨rfl,by show T.length < s.i + (T.length + 1); omega,by show s.i ≤ T.length; omega,by show -(s.i:Int) ≤ 0; omega,by show (0:Int) ≤ s.i; omega,A1,Sub.refl.put hb1,rfl,rfl,rfl,rfl⟩
 ·rintro ⟨k,i,d⟩ ⟨t,ds⟩ h2 ⟨hk,hf,hi,d1,d2,A2,s2,hd,t0,t3,t4⟩
  simp only at hk hf hi d1 d2 hd t0 t3 t4; subst hd
  have hp2:=A2.obj
  have ht:=A2.tk
  have fl:=flat_len T
  have sm:=A2.small
  unfold psC at hp2
  obtain ⟨k,rfl⟩:∃ k',k = k' + 1:=⟨k - 1,by omega⟩
  rw [listedN] at hk
  by_cases c:T.length ≤ i
  ·rw [if_pos c] at hk
   rw [← hk] at hq
   refine W4 t0 t3 t4 hp2 ?_
   exact ⟨h,s2,hq⟩
  rw [if_neg c] at hk
  have e:=flat_at T i (by omega)
  obtain ⟨tt,htt⟩:∃ tt,tt = T.getD i tkz:=⟨_,rfl⟩
  rw [← htt] at e hk
  dsimp only at hk
  refine W8 t0 t3 t4 hp2 ht fl e tok3 ?_
  intro b5 hb5
  have n5:=A2.ne hb5
  have nt5:=none_ne hb5 ht
  have A3:=A2.put (o:=.cells (tokC tt) false) hb5
  have s3:Sub h (hadd h2 b5 (.cells (tokC tt) false)):=fun x o hx=>by rw [hadd_ne' (none_ne hb5 (s2 _ _ hx))]; exact s2 _ _ hx
  obtain ⟨dd,hdd⟩:∃ dd,dd = if tt.k = 8 ∧ tt.t = [40] then d + 1 else if tt.k = 8 ∧ tt.t = [41] then d - 1 else d:=⟨_,rfl⟩
  rw [← hdd] at hk
  have ddb:-((i:Int) + 1) ≤ dd ∧ dd ≤ (i:Int) + 1:=by rw [hdd]; split <;> (try split) <;> omega
  have cs:(tt.k = 8 ∧ (tt.t = [40]) = True ∧ dd = d + 1) ∨ (tt.k = 8 ∧ (tt.t = [40]) = False ∧ (tt.t = [41]) = True ∧ dd = d - 1) ∨ (tt.k = 8 ∧ (tt.t = [40]) = False ∧ (tt.t = [41]) = False ∧ dd = d) ∨ (tt.k ≠ 8 ∧ dd = d):=by
   by_cases c8:tt.k = 8
   ·by_cases c1:tt.t = [40]
    ·exact .inl ⟨c8,eq_true c1,by rw [hdd,if_pos ⟨c8,c1⟩]⟩
    ·by_cases c2:tt.t = [41]
     ·exact .inr (.inl ⟨c8,eq_false c1,eq_true c2,by rw [hdd,if_neg (by simp [c1]),if_pos ⟨c8,c2⟩]⟩)
     ·exact .inr (.inr (.inl ⟨c8,eq_false c1,eq_false c2,by rw [hdd,if_neg (by simp [c1]),if_neg (by simp [c2])]⟩))
   ·exact .inr (.inr (.inr ⟨c8,by rw [hdd,if_neg (by simp [c8]),if_neg (by simp [c8])]⟩))
  have q1:(tt.t = [40]) = (tt.t = [40]):=rfl
  by_cases dz:dd = 0
  ·rw [if_pos dz] at hk
   obtain ⟨j,hj⟩:∃ j,j = min (i + 1) (T.length - 1):=⟨_,rfl⟩
   obtain ⟨xx,hxx⟩:∃ xx,xx = T.getD j tkz:=⟨_,rfl⟩
   rw [← hj,← hxx] at hk
   have ej:=flat_at T j (by omega)
   rw [← hxx] at ej
   have hm:(min ((i:Int) + 1) ((T.length:Int) - 1)).toNat = j:=by omega
   unfold tokC at A3
   rcases cs with ⟨c8,c1,cd⟩ | ⟨c8,c1,c2,cd⟩ | ⟨c8,c1,c2,cd⟩ | ⟨c8,cd⟩
   ·rw [cd] at dz
    refine W6 t0 t3 t4 c1 hp2 ht ?_
    intro b6 hb6
    have n56:b5 ≠ b6:=fun e=>by rw [← e,hadd_same] at hb6; cases hb6
    have s4:∀ o,Sub h (hadd (hadd h2 b5 (.cells (tokC tt) false)) b6 o):=fun o x o' hx=>by rw [hadd_ne' (none_ne hb6 (s3 _ _ hx))]; exact s3 _ _ hx
    have A4:=A3.put (o:=.cells [.int .i64 xx.k,.str xx.t,.int .i64 xx.a] false) hb6
    refine W3 hm ej tok3 ?_
    rw [← hk] at hq
    by_cases k0:xx.k = 0
    ·rw [k0] at hq
     refine W0 ?_
     exact ⟨h,s4 _,hq⟩
    by_cases k1:xx.k = 1
    ·rw [k1] at hq
     refine W0 ?_
     exact ⟨h,s4 _,hq⟩
    by_cases k8:xx.k = 8
    ·rw [k8] at hq
     have sx:=st j
     rw [← hxx] at sx
     refine W0 ?_
     obtain ⟨mm,hM⟩:=A4.glob
     refine contains_ac [32,59,32,125,32,62,32,62,62,32] (32 :: (xx.t ++ [32])) (by decide) (by simp) (by simp; omega) (A4.sub _ _ hM) ?_
     refine W0 ?_
     exact ⟨h,s4 _,by simpa using hq⟩
    ·refine W0 ?_
     exact ⟨h,s4 _,by simpa [k0,k1,k8] using hq⟩
   ·rw [cd] at dz
    refine W7 t0 t3 t4 c1 c2 hp2 ht ?_
    intro b6 hb6
    have n56:b5 ≠ b6:=fun e=>by rw [← e,hadd_same] at hb6; cases hb6
    have s4:∀ o,Sub h (hadd (hadd h2 b5 (.cells (tokC tt) false)) b6 o):=fun o x o' hx=>by rw [hadd_ne' (none_ne hb6 (s3 _ _ hx))]; exact s3 _ _ hx
    have A4:=A3.put (o:=.cells [.int .i64 xx.k,.str xx.t,.int .i64 xx.a] false) hb6
    refine W3 hm ej tok3 ?_
    rw [← hk] at hq
    by_cases k0:xx.k = 0
    ·rw [k0] at hq
     refine W0 ?_
     exact ⟨h,s4 _,hq⟩
    by_cases k1:xx.k = 1
    ·rw [k1] at hq
     refine W0 ?_
     exact ⟨h,s4 _,hq⟩
    by_cases k8:xx.k = 8
    ·rw [k8] at hq
     have sx:=st j
     rw [← hxx] at sx
     refine W0 ?_
     obtain ⟨mm,hM⟩:=A4.glob
     refine contains_ac [32,59,32,125,32,62,32,62,62,32] (32 :: (xx.t ++ [32])) (by decide) (by simp) (by simp; omega) (A4.sub _ _ hM) ?_
     refine W0 ?_
     exact ⟨h,s4 _,by simpa using hq⟩
    ·refine W0 ?_
     exact ⟨h,s4 _,by simpa [k0,k1,k8] using hq⟩
   ·rw [cd] at dz
    refine W7 t0 t3 t4 c1 c2 hp2 ht ?_
    intro b6 hb6
    have n56:b5 ≠ b6:=fun e=>by rw [← e,hadd_same] at hb6; cases hb6
    have s4:∀ o,Sub h (hadd (hadd h2 b5 (.cells (tokC tt) false)) b6 o):=fun o x o' hx=>by rw [hadd_ne' (none_ne hb6 (s3 _ _ hx))]; exact s3 _ _ hx
    have A4:=A3.put (o:=.cells [.int .i64 xx.k,.str xx.t,.int .i64 xx.a] false) hb6
    refine W3 hm ej tok3 ?_
    rw [← hk] at hq
    by_cases k0:xx.k = 0
    ·rw [k0] at hq
     refine W0 ?_
     exact ⟨h,s4 _,hq⟩
    by_cases k1:xx.k = 1
    ·rw [k1] at hq
     refine W0 ?_
     exact ⟨h,s4 _,hq⟩
    by_cases k8:xx.k = 8
    ·rw [k8] at hq
     have sx:=st j
     rw [← hxx] at sx
     refine W0 ?_
     obtain ⟨mm,hM⟩:=A4.glob
     refine contains_ac [32,59,32,125,32,62,32,62,62,32] (32 :: (xx.t ++ [32])) (by decide) (by simp) (by simp; omega) (A4.sub _ _ hM) ?_
     refine W0 ?_
     exact ⟨h,s4 _,by simpa using hq⟩
    ·refine W0 ?_
     exact ⟨h,s4 _,by simpa [k0,k1,k8] using hq⟩
   ·rw [cd] at dz
    refine W5 t0 t3 t4 hp2 ht ?_
    intro b6 hb6
    have n56:b5 ≠ b6:=fun e=>by rw [← e,hadd_same] at hb6; cases hb6
    have s4:∀ o,Sub h (hadd (hadd h2 b5 (.cells (tokC tt) false)) b6 o):=fun o x o' hx=>by rw [hadd_ne' (none_ne hb6 (s3 _ _ hx))]; exact s3 _ _ hx
    have A4:=A3.put (o:=.cells [.int .i64 xx.k,.str xx.t,.int .i64 xx.a] false) hb6
    refine W3 hm ej tok3 ?_
    rw [← hk] at hq
    by_cases k0:xx.k = 0
    ·rw [k0] at hq
     refine W0 ?_
     exact ⟨h,s4 _,hq⟩
    by_cases k1:xx.k = 1
    ·rw [k1] at hq
     refine W0 ?_
     exact ⟨h,s4 _,hq⟩
    by_cases k8:xx.k = 8
    ·rw [k8] at hq
     have sx:=st j
     rw [← hxx] at sx
     refine W0 ?_
     obtain ⟨mm,hM⟩:=A4.glob
     refine contains_ac [32,59,32,125,32,62,32,62,62,32] (32 :: (xx.t ++ [32])) (by decide) (by simp) (by simp; omega) (A4.sub _ _ hM) ?_
     refine W0 ?_
     exact ⟨h,s4 _,by simpa using hq⟩
    ·refine W0 ?_
     exact ⟨h,s4 _,by simpa [k0,k1,k8] using hq⟩
  ·rw [if_neg dz] at hk
   have fin:∃ x':Nat × Nat × Int,x'.1 < k + 1 ∧ listedN T x'.1 x'.2.1 x'.2.2 = listedN T (T.length + 1) s.i 0 ∧ T.length < x'.2.1 + x'.1 ∧ x'.2.1 ≤ T.length ∧ -(x'.2.1:Int) ≤ x'.2.2 ∧ x'.2.2 ≤ x'.2.1 ∧ PAt h0 (hadd h2 b5 (.cells (tokC tt) false)) p tb T s ∧ Sub h (hadd h2 b5 (.cells (tokC tt) false)) ∧ (V.int .i64 dd) = .int .i64 x'.2.2 ∧ (V.int .i64 ((i:Int) + 1)) = .int .i64 x'.2.1 :=
    ⟨(k,i + 1,dd),by show k < k + 1; omega,hk,by show T.length < i + 1 + k; omega,by show i + 1 ≤ T.length; omega,by show -((i + 1:Nat):Int) ≤ dd; omega,by show dd ≤ ((i + 1:Nat):Int); omega,A3,s3,rfl,by show V.int .i64 _ = .int .i64 ((i + 1:Nat):Int); congr 1⟩
   rcases cs with ⟨c8,c1,cd⟩ | ⟨c8,c1,c2,cd⟩ | ⟨c8,c1,c2,cd⟩ | ⟨c8,cd⟩
   ·rw [cd] at fin dz
    refine W4 t0 t3 t4 c1 ?_
    exact fin
   ·rw [cd] at fin dz
    refine W5 t0 t3 t4 c1 c2 ?_
    exact fin
   ·rw [cd] at fin dz
    refine W5 t0 t3 t4 c1 c2 ?_
    exact fin
   ·rw [cd] at fin dz
    refine W3 t0 t3 t4 ?_
    exact fin
end Go.Proofs.YtkfbldogmgofoaaGreatDoor
namespace Go.Proofs.YtkfbldogmgofoaaGreatDoor
open Mir
variable {h:H} {Q:V → H → Prop} {h0 h1 h':H} {p tb:Nat} {T:List Tokn} {s s':PS} {N n c m:Nat}
theorem outN_fwd (W:TkOk T N) {M:PF} (hf:∀ s,SOk T N s → lvl n c s → Fwd T N s (M s).2):∀ (k:Nat) {l:List Tree} {s:PS},SOk T N s → lvl n c s → Fwd T N s (outN T M k l s).2
 | 0,_,_,hs,_=>Fwd.refl hs
 | k + 1,l,s,hs,hl=>by
   unfold outN
   split
   ·have f1:Fwd T N s (if l = [] then s else (s.expect T [44]).lines T):=by
     split
     ·exact Fwd.refl hs
     ·exact (expect_fwd W hs _).trans (lines_fwd W (expect_fwd W hs _).ok)
    have f2:=f1.trans (hf _ f1.ok (hl.fwd f1))
    exact f2.trans (outN_fwd W hf k f2.ok (hl.fwd f2))
   ·exact Fwd.refl hs
def outArgs (T:List Tokn) (E:PF) (s0:PS):List Tree × PS:=if s0.listed T = true then listM T E [41] (s0.step T) else outN T E (T.length + 1) [] s0
def outTo (T:List Tokn) (C:PF) (r:PS):Tree × PS:=if r.isAt T [[62]] = true then (nodeM [116,111] [(C (r.step T)).1],(C (r.step T)).2)
    else if r.isAt T [[62,62]] = true then (nodeM [97,112,112,101,110,100] [(C (r.step T)).1],(C (r.step T)).2) else (nodeM [110,111,110,101] [],r)
def outEnd (T:List Tokn) (op:Txt) (l:List Tree) (r:PS):PS:=if op = [112,114,105,110,116,102] ∧ l = [] then PS.fail T { r with flat:=false } else { r with flat:=false }
theorem outputM_eq (E U:PF) (op:Txt) (s:PS):outputM T E U op s = (nodeM op ((outTo T (catEM T U) (outArgs T E { s with flat:=true }).2).1 :: (outArgs T E { s with flat:=true }).1),outEnd T op (outArgs T E { s with flat:=true }).1 (outTo T (catEM T U) (outArgs T E { s with flat:=true }).2).2):=by
 unfold outputM outArgs outTo outEnd
 rfl
theorem outArgs_fwd (W:TkOk T N) {E:PF} (hf:∀ s,SOk T N s → lvl n c s → Fwd T N s (E s).2) (hs:SOk T N s) (hl:lvl n c s):Fwd T N s (outArgs T E s).2:=by
 unfold outArgs
 split
 ·have f1:=step_fwd W hs
  exact f1.trans (listM_fwd W hf _ f1.ok (hl.fwd f1))
 ·exact outN_fwd W hf _ hs hl
theorem outTo_fwd (W:TkOk T N) {C:PF} (hf:∀ s,SOk T N s → lvl n c s → Fwd T N s (C s).2) (hs:SOk T N s) (hl:lvl n c s):Fwd T N s (outTo T C s).2:=by
 have f1:=step_fwd W hs
 unfold outTo
 split
 ·exact f1.trans (hf _ f1.ok (hl.fwd f1))
 split
 ·exact f1.trans (hf _ f1.ok (hl.fwd f1))
 ·exact Fwd.refl hs
theorem outputM_fwd (W:TkOk T N) {E U:PF} (he:∀ s,SOk T N s → lvl n c s → Fwd T N s (E s).2) (hf:∀ s,SOk T N s → lvl n c s → Fwd T N s (catEM T U s).2) (op:Txt) (hs:SOk T N s) (hl:lvl n c s):Fwd T N s (outputM T E U op s).2:=by
 rw [outputM_eq]
 have f1:=flat_fwd hs true
 have f2:=f1.trans (outArgs_fwd W he f1.ok (hl.fwd f1))
 have f3:=f2.trans (outTo_fwd W hf f2.ok (hl.fwd f2))
 have f4:=f3.trans (flat_fwd f3.ok false)
 refine f3.trans ?_
 unfold outEnd
 split
 ·exact (flat_fwd f3.ok false).trans (fail_fwd W f4.ok)
 ·exact flat_fwd f3.ok false
theorem PAt.less {b:Nat} {o:AObj} (A:PAt (hadd h0 b o) h p tb T s) (B:PAt h0 h1 p tb T s') (z:h0 b = none):PAt h0 h p tb T s :=
 ⟨A.obj,B.toks,B.glob,B.base,fun x o' hx=>A.sub _ _ (by rw [hadd_ne' (none_ne z hx)]; exact hx),A.small,A.lt,A.deep⟩
theorem SlAt.move {g0 g1:H} {l:List Tree} {v:V} (hm:∀ c o,g0 c = none → c ≠ p → h c = some o → g1 c = none ∧ h' c = some o) (k:SlAt g0 h p l v):SlAt g1 h' p l v:=by
 rcases k with k | ⟨b,cs,h1,h2,h3,h4,h5,h6⟩
 ·exact .inl k
 ·exact .inr ⟨b,cs,h1,(hm _ _ h2 h3 h5).1,h3,h4,(hm _ _ h2 h3 h5).2,CellsV.move (fun x o z nx hx=>⟨by rw [hadd_ne' (had_none z).1]; exact (hm _ _ (had_none z).2 nx hx).1,(hm _ _ (had_none z).2 nx hx).2⟩) h6⟩
theorem listN_len (M:PF) (e:Txt):∀ (k:Nat) (l:List Tree) (s:PS),(listN T M e k l s).1.length ≤ l.length + k
 | 0,_,_=>Nat.le_refl _
 | k + 1,l,s=>by
   unfold listN; split
   ·have:=listN_len M e k (l ++ [(M (if l = [] then s else (s.expect T [44]).lines T)).1]) ((M (if l = [] then s else (s.expect T [44]).lines T)).2.lines T)
    simp only [List.length_append,List.length_cons,List.length_nil] at this
    dsimp only; omega
   ·dsimp only; omega
theorem outN_len (M:PF):∀ (k:Nat) (l:List Tree) (s:PS),(outN T M k l s).1.length ≤ l.length + k
 | 0,_,_=>Nat.le_refl _
 | k + 1,l,s=>by
   unfold outN; split
   ·have:=outN_len M k (l ++ [(M (if l = [] then s else (s.expect T [44]).lines T)).1]) (M (if l = [] then s else (s.expect T [44]).lines T)).2
    simp only [List.length_append,List.length_cons,List.length_nil] at this
    dsimp only; omega
   ·dsimp only; omega
theorem outArgs_len (M:PF) (s:PS):(outArgs T M s).1.length ≤ T.length + 1:=by
 unfold outArgs; split
 ·have:=listN_len (T:=T) M [41] (T.length + 1) [] (PS.lines T { s.step T with flat:=false })
  simp only [List.length_nil,Nat.zero_add] at this
  exact this
 ·have:=outN_len (T:=T) M (T.length + 1) [] s
  simp only [List.length_nil,Nat.zero_add] at this
  exact this
theorem output_ac (W:TkOk T N) {M U:PF} (CE:FC T N n c 46 M) (CC:FC T N n c 106 (catEM T U)) (op:Txt) (A:PAt h0 h p tb T s) (hs:SOk T N s) (hl:lvl n c s)
  (hq:∀ h' v,PAt h0 h' p tb T (outputM T M U op s).2 → NodeV h0 h' p (outputM T M U op s).1 v → Q v h'):AC pg (.fn 98) [.ptr p 0,.str op] h Q:=by
 rw [outputM_eq] at hq
 have f1:=flat_fwd hs true
 have hp:=A.obj
 unfold psC at hp
 refine AC.fn' (g:=g98) rfl (by simp only [List.length_cons,List.length_nil,g98]; decide) ?_; simp only [g98,Mir.Ab.all]
 refine W0 ?_
 intro b8 hb8
 have n8:=A.ne hb8
 have z8:=A.new hb8
 have A1:=(A.put (o:=.cells Z4 false) hb8).setF true
 have r8:hadd (hadd h b8 (.cells Z4 false)) p (.cells [.sl tb 0 3 T.length,.int .i64 s.i,.int .i64 s.deep,.bool true,.int .i64 s.err,.int .i64 s.bad] false) b8 = some (.cells Z4 false):=by rw [hadd_ne' (Ne.symm n8)]; exact hadd_same
 refine W1 hp ?_
 unfold Z4 at A1 r8
 generalize hadd (hadd h b8 _) p _ = h2 at A1 r8 ⊢
 refine listed_ac A1 W.short ?_
 obtain ⟨s0,hs0⟩:∃ s0:PS,s0 = { s with flat:=true }:=⟨_,rfl⟩
 rw [← hs0] at hq A1 f1 ⊢
 have l0:=hl.fwd f1
 have g:=outArgs_fwd W CE.fwd f1.ok l0
 have hx:outArgs T M s0 = if s0.listed T = true then listM T M [41] (s0.step T) else outN T M (T.length + 1) [] s0:=rfl
 have xl:=outArgs_len (T:=T) M s0
 generalize outArgs T M s0 = x at hq hx g xl
 refine W0 ?_
 have A1g:=A1.more r8 (Ne.symm n8) z8
 obtain ⟨g0,hg0⟩:∃ g0:H,g0 = hadd h0 b8 (.cells Z4 false):=⟨_,rfl⟩
 have g08:g0 b8 = some (.cells Z4 false):=by rw [hg0]; exact hadd_same
 have A1g:PAt g0 h2 p tb T s0:=by rw [hg0]; exact A1g
 refine goC_cut AC.mono (fun ex a' h'=>ex = .nm ∧ a'.d = [] ∧ a'.t 0 = .ptr p 0 ∧ a'.t 1 = .str op ∧ a'.t 4 = .ptr b8 0 ∧ PAt g0 h' p tb T x.2 ∧ SlAt g0 h' p x.1 (a'.t 5)) ?_ ?_
 ·cases el:s0.listed T
  ·simp only [el,if_false,Bool.false_eq_true] at hx
   refine W0 ?_
   refine E.cut AC.mono (fun ex a' h'=>ex = .exit 0 ∧ a'.d = [] ∧ a'.t 0 = .ptr p 0 ∧ a'.t 1 = .str op ∧ a'.t 4 = .ptr b8 0 ∧ PAt g0 h' p tb T x.2 ∧ SlAt g0 h' p x.1 (a'.t 5)) ?_ ?_
   ·refine E.loopX AC.mono (fun (y:Nat × List Tree × PS) a' h'=>outN T M y.1 y.2.1 y.2.2 = x ∧ (y.2.2.err = 0 → T.length < y.2.2.i + y.1 ∧ y.2.1.length ≤ y.2.2.i) ∧ SOk T N y.2.2 ∧ lvl n c y.2.2 ∧ PAt g0 h' p tb T y.2.2 ∧ SlAt g0 h' p y.2.1 (a'.t 5) ∧ a'.d = [] ∧ a'.t 0 = .ptr p 0 ∧ a'.t 1 = .str op ∧ a'.t 4 = .ptr b8 0) (fun y=>y.1) (T.length + 1,[],s0) ?_ ?_
    ·exact ⟨hx.symm,fun _=>⟨by show T.length < s0.i + (T.length + 1); omega,Nat.zero_le _⟩,f1.ok,l0,A1g,.inl ⟨rfl,rfl⟩,rfl,rfl,rfl,rfl⟩
    ·rintro ⟨k,l,r⟩ ⟨t,ds⟩ h2 ⟨hk,hr,sr,lr,A3,S3,hd,t0,t1,t4⟩
     simp only at hk hr sr lr A3 S3 hd t0 t1 t4; subst hd
     have hp3:=A3.obj
     unfold psC at hp3
     have hlt:=A3.lt
     have sm:=A3.small
     by_cases e0:r.err = 0
     ·obtain ⟨hr1,hr2⟩:=hr e0
      obtain ⟨k,rfl⟩:∃ k',k = k' + 1:=⟨k - 1,by omega⟩
      refine W4 t0 t1 t4 hp3 ?_
      refine over_ac A3 ?_
      cases eo:r.over T
      case true =>
       have fin:(l,r) = x:=by rw [← hk,outN,if_neg (by simp [eo])]
       rw [← fin]
       refine W3 t0 t1 t4 ?_
       exact ⟨A3,S3⟩
      refine W4 t0 t1 t4 hp3 ?_
      intro ba hba
      refine W4 t0 t1 t4 hp3 ?_
      refine at_ac (ss:=[[62],[62,62]]) (A3.put hba) hadd_same (by decide) ?_
      cases ea:r.isAt T [[62],[62,62]]
      ·rw [outN,if_pos ⟨e0,eo,ea⟩] at hk
       simp only at hk
       have A4:=A3.put (o:=.cells [.str [62],.str [62,62]] false) hba
       have S4:=S3.put (o:=.cells [.str [62],.str [62,62]] false) hba
       have ll:=S3.ll
       refine W4 t0 t1 t4 ll ?_
       generalize hr1:(if l = [] then r else (r.expect T [44]).lines T) = r1 at hk
       have g1:Fwd T N r r1:=by
        rw [← hr1]; split
        ·exact Fwd.refl sr
        ·exact (expect_fwd W sr _).trans (lines_fwd W (expect_fwd W sr _).ok)
       generalize hv5:t 5 = v5 at S4 ⊢
       refine goC_cut AC.mono (fun ex a' h'=>ex = .nm ∧ a'.d = [] ∧ a'.t 0 = .ptr p 0 ∧ a'.t 1 = .str op ∧ a'.t 4 = .ptr b8 0 ∧ a'.t 5 = v5 ∧ PAt g0 h' p tb T r1 ∧ SlAt g0 h' p l v5) ?_ ?_
       ·by_cases el:l = []
        ·rw [if_pos el] at hr1; subst hr1
         have:l.length = 0:=by rw [el]; rfl
         refine W3 t0 t1 t4 ?_
         exact ⟨hv5,A4,S4⟩
        ·rw [if_neg el] at hr1; subst hr1
         have:0 < l.length:=List.length_pos_iff.2 el
         refine W3 t0 t1 t4 ?_
         refine expect_ac A4.re [44] fun h4 A5=>?_
         refine W3 t0 t1 t4 ?_
         refine lines_ac (A4.back A5).re W.last fun h5 A6=>?_
         refine W3 t0 t1 t4 ?_
         exact ⟨hv5,(A4.back A5).back A6,(S4.keep A5).keep A6⟩
       ·rintro ex ⟨t,ds⟩ h4 ⟨rfl,hd,t0,t1,t4,t5,A5,S5⟩
        simp only at hd t0 t1 t4 t5; subst hd
        refine W4 t0 t1 t4 t5 ?_
        refine CE.run _ _ _ _ _ _ A5.re g1.ok (lr.fwd g1) fun h5 v A6 k6=>?_
        have g2:=g1.trans (CE.fwd _ g1.ok (lr.fwd g1))
        have a2:=Adv.right g1 (CE.adv _ g1.ok (lr.fwd g1)) (CE.fwd _ g1.ok (lr.fwd g1))
        generalize M r1 = y at hk A6 k6 g2 a2
        obtain ⟨m,r2⟩:=y
        simp only at hk A6 k6 g2 a2
        have A6':=A5.back A6
        obtain ⟨kv,rfl,kb⟩:=k6.inv
        have kf:=kb.flat
        refine W5 t0 t1 t4 t5 kf ?_
        intro bn hbn
        have bnd:r2.err = 0 → T.length < r2.i + k ∧ (l ++ [m]).length ≤ r2.i:=fun e1=>by
         rw [List.length_append]
         show _ ∧ l.length + 1 ≤ _
         rcases a2 e0 with d | d
         ·omega
         ·exact absurd e1 d
        rcases S5 with ⟨el,ev⟩ | ⟨b,cs,q1,q2,q3,q4,q5,q6⟩
        ·subst el
         refine W5 t0 t1 t4 t5 ev ?_
         intro ba hba
         have S6:=SlAt.first A6' (o:=.cells (nodeC m kv) false) hbn hba (CellsV.wk0 A5 (CellsV.one k6))
         have A7:=(A6'.put (o:=.cells (nodeC m kv) false) hbn).put (o:=.cells (nodeC m kv) false) hba
         refine W5 t0 t1 t4 t5 ev ?_
         exact ⟨(k,[m],r2),by show k < k + 1; omega,hk,bnd,g2.ok,lr.fwd g2,A7,S6⟩
        ·have q5':=A6.keep q3 q5
         have cl:=q6.len
         have nbn:=none_ne hbn q5'
         have tk:List.take (l.length * 4) cs = cs:=List.take_of_length_le (by omega)
         refine W7 t0 t1 t4 t5 q4 q5' cl ?_
         intro ba nab hba
         have S6:=SlAt.more A6' (o:=.cells (nodeC m kv) false) q1 (q6.keep A6) hbn nab hba (CellsV.off A5 q5 (CellsV.one k6))
         have A7:=((A6'.put (o:=.cells (nodeC m kv) false) hbn).lose q2 q3).put (o:=.cells (cs ++ nodeC m kv) false) (by unfold hset; rw [if_neg nab]; exact hba)
         refine W6 t0 t1 t4 t5 q4 tk ?_
         exact ⟨(k,l ++ [m],r2),by show k < k + 1; omega,hk,bnd,g2.ok,lr.fwd g2,A7,S6⟩
      ·have fin:(l,r) = x:=by rw [← hk,outN,if_neg (by simp [ea])]
       rw [← fin]
       refine W3 t0 t1 t4 ?_
       exact ⟨A3.put hba,S3.put hba⟩
     ·have fin:(l,r) = x:=by
       rw [← hk]; cases k with
       | zero=>rfl
       | succ k=>rw [outN,if_neg (by simp [e0])]
      rw [← fin]
      refine W4 t0 t1 t4 hp3 ?_
      exact ⟨A3,S3⟩
   ·rintro ex ⟨t,ds⟩ h3 ⟨rfl,hd,t0,t1,t4,A3,S3⟩
    simp only at hd t0 t1 t4 S3; subst hd
    refine W3 t0 t1 t4 ?_
    exact ⟨A3,S3⟩
  ·simp only [el,if_true] at hx
   refine W0 ?_
   refine step_ac A1g.re fun h3 A2=>?_
   have A2':=A1g.back A2
   refine W0 ?_
   have f2:=step_fwd W f1.ok
   refine list_ac W CE [41] A2' f2.ok (l0.fwd f2) fun h4 v A3 S3=>?_
   rw [← hx] at A3 S3
   refine W0 ?_
   exact ⟨A3,S3⟩
 ·rintro ex ⟨t,ds⟩ h3 ⟨rfl,hd,t0,t1,t4,A3,S3⟩
  simp only at hd t0 t1 t4 S3; subst hd
  obtain ⟨l,r⟩:=x
  simp only at hq g A3 S3 xl
  have lr:=l0.fwd g
  have smT:=A3.small
  have vf:=S3.kids.flat
  generalize ht5:t 5 = v at S3 vf
  refine W4 t0 t1 t4 ht5 ?_
  refine node_ac [110,111,110,101] (l:=[]) rfl ?_
  refine W4 t0 t1 t4 ht5 ?_
  intro b6 hb6
  have n6:=A3.ne hb6
  have z6:=A3.new hb6
  have A4:=A3.put (o:=.cells [.str [110,111,110,101],.str [],.int .i64 0,.nilsl] false) hb6
  have S4:SlAt (hadd g0 b6 (.cells [] false)) (hadd h3 b6 (.cells [.str [110,111,110,101],.str [],.int .i64 0,.nilsl] false)) p l v:=SlAt.move (fun x o z nx hx=>by
   have nx6:=none_ne hb6 hx
   exact ⟨by rw [hadd_ne' nx6]; exact z,by rw [hadd_ne' nx6]; exact hx⟩) S3
  have r6:hadd h3 b6 (.cells [.str [110,111,110,101],.str [],.int .i64 0,.nilsl] false) b6 = _:=hadd_same
  have m0:findK (KC.one EqC.str) (V.str [62]) [] = some none:=rfl; have m1:findK (KC.one EqC.str) (V.str [62,62]) [(V.str [62],V.str [116,111],0)] = some none:=rfl
  refine W4 t0 t1 t4 ht5 ?_
  generalize hadd h3 b6 _ = h4 at A4 S4 r6 ⊢
  intro bm hbm
  have nm:=A4.ne hbm
  have n6m:=none_ne hbm r6
  have A5:=A4.put (o:=.map (entsOf [([62],[116,111]),([62,62],[97,112,112,101,110,100])] 0) 2) hbm
  have S5:=S4.put (o:=.map (entsOf [([62],[116,111]),([62,62],[97,112,112,101,110,100])] 0) 2) hbm
  have r6m:hadd h4 bm (.map (entsOf [([62],[116,111]),([62,62],[97,112,112,101,110,100])] 0) 2) b6 = _:=(hadd_ne' n6m).trans r6
  have rm:hadd h4 bm (.map (entsOf [([62],[116,111]),([62,62],[97,112,112,101,110,100])] 0) 2) bm = _:=hadd_same
  unfold entsOf entsOf entsOf at A5 S5 r6m rm
  refine W6 m0 m1 t0 t1 t4 ht5 ?_
  generalize hadd h4 bm _ = h5 at A5 S5 r6m rm ⊢
  intro bi hbi
  have ni:=A5.ne hbi
  have n6i:=none_ne hbi r6m
  have nmi:=none_ne hbi rm
  have zi:=A5.new hbi
  have A6:=A5.put (o:=.iter (some bm) 2 [] 2) hbi
  have S6:SlAt (hadd (hadd g0 b6 (.cells [] false)) bi (.cells [] false)) (hadd h5 bi (.iter (some bm) 2 [] 2)) p l v:=SlAt.move (fun x o z nx hx=>by
   have nxi:=none_ne hbi hx
   exact ⟨by rw [hadd_ne' nxi]; exact z,by rw [hadd_ne' nxi]; exact hx⟩) S5
  have r6i:hadd h5 bi (.iter (some bm) 2 [] 2) b6 = _:=(hadd_ne' n6i).trans r6m
  have rmi:hadd h5 bi (.iter (some bm) 2 [] 2) bm = some (.map (entsOf [([62],[116,111]),([62,62],[97,112,112,101,110,100])] 0) 2):=(hadd_ne' nmi).trans rm
  have rii:hadd h5 bi (.iter (some bm) 2 [] 2) bi = _:=hadd_same
  obtain ⟨es,hes⟩:∃ es,es = entsOf [([62],[116,111]),([62,62],[97,112,112,101,110,100])] 0:=⟨_,rfl⟩
  rw [← hes] at rmi
  refine W4 t0 t1 t4 ht5 ?_
  generalize hadd h5 bi _ = h6 at A6 S6 r6i rmi rii ⊢
  have gT:=outTo_fwd W CC.fwd g.ok lr
  have hy:outTo T (catEM T U) r = outTo T (catEM T U) r:=rfl
  generalize hyy:outTo T (catEM T U) r = y at hq gT
  clear hy
  obtain ⟨g6,hg6⟩:∃ g6:H,g6 = hadd (hadd g0 b6 (.cells [] false)) bi (.cells [] false):=⟨_,rfl⟩
  rw [← hg6] at S6
  have G6:∀ x,g6 x = none → x ≠ bi ∧ x ≠ b6 ∧ g0 x = none:=fun x hx=>by rw [hg6] at hx; exact ⟨(had_none hx).1,had_none (had_none hx).2⟩
  have G6':∀ x,x ≠ bi → x ≠ b6 → g0 x = none → g6 x = none:=fun x h0 h1 h2=>by rw [hg6,hadd_ne' h0,hadd_ne' h1]; exact h2
  refine E.cut AC.mono (fun ex a' h'=>ex = .exit 2 ∧ a'.d = [] ∧ a'.t 0 = .ptr p 0 ∧ a'.t 1 = .str op ∧ a'.t 4 = .ptr b8 0 ∧ a'.t 5 = v ∧ a'.t 6 = .ptr b6 0 ∧ PAt g0 h' p tb T y.2 ∧ SlAt g6 h' p l v ∧ ∃ ky,h' b6 = some (.cells (nodeC y.1 ky) false) ∧ KidsV g6 h' p y.1.kids ky) ?_ ?_
  ·refine E.loopX AC.mono (fun (x:Ents × Ents) a' h'=>Half es 2 (x.1.map fun e=>e.2.2) x.1 x.2 ∧ (∀ e ∈ x.1,∀ k,e.1 = .str k → r.isAt T [k] = false) ∧ PAt g0 h' p tb T r ∧ SlAt g6 h' p l v ∧ h' b6 = some (.cells [.str [110,111,110,101],.str [],.int .i64 0,.nilsl] false) ∧ h' bm = some (.map es 2) ∧ h' bi = some (.iter (some bm) 2 (x.1.map fun e=>e.2.2) 2) ∧ a'.d = [] ∧ a'.t 0 = .ptr p 0 ∧ a'.t 1 = .str op ∧ a'.t 4 = .ptr b8 0 ∧ a'.t 5 = v ∧ a'.t 6 = .ptr b6 0 ∧ a'.t 49 = .ptr bi 0) (fun x=>x.2.length) ([],es) ?_ ?_
   ·exact ⟨Half.start (by rw [hes]; decide) (by rw [hes]; decide),fun e he=>by simp at he,A6,S6,r6i,rmi,rii,rfl,t0,t1,t4,ht5,rfl,rfl⟩
   ·rintro ⟨done,rest⟩ ⟨t,ds⟩ h7 ⟨H,hno,A7,S7,r6,rm,ri,hd,t0,t1,t4,t5,t6,t49⟩
    simp only at H hno A7 S7 r6 rm ri hd t0 t1 t4 t5 t6 t49; subst hd
    simp only
    refine W8 t0 t1 t4 t5 t6 t49 ri rm ?_
    refine goNXM_half H (fun hr=>?_) (fun e r1 r2 hr he H'=>?_)
    ·have hp:=H.perm
     rw [hr,List.append_nil] at hp
     have all:∀ e ∈ es,∀ k,e.1 = .str k → r.isAt T [k] = false:=fun e he=>hno e (hp.mem_iff.2 he)
     have a1:=all (.str [62],.str [116,111],0) (by rw [hes]; exact List.mem_cons_self ..) _ rfl
     have a2:=all (.str [62,62],.str [97,112,112,101,110,100],1) (by rw [hes]; exact List.mem_cons_of_mem _ (List.mem_cons_self ..)) _ rfl
     have:y = (nodeM [110,111,110,101] [],r):=by rw [← hyy]; unfold outTo; simp only [a1,a2,if_false,Bool.false_eq_true]
     subst this
     refine W6 t0 t1 t4 t5 t6 t49 ?_
     exact ⟨A7,S7,.nilsl,r6,.nil⟩
    ·obtain ⟨x,o2,i,hmem,rfl⟩:∃ x o2 i,((x,o2,i) = ([62],[116,111],0) ∨ (x,o2,i) = ([62,62],[97,112,112,101,110,100],1)) ∧ e = (.str x,.str o2,i):=by
      rw [hes] at he
      simp only [entsOf,List.mem_cons,List.not_mem_nil,or_false] at he
      rcases he with rfl | rfl
      ·exact ⟨_,_,_,.inl rfl,rfl⟩
      ·exact ⟨_,_,_,.inr rfl,rfl⟩
     have hfb:=findBorn_mem (es:=es) (by rw [hes]; decide) he
     simp only at hfb
     have nbi6:b6 ≠ bi:=n6i
     have A8:PAt g0 (hadd h7 bi (.iter (some bm) 2 (done.map (fun e=>e.2.2) ++ [i]) 2)) p tb T r:=A7.over zi (Ne.symm ni)
     have S8:SlAt g6 (hadd h7 bi (.iter (some bm) 2 (done.map (fun e=>e.2.2) ++ [i]) 2)) p l v:=SlAt.move (fun x o z nx hx=>⟨z,by rw [hadd_ne' (G6 _ z).1]; exact hx⟩) S7
     have r6':hadd h7 bi (.iter (some bm) 2 (done.map (fun e=>e.2.2) ++ [i]) 2) b6 = _:=(hadd_ne' n6i).trans r6
     have rm':hadd h7 bi (.iter (some bm) 2 (done.map (fun e=>e.2.2) ++ [i]) 2) bm = _:=(hadd_ne' nmi).trans rm
     have ri':hadd h7 bi (.iter (some bm) 2 (done.map (fun e=>e.2.2) ++ [i]) 2) bi = _:=hadd_same
     refine W8 t0 t1 t4 t5 t6 t49 hfb rm ?_
     refine accept_ac A8.re x fun h9 A9=>?_
     have A9':=A8.back A9
     have S9:=S8.keep A9
     have r6:=A9.keep (Ne.symm n6) r6'
     have rm:=A9.keep (Ne.symm nm) rm'
     have ri:=A9.keep (Ne.symm ni) ri'
     cases e:r.isAt T [x]
     ·simp only [e,if_false,Bool.false_eq_true] at A9'
      refine W6 t0 t1 t4 t5 t6 t49 ?_
      refine ⟨(done ++ [(.str x,.str o2,i)],r1 ++ r2),by rw [hr]; simp,by rw [List.map_append]; exact H',fun e' he' k hk=>?_,A9',S9,r6,rm,by rw [List.map_append]; exact ri⟩
      rcases List.mem_append.1 he' with d | d
      ·exact hno e' d k hk
      ·simp only [List.mem_singleton] at d
       subst d
       simp only [V.str.injEq] at hk
       subst hk; exact e
     ·simp only [e,if_true] at A9'
      have f7:=step_fwd W g.ok
      have ey:y = (nodeM o2 [(catEM T U (r.step T)).1],(catEM T U (r.step T)).2):=by
       rw [← hyy]; unfold outTo
       rcases hmem with hm | hm
       ·cases hm; rw [if_pos e]
       ·cases hm; rw [if_neg (by rw [at_one e (by decide)]; decide),if_pos e]
      refine W6 t0 t1 t4 t5 t6 t49 ?_
      refine CC.run _ _ _ _ _ _ A9'.re f7.ok (lr.fwd f7) fun h10 v2 A10 k10=>?_
      generalize catEM T U (r.step T) = w at ey A10 k10
      obtain ⟨m,r3⟩:=w
      simp only at ey A10 k10
      subst ey
      obtain ⟨kv,rfl,kb⟩:=k10.inv
      have kf:=kb.flat
      have A10':=A9'.back A10
      have S10:=S9.keep A10
      have r6':=A10.keep (Ne.symm n6) r6
      have kg:KidsV g6 h10 p m.kids kv:=KidsV.move (fun x o z nx hx=>⟨by
       rw [show hset h9 p none x = h9 x from if_neg nx] at z
       exact G6' x (none_ne z ri).symm (none_ne z r6).symm (A9'.new z),hx⟩) kb
      refine W7 kf t0 t1 t4 t5 t6 t49 ?_
      intro bs hbs
      have n6s:=none_ne hbs r6'
      refine W7 kf t0 t1 t4 t5 t6 t49 ?_
      refine node_ac o2 (l:=[]) rfl ?_
      have ri10:=A10.keep (Ne.symm ni) ri
      have kr:KidsV g6 (hadd h10 bs (.cells (nodeC m kv) false)) p [m] (.sl bs 0 4 1) :=
       .sl (by simp) (G6' bs (none_ne hbs ri10).symm (Ne.symm n6s) (A10'.new hbs)) (Ne.symm (A10'.ne hbs)) hadd_same (CellsV.one (NodeV.of (kg.put hbs)))
      have A11:=(A10'.put (o:=.cells (nodeC m kv) false) hbs).over (o:=.cells (nodeC (nodeM o2 [m]) (.sl bs 0 4 1)) false) z6 (Ne.symm n6)
      have S11:SlAt g6 (hadd (hadd h10 bs (.cells (nodeC m kv) false)) b6 (.cells (nodeC (nodeM o2 [m]) (.sl bs 0 4 1)) false)) p l v:=SlAt.move (fun x o z nx hx=>⟨z,by rw [hadd_ne' (G6 _ z).2.1]; exact hx⟩) (S10.put (o:=.cells (nodeC m kv) false) hbs)
      have kr':KidsV g6 (hadd (hadd h10 bs (.cells (nodeC m kv) false)) b6 (.cells (nodeC (nodeM o2 [m]) (.sl bs 0 4 1)) false)) p [m] (.sl bs 0 4 1):=KidsV.move (fun x o z nx hx=>⟨z,by rw [hadd_ne' (G6 _ z).2.1]; exact hx⟩) kr
      refine W6 r6' t0 t1 t4 t5 t6 ?_
      exact ⟨A11,S11,.sl bs 0 4 1,rfl,kr'⟩
  ·rintro ex ⟨t,ds⟩ h7 ⟨rfl,hd,t0,t1,t4,t5,t6,A7,S7,ky,r6,kk⟩
   simp only at hd t0 t1 t4 t5 t6; subst hd
   have hp7:=A7.obj
   unfold psC at hp7
   have kf:=kk.flat
   have ll:=S7.ll
   refine W7 t0 t1 t4 t5 t6 hp7 ll ?_
   have A8:=A7.setF false
   have S8:SlAt g6 (hadd h7 p (.cells [.sl tb 0 3 T.length,.int .i64 y.2.i,.int .i64 y.2.deep,.bool false,.int .i64 y.2.err,.int .i64 y.2.bad] false)) p l v:=S7.set
   have k8:KidsV g6 (hadd h7 p (.cells [.sl tb 0 3 T.length,.int .i64 y.2.i,.int .i64 y.2.deep,.bool false,.int .i64 y.2.err,.int .i64 y.2.bad] false)) p y.1.kids ky:=KidsV.move (fun x o z nx hx=>⟨z,by rw [hadd_ne' nx]; exact hx⟩) kk
   have r8:hadd h7 p (.cells [.sl tb 0 3 T.length,.int .i64 y.2.i,.int .i64 y.2.deep,.bool false,.int .i64 y.2.err,.int .i64 y.2.bad] false) b6 = _:=(hadd_ne' (Ne.symm n6)).trans r6
   generalize hadd h7 p _ = h8 at A8 S8 k8 r8 ⊢
   refine goG_cut AC.mono (fun a' h'=>h' = h8 ∧ a'.d = [] ∧ a'.t 0 = .ptr p 0 ∧ a'.t 1 = .str op ∧ a'.t 4 = .ptr b8 0 ∧ a'.t 5 = v ∧ a'.t 6 = .ptr b6 0 ∧ a'.t 72 = .bool (decide (op = [112,114,105,110,116,102] ∧ l = []))) ?_ ?_
   ·by_cases c:op = [112,114,105,110,116,102]
    ·have c':(op = [112,114,105,110,116,102]) = True:=eq_true c
     by_cases el:l = []
     ·have:l.length = 0:=by rw [el]; rfl
      have d:decide (op = [112,114,105,110,116,102] ∧ l = []) = true:=decide_eq_true ⟨c,el⟩
      rw [d]
      exact W7 t0 t1 t4 t5 t6 ll c' trivial
     ·have:0 < l.length:=List.length_pos_iff.2 el
      have d:decide (op = [112,114,105,110,116,102] ∧ l = []) = false:=decide_eq_false fun x=>el x.2
      rw [d]
      exact W7 t0 t1 t4 t5 t6 ll c' trivial
    ·have c':(op = [112,114,105,110,116,102]) = False:=eq_false c
     have d:decide (op = [112,114,105,110,116,102] ∧ l = []) = false:=decide_eq_false fun x=>c x.1
     rw [d]
     exact W7 t0 t1 t4 t5 t6 ll c' trivial
   ·rintro ⟨t,ds⟩ h9 ⟨rfl,hd,t0,t1,t4,t5,t6,t72⟩
    simp only at hd t0 t1 t4 t5 t6 t72; subst hd
    generalize hE:outEnd T op l y.2 = rE at hq
    refine W1 t72 ?_
    refine goC_cut AC.mono (fun ex a' h'=>ex = .nm ∧ a'.d = [] ∧ a'.t 0 = .ptr p 0 ∧ a'.t 1 = .str op ∧ a'.t 4 = .ptr b8 0 ∧ a'.t 5 = v ∧ a'.t 6 = .ptr b6 0 ∧ PAt g0 h' p tb T rE ∧ SlAt g6 h' p l v ∧ KidsV g6 h' p y.1.kids ky ∧ h' b6 = some (.cells (nodeC y.1 ky) false)) ?_ ?_
    ·unfold outEnd at hE
     by_cases cE:op = [112,114,105,110,116,102] ∧ l = []
     ·rw [if_pos cE] at hE
      rw [decide_eq_true cE]
      refine W1 t0 ?_
      refine fail_ac A8.re fun h10 A9=>?_
      rw [hE] at A9
      refine W5 t0 t1 t4 t5 t6 ?_
      exact ⟨A8.back A9,S8.keep A9,k8.keep A9,A9.keep (Ne.symm n6) r8⟩
     ·rw [if_neg cE] at hE
      rw [decide_eq_false cE]
      subst hE
      refine W5 t0 t1 t4 t5 t6 ?_
      exact ⟨A8,S8,k8,r8⟩
    ·rintro ex ⟨t,ds⟩ h10 ⟨rfl,hd,t0,t1,t4,t5,t6,A9,S9,k9,r9⟩
     simp only at hd t0 t1 t4 t5 t6; subst hd
     refine W7 t0 t1 t4 t5 t6 r9 kf ?_
     intro bs hbs
     have n6s:=none_ne hbs r9
     have A10:=A9.put (o:=.cells (nodeC y.1 ky) false) hbs
     have zs:=A9.new hbs
     have h8s:h10 b8 = some (.cells Z4 false):=A9.sub _ _ g08
     have n8s:=none_ne hbs h8s
     rcases S9 with ⟨el,ev⟩ | ⟨b,cs,q1,q2,q3,q4,q5,q6⟩
     ·subst el
      refine W6 t0 t1 t4 t5 t6 ev ?_
      refine node_ac op (l:=[]) rfl ?_
      have kr:KidsV g0 (hadd h10 bs (.cells (nodeC y.1 ky) false)) p [y.1] (.sl bs 0 4 1) :=
       .sl (by simp) zs (Ne.symm (A9.ne hbs)) hadd_same (CellsV.one (NodeV.of (KidsV.move (fun x o z nx hx=>⟨(G6 _ z).2.2,by rw [hadd_ne' (none_ne hbs hx)]; exact hx⟩) k9)))
      have cz:∀ x,g0 x = none → x ≠ b8:=fun x hx e=>by rw [e,g08] at hx; cases hx
      have h0x:∀ x,g0 x = none → h0 x = none:=fun x hx=>by rw [hg0] at hx; exact (had_none hx).2
      refine W4 t0 t1 t4 h8s ?_
      exact ⟨_,Sub.refl,hq _ _ (((by rw [hg0] at A10; exact A10.less A1 z8:PAt h0 _ p tb T rE)).over z8 (Ne.symm n8)) (.mk (KidsV.move (fun x o z nx hx=>⟨h0x _ z,by rw [hadd_ne' (cz _ z)]; exact hx⟩) kr))⟩
     ·have nbs:=none_ne hbs q5
      have cl:=q6.len
      have tk:List.take (l.length * 4) cs = cs:=List.take_of_length_le (by omega)
      have lpos:0 < l.length:=List.length_pos_iff.2 q1
      refine W8 t0 t1 t4 t5 t6 q4 q5 cl ?_
      intro ba nab hba
      have hba':h10 ba = none:=by rw [hadd_ne' nab] at hba; exact hba
      have n8a:=none_ne hba' h8s
      refine W4 t0 t1 t4 tk ?_
      refine node_ac op (l:=[]) rfl ?_
      have A11:=(A10.lose zs (Ne.symm (A9.ne hbs))).put (o:=.cells (nodeC y.1 ky ++ cs) false) (b:=ba) (by unfold hset; rw [if_neg nab]; exact hba)
      have kr:KidsV g0 (hadd (hset (hadd h10 bs (.cells (nodeC y.1 ky) false)) bs none) ba (.cells (nodeC y.1 ky ++ cs) false)) p (y.1 :: l) (.sl ba 0 4 (y.1 :: l).length):=by
       have mv:∀ x o,x ≠ p → h10 x = some o → hadd (hset (hadd h10 bs (.cells (nodeC y.1 ky) false)) bs none) ba (.cells (nodeC y.1 ky ++ cs) false) x = some o:=fun x o nx hx=>by
        rw [hadd_ne' (none_ne hba' hx)]; show hset _ bs none x = _; unfold hset; rw [if_neg (none_ne hbs hx)]; show hadd h10 bs _ x = _; rw [hadd_ne' (none_ne hbs hx)]; exact hx
       exact .sl (by simp) (A9.new hba') (Ne.symm (A9.ne hba')) hadd_same ((CellsV.one (NodeV.of (KidsV.move (fun x o z nx hx=>⟨(G6 _ z).2.2,mv x o nx hx⟩) k9))).app (CellsV.move (fun x o z nx hx=>⟨(G6 _ (had_none z).2).2.2,mv x o nx hx⟩) q6))
      have cz:∀ x,g0 x = none → x ≠ b8:=fun x hx e=>by rw [e,g08] at hx; cases hx
      have h0x:∀ x,g0 x = none → h0 x = none:=fun x hx=>by rw [hg0] at hx; exact (had_none hx).2
      refine W4 t0 t1 t4 h8s ?_
      have e1:1 + l.length = (y.1 :: l).length:=by rw [List.length_cons]; omega
      rw [e1]
      exact ⟨_,Sub.refl,hq _ _ (((by rw [hg0] at A11; exact A11.less A1 z8:PAt h0 _ p tb T rE)).over z8 (Ne.symm n8)) (.mk (KidsV.move (fun x o z nx hx=>⟨h0x _ z,by rw [hadd_ne' (cz _ z)]; exact hx⟩) kr))⟩
end Go.Proofs.YtkfbldogmgofoaaGreatDoor
namespace Go.Proofs.YtkfbldogmgofoaaGreatDoor
open Mir
variable {h:H} {Q:V → H → Prop} {h0 h1 h':H} {p tb:Nat} {T:List Tokn} {s s':PS} {N n c m:Nat}
theorem simpleM_fwd (W:TkOk T N) {E U:PF} (he:∀ s,SOk T N s → lvl n c s → Fwd T N s (E s).2) (hea:∀ s,SOk T N s → lvl n c s → Adv s (E s).2) (hf:∀ s,SOk T N s → lvl n c s → Fwd T N s (catEM T U s).2) (hs:SOk T N s) (hl:lvl n c s):Fwd T N s (simpleM T E U s).2 ∧ Adv s (simpleM T E U s).2:=by
 have f1:=step_fwd W hs
 have l1:=hl.fwd f1
 unfold simpleM
 dsimp only
 split
 ·exact ⟨he _ hs hl,hea _ hs hl⟩
 have k7:(s.cur T).k ≠ 0:=by omega
 have a1:=step_adv W hs k7
 split
 ·exact ⟨f1,a1⟩
 split
 ·split
  ·exact ⟨f1,a1⟩
  ·exact ⟨f1.trans (he _ f1.ok l1),a1.left (he _ f1.ok l1)⟩
 split
 ·have g:=name_fwd W f1.ok [5]
  split
  ·have g1:=g.trans (step_fwd W g.ok)
   have g2:=g1.trans (insideM_fwd W he [93] g1.ok (l1.fwd g1))
   exact ⟨f1.trans g2,a1.left g2⟩
  ·exact ⟨f1.trans g,a1.left g⟩
 split
 ·have g:=outputM_fwd W he hf (s.cur T).t f1.ok l1
  exact ⟨f1.trans g,a1.left g⟩
 ·exact ⟨fail_fwd W hs,fun _=>.inr (fail_adv W hs)⟩
theorem simple_fc (W:TkOk T N) {M U:PF} (CE:FC T N n c 46 M) (CC:FC T N n c 106 (catEM T U)):FC T N n c 87 (simpleM T M U):=by
 refine ⟨fun h0 h p tb s Q A hs hl hq=>?_,fun s hs hl=>(simpleM_fwd W CE.fwd CE.adv CC.fwd hs hl).1,fun s hs hl=>(simpleM_fwd W CE.fwd CE.adv CC.fwd hs hl).2⟩
 unfold simpleM at hq
 dsimp only at hq
 have f1:=step_fwd W hs
 have l1:=hl.fwd f1
 refine AC.fn' (g:=g87) rfl (by simp only [List.length_cons,List.length_nil,g87]; decide) ?_; simp only [g87,Mir.Ab.all]
 refine W0 ?_
 intro b8 hb8
 have A1:=A.put (o:=.cells Z4 false) hb8
 have n8:=A.ne hb8
 have z8:=A.new hb8
 refine W0 ?_
 refine cur_ac A1 ?_
 obtain ⟨tt,ht⟩:∃ tt,tt = s.cur T:=⟨_,rfl⟩
 rw [← ht] at hq ⊢
 rw [tok3]
 refine W0 ?_
 intro b3 hb3
 have n3:=A1.ne hb3
 have n83:b8 ≠ b3:=fun e=>by rw [← e] at hb3; simp [hadd,hset] at hb3
 have A3:=A1.put (o:=.cells (tokC tt) false) hb3
 have r8:hadd (hadd h b8 (.cells Z4 false)) b3 (.cells (tokC tt) false) b8 = some (.cells Z4 false):=by rw [hadd_ne' n83]; exact hadd_same
 have r3:hadd (hadd h b8 (.cells Z4 false)) b3 (.cells (tokC tt) false) b3 = some (.cells (tokC tt) false):=hadd_same
 unfold tokC at A3 r8 r3
 unfold Z4 at A3 r8 r3
 refine W0 ?_
 generalize hadd (hadd h b8 _) b3 _ = h2 at A3 r8 r3 ⊢
 have fin:∀ (h7:H) (m:Tree) (s7:PS) (kv:V) (o:AObj),PAt h0 h7 p tb T s7 → KidsV (hadd h0 b8 (.cells Z4 false)) h7 p m.kids kv → (∀ h' v,PAt h0 h' p tb T s7 → NodeV h0 h' p m v → Q v h') → ∃ h3,Mir.Sub h3 (hadd h7 b8 o) ∧ Q (.agg (nodeC m kv)) h3:=fun h7 m s7 kv o B k hq' =>
  ⟨_,Sub.refl,hq' _ _ (B.over z8 (Ne.symm n8)) (NodeV.of (KidsV.move (fun x o z nx hx=>⟨(had_none z).2,by rw [hadd_ne' (had_none z).1]; exact hx⟩) k))⟩
 have bk:∀ {h5 h6:H} {s5:PS} {l:List Tree} {v:V},PAt h0 h5 p tb T s5 → h5 b8 = some (.cells Z4 false) → KidsV (hset h5 p none) h6 p l v → KidsV (hadd h0 b8 (.cells Z4 false)) h6 p l v:=fun {h5 h6 s5 l v} B hb k =>
  KidsV.move (fun x o z nx hx=>⟨by
   rw [show hset h5 p none x = h5 x from if_neg nx] at z
   rw [hadd_ne' (none_ne z hb).symm]; exact B.new z,hx⟩) k
 by_cases k7:tt.k ≠ 7
 ·rw [if_pos k7] at hq
  refine W1 r3 ?_
  refine CE.run _ _ _ _ _ _ A3.re hs hl fun h4 v A4 k4=>?_
  generalize M s = x at hq A4 k4
  obtain ⟨m,r⟩:=x
  simp only at hq A4 k4
  obtain ⟨kv,rfl,kb⟩:=k4.inv
  have kf:=kb.flat
  have A4':=A3.back A4
  have r8':=A4.keep (Ne.symm n8) r8
  refine W1 kf ?_
  intro bs hbs
  have n8s:=none_ne hbs r8'
  refine W1 kf ?_
  refine node_ac [101,120,112,114] (l:=[]) rfl ?_
  have kr:=row1 A4' r8' hbs (bk A3 r8 kb)
  have A5:=A4'.put (o:=.cells (nodeC m kv) false) hbs
  refine W1 r8' ?_
  exact fin _ (nodeM [101,120,112,114] [m]) _ _ _ A5 kr hq
 rw [if_neg k7] at hq
 have k7:tt.k = 7:=by omega
 refine W1 r3 ?_
 by_cases c1:tt.t = [98,114,101,97,107]
 ·have d1:(tt.t = [98,114,101,97,107]) = True:=eq_true c1
  rw [if_pos (.inl c1)] at hq
  refine W1 d1 ?_
  refine step_ac A3.re fun h3 A4=>?_
  have r3:=A4.keep (Ne.symm n3) r3
  have r8:=A4.keep (Ne.symm n8) r8
  refine W2 r3 r8 ?_
  exact fin _ (.nd tt.t [] tt.a []) _ _ _ (A3.back A4) .nil hq
 have d1:(tt.t = [98,114,101,97,107]) = False:=eq_false c1
 by_cases c2:tt.t = [99,111,110,116,105,110,117,101]
 ·have d2:(tt.t = [99,111,110,116,105,110,117,101]) = True:=eq_true c2
  rw [if_pos (.inr (.inl c2))] at hq
  refine W2 d1 d2 ?_
  refine step_ac A3.re fun h3 A4=>?_
  have r3:=A4.keep (Ne.symm n3) r3
  have r8:=A4.keep (Ne.symm n8) r8
  refine W2 r3 r8 ?_
  exact fin _ (.nd tt.t [] tt.a []) _ _ _ (A3.back A4) .nil hq
 have d2:(tt.t = [99,111,110,116,105,110,117,101]) = False:=eq_false c2
 by_cases c3:tt.t = [110,101,120,116]
 ·have d3:(tt.t = [110,101,120,116]) = True:=eq_true c3
  rw [if_pos (.inr (.inr c3))] at hq
  refine W3 d1 d2 d3 ?_
  refine step_ac A3.re fun h3 A4=>?_
  have r3:=A4.keep (Ne.symm n3) r3
  have r8:=A4.keep (Ne.symm n8) r8
  refine W2 r3 r8 ?_
  exact fin _ (.nd tt.t [] tt.a []) _ _ _ (A3.back A4) .nil hq
 have d3:(tt.t = [110,101,120,116]) = False:=eq_false c3
 by_cases c4:tt.t = [101,120,105,116]
 ·have d4:(tt.t = [101,120,105,116]) = True:=eq_true c4
  rw [if_neg (by simp only [d1,d2,d3]; simp),if_pos (.inl c4)] at hq
  refine W4 d1 d2 d3 d4 ?_
  refine step_ac A3.re fun h3 A4=>?_
  have A4':=A3.back A4
  have r3:=A4.keep (Ne.symm n3) r3
  have r8:=A4.keep (Ne.symm n8) r8
  refine W2 r3 r8 ?_
  intro b4 hb4
  have n84:=none_ne hb4 r8
  have n4:=A4'.ne hb4
  have z4:=A4'.new hb4
  have A5:=A4'.put (o:=.cells (nodeC (.nd tt.t [] tt.a []) .nilsl) false) hb4
  have r8:hadd h3 b4 (.cells (nodeC (.nd tt.t [] tt.a []) .nilsl) false) b8 = _:=(hadd_ne' n84).trans r8
  have r4:hadd h3 b4 (.cells (nodeC (.nd tt.t [] tt.a []) .nilsl) false) b4 = _:=hadd_same
  unfold nodeC Tree.op Tree.text Tree.at' at A5 r8 r4
  refine W0 ?_
  generalize hadd h3 b4 _ = h4 at A5 r8 r4 ⊢
  refine over_ac A5 ?_
  cases eo:(s.step T).over T
  ·simp only [eo,if_false,Bool.false_eq_true] at hq
   refine W0 ?_
   refine CE.run _ _ _ _ _ _ A5.re f1.ok l1 fun h5 v A6 k6=>?_
   generalize M (s.step T) = x at hq A6 k6
   obtain ⟨m,r⟩:=x
   simp only at hq A6 k6
   obtain ⟨kv,rfl,kb⟩:=k6.inv
   have kf:=kb.flat
   have A6':=A5.back A6
   have r8':=A6.keep (Ne.symm n8) r8
   have r4':=A6.keep (Ne.symm n4) r4
   refine W1 kf ?_
   intro bs hbs
   have n8s:=none_ne hbs r8'
   have n4s:=none_ne hbs r4'
   have kr:=row1 A6' r8' hbs (bk A5 r8 kb)
   have A7:=(A6'.put (o:=.cells (nodeC m kv) false) hbs).over (o:=.cells (nodeC (.nd tt.t [] tt.a [m]) (.sl bs 0 4 1)) false) z4 (Ne.symm n4)
   have kr':KidsV (hadd h0 b8 (.cells Z4 false)) (hadd (hadd h5 bs (.cells (nodeC m kv) false)) b4 (.cells (nodeC (.nd tt.t [] tt.a [m]) (.sl bs 0 4 1)) false)) p [m] (.sl bs 0 4 1):=by
    refine .sl (by simp) (by rw [hadd_ne' (none_ne hbs r8').symm]; exact A6'.new hbs) (Ne.symm (A6'.ne hbs)) (by rw [hadd_ne' (Ne.symm n4s)]; exact hadd_same) (CellsV.one (NodeV.of (KidsV.move (fun x o z nx hx=>⟨by
     rw [show hset h4 p none x = h4 x from if_neg nx] at z
     rw [hadd_ne' (none_ne z r8).symm]; exact A5.new z,?_⟩) kb)))
    rw [show hset h4 p none x = h4 x from if_neg nx] at z
    rw [hadd_ne' (none_ne z r4).symm,hadd_ne' (none_ne hbs hx)]; exact hx
   refine W3 r8' r4' kf ?_
   exact fin _ (.nd tt.t [] tt.a [m]) _ _ _ A7 kr' hq
  ·simp only [eo,if_true] at hq
   refine W2 r4 r8 ?_
   exact fin _ (.nd tt.t [] tt.a []) _ _ _ A5 .nil hq
 have d4:(tt.t = [101,120,105,116]) = False:=eq_false c4
 by_cases c5:tt.t = [114,101,116,117,114,110]
 ·have d5:(tt.t = [114,101,116,117,114,110]) = True:=eq_true c5
  rw [if_neg (by simp only [d1,d2,d3]; simp),if_pos (.inr c5)] at hq
  refine W5 d1 d2 d3 d4 d5 ?_
  refine step_ac A3.re fun h3 A4=>?_
  have A4':=A3.back A4
  have r3:=A4.keep (Ne.symm n3) r3
  have r8:=A4.keep (Ne.symm n8) r8
  refine W2 r3 r8 ?_
  intro b4 hb4
  have n84:=none_ne hb4 r8
  have n4:=A4'.ne hb4
  have z4:=A4'.new hb4
  have A5:=A4'.put (o:=.cells (nodeC (.nd tt.t [] tt.a []) .nilsl) false) hb4
  have r8:hadd h3 b4 (.cells (nodeC (.nd tt.t [] tt.a []) .nilsl) false) b8 = _:=(hadd_ne' n84).trans r8
  have r4:hadd h3 b4 (.cells (nodeC (.nd tt.t [] tt.a []) .nilsl) false) b4 = _:=hadd_same
  unfold nodeC Tree.op Tree.text Tree.at' at A5 r8 r4
  refine W0 ?_
  generalize hadd h3 b4 _ = h4 at A5 r8 r4 ⊢
  refine over_ac A5 ?_
  cases eo:(s.step T).over T
  ·simp only [eo,if_false,Bool.false_eq_true] at hq
   refine W0 ?_
   refine CE.run _ _ _ _ _ _ A5.re f1.ok l1 fun h5 v A6 k6=>?_
   generalize M (s.step T) = x at hq A6 k6
   obtain ⟨m,r⟩:=x
   simp only at hq A6 k6
   obtain ⟨kv,rfl,kb⟩:=k6.inv
   have kf:=kb.flat
   have A6':=A5.back A6
   have r8':=A6.keep (Ne.symm n8) r8
   have r4':=A6.keep (Ne.symm n4) r4
   refine W1 kf ?_
   intro bs hbs
   have n8s:=none_ne hbs r8'
   have n4s:=none_ne hbs r4'
   have kr:=row1 A6' r8' hbs (bk A5 r8 kb)
   have A7:=(A6'.put (o:=.cells (nodeC m kv) false) hbs).over (o:=.cells (nodeC (.nd tt.t [] tt.a [m]) (.sl bs 0 4 1)) false) z4 (Ne.symm n4)
   have kr':KidsV (hadd h0 b8 (.cells Z4 false)) (hadd (hadd h5 bs (.cells (nodeC m kv) false)) b4 (.cells (nodeC (.nd tt.t [] tt.a [m]) (.sl bs 0 4 1)) false)) p [m] (.sl bs 0 4 1):=by
    refine .sl (by simp) (by rw [hadd_ne' (none_ne hbs r8').symm]; exact A6'.new hbs) (Ne.symm (A6'.ne hbs)) (by rw [hadd_ne' (Ne.symm n4s)]; exact hadd_same) (CellsV.one (NodeV.of (KidsV.move (fun x o z nx hx=>⟨by
     rw [show hset h4 p none x = h4 x from if_neg nx] at z
     rw [hadd_ne' (none_ne z r8).symm]; exact A5.new z,?_⟩) kb)))
    rw [show hset h4 p none x = h4 x from if_neg nx] at z
    rw [hadd_ne' (none_ne z r4).symm,hadd_ne' (none_ne hbs hx)]; exact hx
   refine W3 r8' r4' kf ?_
   exact fin _ (.nd tt.t [] tt.a [m]) _ _ _ A7 kr' hq
  ·simp only [eo,if_true] at hq
   refine W2 r4 r8 ?_
   exact fin _ (.nd tt.t [] tt.a []) _ _ _ A5 .nil hq
 have d5:(tt.t = [114,101,116,117,114,110]) = False:=eq_false c5
 by_cases c6:tt.t = [100,101,108,101,116,101]
 ·have d6:(tt.t = [100,101,108,101,116,101]) = True:=eq_true c6
  rw [if_neg (by simp only [d1,d2,d3]; simp),if_neg (by simp only [d4,d5]; simp),if_pos c6] at hq
  refine W6 d1 d2 d3 d4 d5 d6 ?_
  refine step_ac A3.re fun h3 A4=>?_
  have A4':=A3.back A4
  have r8:=A4.keep (Ne.symm n8) r8
  refine W0 ?_
  intro b1 hb1
  have n81:=none_ne hb1 r8
  have A5:=A4'.put (o:=.cells [.int .i64 5] false) hb1
  have r8:hadd h3 b1 (.cells [.int .i64 5] false) b8 = _:=(hadd_ne' n81).trans r8
  refine W0 ?_
  refine name_ac (ks:=[5]) A5.re hadd_same (by decide) fun h4 A6=>?_
  have A6':=A5.back A6
  have r8:=A6.keep (Ne.symm n8) r8
  have g:=name_fwd W f1.ok [5]
  generalize PS.name T (s.step T) [5] = x at hq A6 A6' g
  obtain ⟨nt,r⟩:=x
  simp only at hq A6 A6' g
  rw [tok3]
  refine W0 ?_
  intro b5 hb5
  have n85:=none_ne hb5 r8
  have n5:=A6'.ne hb5
  have A7:=A6'.put (o:=.cells (tokC nt) false) hb5
  have r8:hadd h4 b5 (.cells (tokC nt) false) b8 = _:=(hadd_ne' n85).trans r8
  have r5:hadd h4 b5 (.cells (tokC nt) false) b5 = _:=hadd_same
  unfold tokC at A7 r8 r5
  refine W0 ?_
  generalize hadd h4 b5 _ = h5 at A7 r8 r5 ⊢
  refine accept_ac A7.re [91] fun h6 A8=>?_
  have A8':=A7.back A8
  have r8:=A8.keep (Ne.symm n8) r8
  have r5:=A8.keep (Ne.symm n5) r5
  cases e:r.isAt T [[91]]
  ·simp only [e,if_false,Bool.false_eq_true] at hq A8'
   refine W1 r5 ?_
   refine leaf_ac [110,97,109,101] nt rfl ?_
   refine W0 ?_
   intro bs hbs
   have n8s:=none_ne hbs r8
   refine W0 ?_
   refine node_ac [100,101,108,101,116,101] (l:=[]) rfl ?_
   have kr:=row1 A8' r8 hbs (m:=leafM [110,97,109,101] nt []) (kv:=.nilsl) .nil
   have A9:=A8'.put (o:=.cells (nodeC (leafM [110,97,109,101] nt []) .nilsl) false) hbs
   refine W1 r8 ?_
   exact fin _ (nodeM [100,101,108,101,116,101] [leafM [110,97,109,101] nt []]) _ _ _ A9 kr hq
  ·simp only [e,if_true] at hq A8'
   have g1:=g.trans (step_fwd W g.ok)
   refine W1 r5 ?_
   refine inside_ac W CE [93] A8'.re g1.ok (l1.fwd g1) fun h7 v A9 k9=>?_
   generalize insideM T M [93] (r.step T) = x at hq A9 k9
   obtain ⟨m,r2⟩:=x
   simp only at hq A9 k9
   obtain ⟨kv,rfl,kb⟩:=k9.inv
   have kf:=kb.flat
   have A9':=A8'.back A9
   have kg:=bk A8' r8 kb
   have r8':=A9.keep (Ne.symm n8) r8
   have r5':=A9.keep (Ne.symm n5) r5
   refine W2 r5' kf ?_
   intro bs hbs
   have n8s:=none_ne hbs r8'
   have n5s:=none_ne hbs r5'
   have kr:=row1 A9' r8' hbs kg
   have A10:=A9'.put (o:=.cells (nodeC m kv) false) hbs
   have u8:hadd h7 bs (.cells (nodeC m kv) false) b8 = _:=(hadd_ne' n8s).trans r8'
   refine W2 r5' kf ?_
   refine leaf_ac [105,110,100,101,120] nt rfl ?_
   refine W2 r5' kf ?_
   intro bt hbt
   have n8t:=none_ne hbt u8
   have kr2:=row1 A10 u8 hbt (m:=leafM [105,110,100,101,120] nt [m]) kr
   have A11:=A10.put (o:=.cells (nodeC (leafM [105,110,100,101,120] nt [m]) (.sl bs 0 4 1)) false) hbt
   refine W0 ?_
   refine node_ac [100,101,108,101,116,101] (l:=[]) rfl ?_
   refine W1 r8' ?_
   exact fin _ (nodeM [100,101,108,101,116,101] [leafM [105,110,100,101,120] nt [m]]) _ _ _ A11 kr2 hq
 have d6:(tt.t = [100,101,108,101,116,101]) = False:=eq_false c6
 by_cases c7:tt.t = [112,114,105,110,116]
 ·have d7:(tt.t = [112,114,105,110,116]) = True:=eq_true c7
  rw [if_neg (by simp only [d1,d2,d3]; simp),if_neg (by simp only [d4,d5]; simp),if_neg (by simp only [d6]; simp),if_pos (.inl c7)] at hq
  refine W7 d1 d2 d3 d4 d5 d6 d7 ?_
  refine step_ac A3.re fun h3 A4=>?_
  have A4':=A3.back A4
  have r3:=A4.keep (Ne.symm n3) r3
  have r8:=A4.keep (Ne.symm n8) r8
  refine W1 r3 ?_
  refine output_ac W CE CC tt.t A4'.re f1.ok l1 fun h5 v A5 k5=>?_
  generalize outputM T M U tt.t (s.step T) = x at hq A5 k5
  obtain ⟨m,r⟩:=x
  simp only at hq A5 k5
  obtain ⟨kv,rfl,kb⟩:=k5.inv
  have kf:=kb.flat
  have r8':=A5.keep (Ne.symm n8) r8
  refine W2 r8' kf ?_
  exact fin _ m _ _ _ (A4'.back A5) (bk A4' r8 kb) hq
 have d7:(tt.t = [112,114,105,110,116]) = False:=eq_false c7
 by_cases c8:tt.t = [112,114,105,110,116,102]
 ·have d8:(tt.t = [112,114,105,110,116,102]) = True:=eq_true c8
  rw [if_neg (by simp only [d1,d2,d3]; simp),if_neg (by simp only [d4,d5]; simp),if_neg (by simp only [d6]; simp),if_pos (.inr c8)] at hq
  refine W8 d1 d2 d3 d4 d5 d6 d7 d8 ?_
  refine step_ac A3.re fun h3 A4=>?_
  have A4':=A3.back A4
  have r3:=A4.keep (Ne.symm n3) r3
  have r8:=A4.keep (Ne.symm n8) r8
  refine W1 r3 ?_
  refine output_ac W CE CC tt.t A4'.re f1.ok l1 fun h5 v A5 k5=>?_
  generalize outputM T M U tt.t (s.step T) = x at hq A5 k5
  obtain ⟨m,r⟩:=x
  simp only at hq A5 k5
  obtain ⟨kv,rfl,kb⟩:=k5.inv
  have kf:=kb.flat
  have r8':=A5.keep (Ne.symm n8) r8
  refine W2 r8' kf ?_
  exact fin _ m _ _ _ (A4'.back A5) (bk A4' r8 kb) hq
 have d8:(tt.t = [112,114,105,110,116,102]) = False:=eq_false c8
 rw [if_neg (by simp only [d1,d2,d3]; simp),if_neg (by simp only [d4,d5]; simp),if_neg (by simp only [d6]; simp),if_neg (by simp only [d7,d8]; simp)] at hq
 refine W8 d1 d2 d3 d4 d5 d6 d7 d8 ?_
 refine fail_ac A3.re fun h5 A7=>?_
 have r8:=A7.keep (Ne.symm n8) r8
 refine W1 r8 ?_
 exact fin _ .zero _ _ _ (A3.back A7) .nil hq
end Go.Proofs.YtkfbldogmgofoaaGreatDoor
namespace Go.Proofs.YtkfbldogmgofoaaGreatDoor
open Mir
variable {h:H} {Q:V → H → Prop} {h0 h1 h':H} {p tb:Nat} {T:List Tokn} {s s':PS} {N n c m:Nat}
theorem body_fc (W:TkOk T N) {S:PF} (CS:FC T N n c 69 S):FC T N n c 85 (bodyM T S):=by
 refine ⟨fun h0 h p tb s Q A hs hl hq=>?_,fun s hs hl=>?_,fun s hs hl=>?_⟩
 ·unfold bodyM at hq
  have f1:=lines_fwd W hs
  refine AC.fn' (g:=g85) rfl (by simp only [List.length_cons,List.length_nil,g85]; decide) ?_; simp only [g85,Mir.Ab.all]
  refine W0 ?_
  intro b8 hb8
  have A1:=A.put (o:=.cells Z4 false) hb8
  have n8:=A.ne hb8
  have z8:=A.new hb8
  refine W0 ?_
  refine lines_ac A1.re W.last fun h2 A2=>?_
  have A2':=A1.back A2
  have r8:=A2.keep (Ne.symm n8) (b:=b8) (o:=.cells Z4 false) hadd_same
  refine W0 ?_
  refine CS.run _ _ _ _ _ _ A2'.re f1.ok (hl.fwd f1) fun h3 v A3 k3=>?_
  generalize S (s.lines T) = x at hq A3 k3
  obtain ⟨kv,rfl,kb⟩:=k3.inv
  have kf:=kb.flat
  have r8':=A3.keep (Ne.symm n8) r8
  obtain ⟨A4,k4⟩:=ret_node A2' A3 r8 (Ne.symm n8) z8 k3 (.cells (nodeC x.1 kv) false)
  refine W2 r8' kf ?_
  exact ⟨_,Sub.refl,hq _ _ A4 k4⟩
 ·have f1:=lines_fwd W hs
  exact f1.trans (CS.fwd _ f1.ok (hl.fwd f1))
 ·have f1:=lines_fwd W hs
  exact Adv.right f1 (CS.adv _ f1.ok (hl.fwd f1)) (CS.fwd _ f1.ok (hl.fwd f1))
theorem SlAt.new {g:H} (hz:∀ x,h x = none → g x = none) {b:Nat} (hn:h b = none) (nb:b ≠ p) {l:List Tree} {cs:List V} (hl:l ≠ []) (k:CellsV g h p l cs):SlAt g (hadd h b (.cells cs false)) p l (.sl b 0 4 l.length) :=
 .inr ⟨b,cs,hl,hz _ hn,nb,rfl,hadd_same,CellsV.move (fun x o z nx hx=>⟨by rw [hadd_ne' (none_ne hn hx)]; exact z,by rw [hadd_ne' (none_ne hn hx)]; exact hx⟩) k⟩
theorem choiceM_fwd (W:TkOk T N) {E S:PF} (he:∀ s,SOk T N s → lvl n c s → Fwd T N s (E s).2) (hf:∀ s,SOk T N s → lvl n c s → Fwd T N s (bodyM T S s).2) (hs:SOk T N s) (hl:lvl n c s):Fwd T N s (choiceM T E S s).2:=by
 have f1:=expect_fwd W hs [40]
 have f2:=f1.trans (insideM_fwd W he [41] f1.ok (hl.fwd f1))
 have f3:=f2.trans (hf _ f2.ok (hl.fwd f2))
 unfold choiceM
 dsimp only
 generalize bodyM T S (insideM T E [41] (s.expect T [40])).2 = y at f3
 have f4:=lines_fwd W f3.ok
 have f5:Fwd T N y.2 (if (y.2.lines T).isAt T [[59]] = true then ((y.2.lines T).step T).lines T else y.2.lines T):=by
  split
  ·have f5:=f4.trans (step_fwd W f4.ok)
   exact f5.trans (lines_fwd W f5.ok)
  ·exact f4
 generalize (if (y.2.lines T).isAt T [[59]] = true then ((y.2.lines T).step T).lines T else y.2.lines T) = s2 at f5
 split
 ·have f6:=f5.trans (step_fwd W f5.ok)
  have f7:=f6.trans (hf _ f6.ok ((hl.fwd f3).fwd f6))
  exact f3.trans f7
 ·split
  ·rename_i e
   refine f3.trans ⟨Nat.le_refl _,f5.deep,fun h=>absurd (f5.err e) h,⟨f3.ok.lt,f5.ok.code,f5.ok.bad,f5.ok.low⟩⟩
  ·exact f3.trans f5
theorem choice_ac (W:TkOk T N) {M S:PF} (CE:FC T N n c 46 M) (CB:FC T N n c 85 (bodyM T S)) (A:PAt h0 h p tb T s) (hs:SOk T N s) (hl:lvl n c s)
  (hq:∀ h' v,PAt h0 h' p tb T (choiceM T M S s).2 → NodeV h0 h' p (choiceM T M S s).1 v → Q v h'):AC pg (.fn 83) [.ptr p 0] h Q:=by
 have f1:=expect_fwd W hs [40]
 unfold choiceM at hq
 dsimp only at hq
 refine AC.fn' (g:=g83) rfl (by simp only [List.length_cons,List.length_nil,g83]; decide) ?_; simp only [g83,Mir.Ab.all]
 refine W0 ?_
 intro b8 hb8
 have n8:=A.ne hb8
 have z8:=A.new hb8
 obtain ⟨g0,hg0⟩:∃ g0:H,g0 = hadd h0 b8 (.cells Z4 false):=⟨_,rfl⟩
 have g08:g0 b8 = some (.cells Z4 false):=by rw [hg0]; exact hadd_same
 have A0:=A.put (o:=.cells Z4 false) hb8
 have A1:PAt g0 (hadd h b8 (.cells Z4 false)) p tb T s:=by rw [hg0]; exact A0.more hadd_same (Ne.symm n8) z8
 unfold Z4 at A1
 refine W0 ?_
 generalize hadd h b8 _ = h2 at A1 ⊢
 have fin:∀ (h7:H) (m:Tree) (s7:PS) (kv:V) (o:AObj),PAt g0 h7 p tb T s7 → KidsV g0 h7 p m.kids kv → (∀ h' v,PAt h0 h' p tb T s7 → NodeV h0 h' p m v → Q v h') → ∃ h3,Mir.Sub h3 (hadd h7 b8 o) ∧ Q (.agg (nodeC m kv)) h3:=fun h7 m s7 kv o B k hq'=>by
  rw [hg0] at B k
  exact ⟨_,Sub.refl,hq' _ _ ((B.less A z8).over z8 (Ne.symm n8)) (NodeV.of (KidsV.move (fun x o z nx hx=>⟨(had_none z).2,by rw [hadd_ne' (had_none z).1]; exact hx⟩) k))⟩
 refine expect_ac A1 [40] fun h3 A2=>?_
 refine W0 ?_
 refine inside_ac W CE [41] A2.re f1.ok (hl.fwd f1) fun h4 v A3 k3=>?_
 have f2:=f1.trans (insideM_fwd W CE.fwd [41] f1.ok (hl.fwd f1))
 generalize insideM T M [41] (s.expect T [40]) = x at hq A3 k3 f2
 obtain ⟨m1,r1⟩:=x
 simp only at hq A3 k3 f2
 obtain ⟨kv1,rfl,kb1⟩:=k3.inv
 have kf1:=kb1.flat
 have A3':=A2.back A3
 have k1:=NodeV.back A2 k3
 refine W0 ?_
 refine CB.run _ _ _ _ _ _ A3'.re f2.ok (hl.fwd f2) fun h5 v A4 k4=>?_
 have f3:=f2.trans (CB.fwd _ f2.ok (hl.fwd f2))
 generalize bodyM T S r1 = y at hq A4 k4 f3
 obtain ⟨m2,r2⟩:=y
 simp only at hq A4 k4 f3
 obtain ⟨kv2,rfl,kb2⟩:=k4.inv
 have kf2:=kb2.flat
 have A4':=A3'.back A4
 have k2:=NodeV.back A3' k4
 have k1:=k1.keep A4
 refine W2 kf1 kf2 ?_
 intro b11 hb11
 have S5:SlAt g0 (hadd h5 b11 (.cells (nodeC m1 kv1 ++ nodeC m2 kv2) false)) p [m1,m2] (.sl b11 0 4 2):=SlAt.new (g:=g0) (h:=h5) (fun x hx=>A4'.new hx) hb11 (Ne.symm (A4'.ne hb11)) (l:=[m1,m2]) (by simp) ((CellsV.one k1).app (CellsV.one k2))
 have A5:=A4'.put (o:=.cells (nodeC m1 kv1 ++ nodeC m2 kv2) false) hb11
 refine W0 ?_
 refine node_ac [105,102] (l:=[]) rfl ?_
 refine W0 ?_
 intro b3 hb3
 have n3:=A5.ne hb3
 have z3:=A5.new hb3
 have A6:=A5.put (o:=.cells [.str [105,102],.str [],.int .i64 0,.sl b11 0 4 2] false) hb3
 obtain ⟨g3,hg3⟩:∃ g3:H,g3 = hadd g0 b3 (.cells [.str [105,102],.str [],.int .i64 0,.sl b11 0 4 2] false):=⟨_,rfl⟩
 have g33:g3 b3 = some (.cells [.str [105,102],.str [],.int .i64 0,.sl b11 0 4 2] false):=by rw [hg3]; exact hadd_same
 have A6g:PAt g3 (hadd (hadd h5 b11 (.cells (nodeC m1 kv1 ++ nodeC m2 kv2) false)) b3 (.cells [.str [105,102],.str [],.int .i64 0,.sl b11 0 4 2] false)) p tb T r2:=by rw [hg3]; exact A6.more hadd_same (Ne.symm n3) z3
 have S6:SlAt g3 (hadd (hadd h5 b11 (.cells (nodeC m1 kv1 ++ nodeC m2 kv2) false)) b3 (.cells [.str [105,102],.str [],.int .i64 0,.sl b11 0 4 2] false)) p [m1,m2] (.sl b11 0 4 2):=by
  rw [hg3]
  exact SlAt.move (fun x o z nx hx=>⟨by rw [hadd_ne' (none_ne hb3 hx)]; exact z,by rw [hadd_ne' (none_ne hb3 hx)]; exact hx⟩) S5
 have hp4:=A4'.obj
 unfold psC at hp4
 have n11:=A4'.ne hb11
 refine W1 hp4 ?_
 obtain ⟨s2,hs2⟩:∃ s2,s2 = if (r2.lines T).isAt T [[59]] = true then ((r2.lines T).step T).lines T else r2.lines T:=⟨_,rfl⟩
 rw [← hs2] at hq
 have f4:=lines_fwd W f3.ok
 have f5:Fwd T N r2 s2:=by
  rw [hs2]; split
  ·have f5:=f4.trans (step_fwd W f4.ok)
   exact f5.trans (lines_fwd W f5.ok)
  ·exact f4
 refine lines_ac A6g.re W.last fun h7 A7=>?_
 have S7:=S6.keep A7
 have A7:=A6g.back A7
 refine W0 ?_
 refine accept_ac A7.re [59] fun h8 A8=>?_
 have A8':=A7.back A8
 have S8:=S7.keep A8
 refine W0 ?_
 refine goC_cut AC.mono (fun ex a' h'=>ex = .nm ∧ a'.d = [] ∧ a'.t 0 = .ptr p 0 ∧ a'.t 2 = .ptr b8 0 ∧ a'.t 3 = .ptr b3 0 ∧ a'.t 4 = .int .i64 r2.i ∧ PAt g3 h' p tb T s2 ∧ SlAt g3 h' p [m1,m2] (.sl b11 0 4 2)) ?_ ?_
 ·cases e:(r2.lines T).isAt T [[59]]
  ·simp only [e,if_false,Bool.false_eq_true] at hs2 A8'
   subst hs2
   refine W0 ?_
   exact ⟨A8',S8⟩
  ·simp only [e,if_true] at hs2 A8'
   subst hs2
   refine W0 ?_
   refine lines_ac A8'.re W.last fun h9 A9=>?_
   refine W0 ?_
   exact ⟨A8'.back A9,S8.keep A9⟩
 ·rintro ex ⟨t,ds⟩ h9 ⟨rfl,hd,t0,t2,t3,t4,A9,S9⟩
  simp only at hd t0 t2 t3 t4; subst hd
  refine W4 t0 t2 t3 t4 ?_
  refine accept_ac A9.re [101,108,115,101] fun h10 A10=>?_
  have A10':=A9.back A10
  have S10:=S9.keep A10
  have r3:=A10'.sub _ _ g33
  have h8:h10 b8 = some (.cells Z4 false):=by
   refine A10'.sub _ _ ?_
   rw [hg3,hadd_ne' (fun e=>by rw [← e,g08] at z3; cases z3)]; exact g08
  cases e:s2.isAt T [[101,108,115,101]]
  ·simp only [e,if_false,Bool.false_eq_true] at hq A10'
   have hp10:=A10'.obj
   unfold psC at hp10
   have fin2:∀ (h11:H) (s7:PS),PAt g3 h11 p tb T s7 → SlAt g3 h11 p [m1,m2] (.sl b11 0 4 2) → (∀ h' v,PAt h0 h' p tb T s7 → NodeV h0 h' p (nodeM [105,102] [m1,m2]) v → Q v h') → ∃ h3,Mir.Sub h3 (hadd h11 b8 (.cells (nodeC (nodeM [105,102] [m1,m2]) (.sl b11 0 4 2)) false)) ∧ Q (.agg (nodeC (nodeM [105,102] [m1,m2]) (.sl b11 0 4 2))) h3:=fun h11 s7 B S hq'=>by
    rw [hg3] at B S
    exact fin _ (nodeM [105,102] [m1,m2]) _ _ _ (B.less A1 z3) (KidsV.move (fun x o z nx hx=>⟨(had_none z).2,hx⟩) S.kids) hq'
   by_cases e0:s2.err = 0
   ·rw [if_pos e0] at hq
    have A11:=A10'.set { s2 with i:=r2.i } f3.ok.lt A10'.deep
    have S11:SlAt g3 (hadd h10 p (.cells (psC tb T.length { s2 with i:=r2.i }) false)) p [m1,m2] (.sl b11 0 4 2):=S10.set
    unfold psC at A11 S11
    have n3p:=n3
    refine W7 t0 t2 t3 t4 hp10 r3 h8 ?_
    exact fin2 _ _ A11 S11 hq
   ·rw [if_neg e0] at hq
    refine W7 t0 t2 t3 t4 hp10 r3 h8 ?_
    exact fin2 _ _ A10' S10 hq
  ·simp only [e,if_true] at hq A10'
   have f6:=f5.trans (step_fwd W f5.ok)
   refine W5 t0 t2 t3 t4 r3 ?_
   refine CB.run _ _ _ _ _ _ A10'.re f6.ok ((hl.fwd f3).fwd f6) fun h11 v A11 k11=>?_
   generalize bodyM T S (s2.step T) = z at hq A11 k11
   obtain ⟨m3,r3s⟩:=z
   simp only at hq A11 k11
   obtain ⟨kv3,rfl,kb3⟩:=k11.inv
   have kf3:=kb3.flat
   have A11':=A10'.back A11
   have S11:=S10.keep A11
   rcases S11 with ⟨e,_⟩ | ⟨b,cs,q1,q2,q3,q4,q5,q6⟩
   ·cases e
   cases q4
   have cl:=q6.len
   have kt:=CellsV.off A10' (b:=b11) (o:=.cells cs false) (by
    rcases S10 with ⟨e,_⟩ | ⟨b,cs',w1,w2,w3,w4,w5,w6⟩
    ·cases e
    ·cases w4
     have:=A11.keep w3 w5
     rw [q5] at this; cases this; exact w5) (CellsV.one k11)
   have r3':=A11'.sub _ _ g33
   have h8':h11 b8 = some (.cells Z4 false):=by
    refine A11'.sub _ _ ?_
    rw [hg3,hadd_ne' (fun e=>by rw [← e,g08] at z3; cases z3)]; exact g08
   refine W6 t0 t2 t3 t4 kf3 r3' ?_
   intro bn hbn
   have nbn:=none_ne hbn q5
   have n3n:=none_ne hbn r3'
   have n8n:=none_ne hbn h8'
   have tk:List.take 8 cs = cs:=List.take_of_length_le (by simp only [List.length_cons,List.length_nil] at cl; omega)
   simp only [List.length_cons,List.length_nil] at cl
   refine W7 t0 t2 t3 t4 q5 cl r3' ?_
   intro ba nab hba
   have hba':h11 ba = none:=by
    have n:ba ≠ bn:=fun e=>by rw [e,hadd_same] at hba; cases hba
    rw [hadd_ne' n] at hba; exact hba
   have n3a:=none_ne hba' r3'
   have n8a:=none_ne hba' h8'
   have nb3:b11 ≠ b3:=fun e=>by rw [e,g33] at q2; cases q2
   have nb8:b11 ≠ b8:=fun e=>by rw [e,hg3,hadd_ne' (fun e=>by rw [← e,g08] at z3; cases z3),g08] at q2; cases q2
   have n83:b8 ≠ b3:=fun e=>by rw [← e,g08] at z3; cases z3
   have S12:=SlAt.more A11' (o:=.cells (nodeC m3 kv3) false) q1 q6 hbn nab hba kt
   have A12:=((A11'.put (o:=.cells (nodeC m3 kv3) false) hbn).lose q2 q3).put (o:=.cells (cs ++ nodeC m3 kv3) false) (by unfold hset; rw [if_neg nab]; exact hba)
   rw [hg3] at A12 S12
   have A13:=(A12.less A1 z3).over (o:=.cells [.str [105,102],.str [],.int .i64 0,.sl ba 0 4 3] false) z3 (Ne.symm n3)
   have k13:KidsV g0 (hadd (hadd (hset (hadd h11 bn (.cells (nodeC m3 kv3) false)) b11 none) ba (.cells (cs ++ nodeC m3 kv3) false)) b3 (.cells [.str [105,102],.str [],.int .i64 0,.sl ba 0 4 3] false)) p [m1,m2,m3] (.sl ba 0 4 3) :=
    KidsV.move (fun x o z nx hx=>⟨(had_none z).2,by rw [hadd_ne' (had_none z).1]; exact hx⟩) S12.kids
   refine W7 t0 t2 t3 t4 tk r3' h8' ?_
   exact fin _ (nodeM [105,102] [m1,m2,m3]) _ _ _ A13 k13 hq
end Go.Proofs.YtkfbldogmgofoaaGreatDoor
namespace Go.Proofs.YtkfbldogmgofoaaGreatDoor
open Mir
variable {h:H} {Q:V → H → Prop} {h0 h1 h':H} {p tb:Nat} {T:List Tokn} {s s':PS} {N n c m:Nat}
theorem skipN_fwd (W:TkOk T N):∀ (k:Nat) {s:PS},SOk T N s → Fwd T N s (skipN T k s)
 | 0,_,hs=>Fwd.refl hs
 | k + 1,s,hs=>by
   unfold skipN; split
   ·exact (step_fwd W hs).trans (skipN_fwd W k (step_fwd W hs).ok)
   ·exact Fwd.refl hs
theorem skip_fwd (W:TkOk T N) (hs:SOk T N s):Fwd T N s (s.skip T):=skipN_fwd W _ hs
theorem blockN_fwd (W:TkOk T N) {S:PF} (hf:∀ s,SOk T N s → lvl n c s → Fwd T N s (S s).2):∀ (k:Nat) {l:List Tree} {s:PS},SOk T N s → lvl n c s → Fwd T N s (blockN T S k l s).2
 | 0,_,_,hs,_=>Fwd.refl hs
 | k + 1,l,s,hs,hl=>by
   unfold blockN
   have f1:=skip_fwd W hs
   dsimp only
   split
   ·split
    ·exact f1.trans (step_fwd W f1.ok)
    ·have f2:=f1.trans (hf _ f1.ok (hl.fwd f1))
     exact f2.trans (blockN_fwd W hf k f2.ok (hl.fwd f2))
   ·exact Fwd.refl hs
theorem blockM_fwd (W:TkOk T N) {S:PF} (hf:∀ s,SOk T N s → lvl n c s → Fwd T N s (S s).2) (hs:SOk T N s) (hl:lvl n c s):Fwd T N s (blockM T S s).2 ∧ Adv s (blockM T S s).2:=by
 have f1:=expect_fwd W hs [123]
 have f2:=blockN_fwd W hf (T.length + 1) (l:=[]) f1.ok (hl.fwd f1)
 exact ⟨f1.trans f2,(expect_adv W hs [123]).left f2⟩
theorem SlAt.first' {g:H} (hz:∀ x,h x = none → g x = none) (hp:∀ x,h x = none → x ≠ p) {bn ba:Nat} {o:AObj} {t:Tree} {ds:List V} (hn:h bn = none) (ha:hadd h bn o ba = none) (k:CellsV g h p [t] ds) :
  SlAt g (hadd (hadd h bn o) ba (.cells ds false)) p [t] (.sl ba 0 4 1):=by
 have na:ba ≠ bn:=fun e=>by rw [e] at ha; simp [hadd,hset] at ha
 have ha':h ba = none:=by rw [hadd_ne' na] at ha; exact ha
 exact .inr ⟨ba,ds,by simp,hz _ ha',hp _ ha',rfl,hadd_same,CellsV.move (fun x o' z nx hx=>⟨by rw [hadd_ne' (none_ne ha' hx)]; exact z,by rw [hadd_ne' (none_ne ha' hx),hadd_ne' (none_ne hn hx)]; exact hx⟩) k⟩
theorem SlAt.more' {g:H} (hz:∀ x,h x = none → g x = none) (hp:∀ x,h x = none → x ≠ p) {b bn ba:Nat} {o:AObj} {l:List Tree} {t:Tree} {cs ds:List V} (hl:l ≠ []) (k:CellsV (hadd g b (.cells [] false)) h p l cs) (hn:h bn = none) (nab:ba ≠ b) (ha:hadd h bn o ba = none) (kt:CellsV (hadd g b (.cells [] false)) h p [t] ds) :
  SlAt g (hadd (hset (hadd h bn o) b none) ba (.cells (cs ++ ds) false)) p (l ++ [t]) (.sl ba 0 4 (l.length + 1)):=by
 have na:ba ≠ bn:=fun e=>by rw [e] at ha; simp [hadd,hset] at ha
 have ha':h ba = none:=by rw [hadd_ne' na] at ha; exact ha
 exact .inr ⟨ba,_,by simp,hz _ ha',hp _ ha',by simp,hadd_same,CellsV.move (fun x o' z nx hx=>⟨by rw [hadd_ne' (none_ne ha' hx)]; exact (had_none z).2,by
  rw [hadd_ne' (none_ne ha' hx)]; show hset _ b none x = _; unfold hset; rw [if_neg (had_none z).1]; show hadd h bn o x = _; rw [hadd_ne' (none_ne hn hx)]; exact hx⟩) (k.app kt)⟩
theorem block_fc (W:TkOk T N) {S:PF} (CS:FC T N n c 69 S):FC T N n c 41 (blockM T S):=by
 refine ⟨fun h0 h p tb s Q A hs hl hq=>?_,fun s hs hl=>(blockM_fwd W CS.fwd hs hl).1,fun s hs hl=>(blockM_fwd W CS.fwd hs hl).2⟩
 unfold blockM at hq
 have f1:=expect_fwd W hs [123]
 have l1:=hl.fwd f1
 generalize hx:blockN T S (T.length + 1) [] (s.expect T [123]) = x at hq
 refine AC.fn' (g:=g41) rfl (by simp only [List.length_cons,List.length_nil,g41]; decide) ?_; simp only [g41,Mir.Ab.all]
 refine W0 ?_
 intro b8 hb8
 have n8:=A.ne hb8
 have z8:=A.new hb8
 have A1:=A.put (o:=.cells Z4 false) hb8
 refine W0 ?_
 refine node_ac [98,108,111,99,107] (l:=[]) rfl ?_
 refine W0 ?_
 intro b3 hb3
 have n3:=A1.ne hb3
 have z3:=A1.new hb3
 have n83:b8 ≠ b3:=fun e=>by rw [← e,hadd_same] at hb3; cases hb3
 have A2:=A1.put (o:=.cells [.str [98,108,111,99,107],.str [],.int .i64 0,.nilsl] false) hb3
 have r8:hadd (hadd h b8 (.cells Z4 false)) b3 (.cells [.str [98,108,111,99,107],.str [],.int .i64 0,.nilsl] false) b8 = some (.cells Z4 false):=by rw [hadd_ne' n83]; exact hadd_same
 refine W0 ?_
 refine expect_ac A2.re [123] fun h3 A3=>?_
 have A3':=A2.back A3
 have r8:=A3.keep (Ne.symm n8) r8
 have r3:=A3.keep (Ne.symm n3) (b:=b3) (o:=.cells [.str [98,108,111,99,107],.str [],.int .i64 0,.nilsl] false) hadd_same
 obtain ⟨g,hg⟩:∃ g:H,g = gg h0 b8 b3:=⟨_,rfl⟩
 have G0:∀ y,g y = none → y ≠ b3 ∧ y ≠ b8 ∧ h0 y = none:=fun y hy=>by rw [hg] at hy; exact gg_none hy
 have G1:∀ y,y ≠ b3 → y ≠ b8 → h0 y = none → g y = none:=fun y a b c=>by rw [hg]; exact gg_of a b c
 refine W0 ?_
 refine E.cut AC.mono (fun ex a' h'=>ex = .exit 0 ∧ a'.d = [] ∧ a'.t 0 = .ptr p 0 ∧ a'.t 2 = .ptr b8 0 ∧ a'.t 3 = .ptr b3 0 ∧ PAt h0 h' p tb T x.2 ∧ h' b8 = some (.cells Z4 false) ∧ ∃ v,h' b3 = some (.cells [.str [98,108,111,99,107],.str [],.int .i64 0,v] false) ∧ SlAt g h' p x.1 v) ?_ ?_
 ·refine E.loopX AC.mono (fun (y:Nat × List Tree × PS) a' h'=>blockN T S y.1 y.2.1 y.2.2 = x ∧ (y.2.2.err = 0 → T.length < y.2.2.i + y.1 ∧ y.2.1.length ≤ y.2.2.i) ∧ SOk T N y.2.2 ∧ lvl n c y.2.2 ∧ PAt h0 h' p tb T y.2.2 ∧ h' b8 = some (.cells Z4 false) ∧ (∃ v,h' b3 = some (.cells [.str [98,108,111,99,107],.str [],.int .i64 0,v] false) ∧ SlAt g h' p y.2.1 v) ∧ a'.d = [] ∧ a'.t 0 = .ptr p 0 ∧ a'.t 2 = .ptr b8 0 ∧ a'.t 3 = .ptr b3 0) (fun y=>y.1) (T.length + 1,[],s.expect T [123]) ?_ ?_
  ·exact ⟨hx,fun _=>⟨by show T.length < (s.expect T [123]).i + (T.length + 1); omega,Nat.zero_le _⟩,f1.ok,l1,A3',r8,⟨.nilsl,r3,.inl ⟨rfl,rfl⟩⟩,rfl,rfl,rfl,rfl⟩
  ·rintro ⟨k,l,r⟩ ⟨t,ds⟩ h4 ⟨hk,hr,sr,lr,A4,r8,⟨v,r3,S4⟩,hd,t0,t2,t3⟩
   simp only at hk hr sr lr A4 S4 hd t0 t2 t3; subst hd
   have hp4:=A4.obj
   unfold psC at hp4
   have hlt:=A4.lt
   have sm:=A4.small
   by_cases e0:r.err = 0
   ·obtain ⟨hr1,hr2⟩:=hr e0
    obtain ⟨k,rfl⟩:∃ k',k = k' + 1:=⟨k - 1,by omega⟩
    rw [blockN,if_pos e0] at hk
    dsimp only at hk
    have fs:=skip_fwd W sr
    refine W4 t0 t2 t3 hp4 ?_
    refine E.cut AC.mono (fun ex a' h'=>ex = .exit 2 ∧ a'.d = [] ∧ a'.t 0 = .ptr p 0 ∧ a'.t 2 = .ptr b8 0 ∧ a'.t 3 = .ptr b3 0 ∧ PAt h0 h' p tb T (r.skip T) ∧ h' b8 = some (.cells Z4 false) ∧ h' b3 = some (.cells [.str [98,108,111,99,107],.str [],.int .i64 0,v] false) ∧ SlAt g h' p l v) ?_ ?_
    ·refine E.loopX AC.mono (fun (y:Nat × PS) a' h'=>skipN T y.1 y.2 = r.skip T ∧ (y.2.err = 0 → T.length ≤ y.2.i + y.1) ∧ SOk T N y.2 ∧ PAt h0 h' p tb T y.2 ∧ h' b8 = some (.cells Z4 false) ∧ h' b3 = some (.cells [.str [98,108,111,99,107],.str [],.int .i64 0,v] false) ∧ SlAt g h' p l v ∧ a'.d = [] ∧ a'.t 0 = .ptr p 0 ∧ a'.t 2 = .ptr b8 0 ∧ a'.t 3 = .ptr b3 0) (fun y=>y.1) (T.length,r) ?_ ?_
     ·exact ⟨rfl,fun _=>by show T.length ≤ r.i + T.length; omega,sr,A4,r8,r3,S4,rfl,t0,t2,t3⟩
     ·rintro ⟨k2,q⟩ ⟨t,ds⟩ h5 ⟨hk2,hq2,sq,A5,r8,r3,S5,hd,t0,t2,t3⟩
      simp only at hk2 hq2 sq A5 hd t0 t2 t3; subst hd
      refine W3 t0 t2 t3 ?_
      intro b1 hb1
      have n81:=none_ne hb1 r8
      have n31:=none_ne hb1 r3
      have A6:=A5.put (o:=.cells [.str [59]] false) hb1
      have S6:=S5.put (o:=.cells [.str [59]] false) hb1
      have r8':hadd h5 b1 (.cells [.str [59]] false) b8 = _:=(hadd_ne' n81).trans r8
      have r3':hadd h5 b1 (.cells [.str [59]] false) b3 = _:=(hadd_ne' n31).trans r3
      refine W3 t0 t2 t3 ?_
      refine at_ac (ss:=[[59]]) A6 hadd_same (by decide) ?_
      have go:q.isAt T [[59]] = true ∨ (q.cur T).k = 1 → ∀ h6,PAt (hset (hadd h5 b1 (.cells [.str [59]] false)) p none) h6 p tb T (q.step T) → ∃ x':Nat × PS,x'.1 < k2 ∧ skipN T x'.1 x'.2 = r.skip T ∧ (x'.2.err = 0 → T.length ≤ x'.2.i + x'.1) ∧ SOk T N x'.2 ∧ PAt h0 h6 p tb T x'.2 ∧ h6 b8 = some (.cells Z4 false) ∧ h6 b3 = some (.cells [.str [98,108,111,99,107],.str [],.int .i64 0,v] false) ∧ SlAt g h6 p l v:=fun hc h6 A7=>by
       have ek:(q.cur T).k ≠ 0:=by rcases hc with e | e; (rcases at_k e with e | e <;> omega); omega
       have eq0:=cur_err ek
       have nl:=not_last W ek sq
       obtain ⟨k3,rfl⟩:∃ k',k2 = k' + 1:=⟨k2 - 1,by have:=hq2 eq0; have:=sq.lt; omega⟩
       rw [skipN,if_pos hc] at hk2
       refine ⟨(k3,q.step T),by show k3 < k3 + 1; omega,hk2,fun e=>?_,(step_fwd W sq).ok,A6.back A7,A7.keep (Ne.symm n8) r8',A7.keep (Ne.symm n3) r3',S6.keep A7⟩
       have:=hq2 eq0
       show T.length ≤ (q.step T).i + k3
       rw [show q.step T = { q with i:=q.i + 1 } from by unfold PS.step; rw [if_pos ⟨eq0,nl⟩]]
       show T.length ≤ q.i + 1 + k3
       omega
      cases ea:q.isAt T [[59]]
      ·refine W3 t0 t2 t3 ?_
       refine cur_ac A6 ?_
       rw [tok3]
       by_cases k1:(q.cur T).k = 1
       ·refine W3 t0 t2 t3 ?_
        refine step_ac A6.re fun h6 A7=>?_
        refine W3 t0 t2 t3 ?_
        exact go (.inr k1) _ A7
       ·have:q = r.skip T:=by
         rw [← hk2]; cases k2 with
         | zero=>rfl
         | succ k2=>rw [skipN,if_neg (by simp [ea,k1])]
        subst this
        refine W3 t0 t2 t3 ?_
        exact ⟨A6,r8,r3,S6⟩
      ·refine W3 t0 t2 t3 ?_
       refine step_ac A6.re fun h6 A7=>?_
       refine W3 t0 t2 t3 ?_
       exact go (.inl ea) _ A7
    ·rintro ex ⟨t,ds⟩ h5 ⟨rfl,hd,t0,t2,t3,A5,r8,r3,S5⟩
     simp only at hd t0 t2 t3; subst hd
     refine W3 t0 t2 t3 ?_
     refine accept_ac A5.re [125] fun h6 A6=>?_
     have A6':=A5.back A6
     have r8:=A6.keep (Ne.symm n8) r8
     have r3:=A6.keep (Ne.symm n3) r3
     have S6:=S5.keep A6
     cases ec:(r.skip T).isAt T [[125]]
     case true =>
      simp only [ec,if_true] at hk A6'
      rw [← hk]
      refine W3 t0 t2 t3 ?_
      exact ⟨A6',r8,v,r3,S6⟩
     simp only [ec,if_false,Bool.false_eq_true] at hk A6'
     have vf:=S6.kids.flat
     refine W4 t0 t2 t3 r3 ?_
     refine CS.run _ _ _ _ _ _ A6'.re fs.ok (lr.fwd fs) fun h7 w A7 k7=>?_
     have g2:=fs.trans (CS.fwd _ fs.ok (lr.fwd fs))
     have a2:=Adv.right fs (CS.adv _ fs.ok (lr.fwd fs)) (CS.fwd _ fs.ok (lr.fwd fs))
     generalize S (r.skip T) = y at hk A7 k7 g2 a2
     obtain ⟨m,r2⟩:=y
     simp only at hk A7 k7 g2 a2
     obtain ⟨kv,rfl,kb⟩:=k7.inv
     have kf:=kb.flat
     have A7':=A6'.back A7
     have S7:=S6.keep A7
     have r8':=A7.keep (Ne.symm n8) r8
     have r3':=A7.keep (Ne.symm n3) r3
     have kc:∀ (P:Nat → Prop),(∀ y,(h6 y = none) → P y) → True:=fun _ _=>trivial
     have bnd:r2.err = 0 → T.length < r2.i + k ∧ (l ++ [m]).length ≤ r2.i:=fun e1=>by
      rw [List.length_append]
      show _ ∧ l.length + 1 ≤ _
      rcases a2 e0 with d | d
      ·omega
      ·exact absurd e1 d
     have hz:∀ y,h7 y = none → g y = none:=fun y hy=>G1 y (none_ne hy r3').symm (none_ne hy r8').symm (A7'.new hy)
     have hpz:∀ y,h7 y = none → y ≠ p:=fun y hy=>Ne.symm (A7'.ne hy)
     refine W6 t0 t2 t3 kf r3' vf ?_
     intro bn hbn
     have n3n:=none_ne hbn r3'
     have n8n:=none_ne hbn r8'
     rcases S7 with ⟨el,ev⟩ | ⟨b,cs,q1,q2,q3,q4,q5,q6⟩
     ·subst el
      refine W5 t0 t2 t3 ev r3' ?_
      intro ba hba
      have hba':h7 ba = none:=by
       have n:ba ≠ bn:=fun e=>by rw [e,hadd_same] at hba; cases hba
       rw [hadd_ne' n] at hba; exact hba
      have n3a:=none_ne hba' r3'
      have n8a:=none_ne hba' r8'
      have kt:CellsV g h7 p [m] (nodeC m kv):=CellsV.move (fun y o z nx hy=>⟨by
       rw [show hset h6 p none y = h6 y from if_neg nx] at z
       exact G1 y (none_ne z r3).symm (none_ne z r8).symm (A6'.new z),hy⟩) (CellsV.one k7)
      have S8:=SlAt.first' (o:=.cells (nodeC m kv) false) hz hpz hbn hba kt
      have A8:=((A7'.put (o:=.cells (nodeC m kv) false) hbn).put (o:=.cells (nodeC m kv) false) hba).over (o:=.cells [.str [98,108,111,99,107],.str [],.int .i64 0,.sl ba 0 4 1] false) z3 (Ne.symm n3)
      have S9:SlAt g (hadd (hadd (hadd h7 bn (.cells (nodeC m kv) false)) ba (.cells (nodeC m kv) false)) b3 (.cells [.str [98,108,111,99,107],.str [],.int .i64 0,.sl ba 0 4 1] false)) p [m] (.sl ba 0 4 1) :=
       SlAt.move (fun y o z nx hy=>⟨z,by rw [hadd_ne' (G0 _ z).1]; exact hy⟩) S8
      refine W5 t0 t2 t3 ev r3' ?_
      refine ⟨(k,[m],r2),by show k < k + 1; omega,hk,bnd,g2.ok,lr.fwd g2,A8,r8',.sl ba 0 4 1,rfl,S9⟩
     ·have cl:=q6.len
      have nbn:=none_ne hbn q5
      have tk:List.take (l.length * 4) cs = cs:=List.take_of_length_le (by omega)
      have nb3:=(G0 _ q2).1
      have nb8:=(G0 _ q2).2.1
      refine W7 t0 t2 t3 q4 q5 cl r3' ?_
      intro ba nab hba
      have hba':h7 ba = none:=by
       have n:ba ≠ bn:=fun e=>by rw [e,hadd_same] at hba; cases hba
       rw [hadd_ne' n] at hba; exact hba
      have n3a:=none_ne hba' r3'
      have n8a:=none_ne hba' r8'
      have hb6:∃ o,h6 b = some o:=by
       rcases S6 with ⟨e,ev⟩ | ⟨b',cs',w1,w2,w3,w4,w5,w6⟩
       ·rw [ev] at q4; cases q4
       ·rw [w4] at q4; cases q4; exact ⟨_,w5⟩
      obtain ⟨ob,hb6⟩:=hb6
      have kt:CellsV (hadd g b (.cells [] false)) h7 p [m] (nodeC m kv):=CellsV.move (fun y o z nx hy=>⟨by
       rw [show hset h6 p none y = h6 y from if_neg nx] at z
       rw [hadd_ne' (none_ne z hb6).symm]
       exact G1 y (none_ne z r3).symm (none_ne z r8).symm (A6'.new z),hy⟩) (CellsV.one k7)
      have S8:=SlAt.more' (o:=.cells (nodeC m kv) false) hz hpz q1 q6 hbn nab hba kt
      have A8:=(((A7'.put (o:=.cells (nodeC m kv) false) hbn).lose (G0 _ q2).2.2 q3).put (o:=.cells (cs ++ nodeC m kv) false) (b:=ba) (by unfold hset; rw [if_neg nab]; exact hba)).over (o:=.cells [.str [98,108,111,99,107],.str [],.int .i64 0,.sl ba 0 4 (l.length + 1)] false) z3 (Ne.symm n3)
      have S9:SlAt g (hadd (hadd (hset (hadd h7 bn (.cells (nodeC m kv) false)) b none) ba (.cells (cs ++ nodeC m kv) false)) b3 (.cells [.str [98,108,111,99,107],.str [],.int .i64 0,.sl ba 0 4 (l.length + 1)] false)) p (l ++ [m]) (.sl ba 0 4 (l.length + 1)) :=
       SlAt.move (fun y o z nx hy=>⟨z,by rw [hadd_ne' (G0 _ z).1]; exact hy⟩) S8
      refine W6 t0 t2 t3 q4 r3' tk ?_
      refine ⟨(k,l ++ [m],r2),by show k < k + 1; omega,hk,bnd,g2.ok,lr.fwd g2,A8,r8',.sl ba 0 4 (l.length + 1),rfl,S9⟩
   ·have fin:(l,r) = x:=by
     rw [← hk]; cases k with
     | zero=>rfl
     | succ k=>rw [blockN,if_neg e0]
    rw [← fin]
    refine W4 t0 t2 t3 hp4 ?_
    exact ⟨A4,r8,v,r3,S4⟩
 ·rintro ex ⟨t,ds⟩ h4 ⟨rfl,hd,t0,t2,t3,A4,r8,v,r3,S4⟩
  simp only at hd t0 t2 t3; subst hd
  have vf:=S4.kids.flat
  refine W6 t0 t2 t3 r3 r8 vf ?_
  exact ⟨_,Sub.refl,hq _ _ (A4.over z8 (Ne.symm n8)) (NodeV.of (t:=nodeM [98,108,111,99,107] x.1) (KidsV.move (fun y o z nx hy=>⟨(G0 _ z).2.2,by rw [hadd_ne' (G0 _ z).2.1]; exact hy⟩) S4.kids))⟩
end Go.Proofs.YtkfbldogmgofoaaGreatDoor
