import Derived.Test.YtkfbldogmgofoaaGreatDoorK9
set_option linter.unusedSimpArgs false
set_option linter.unusedVariables false
namespace Go.Proofs.YtkfbldogmgofoaaGreatDoor
open Mir
variable {h:H} {Q:V → H → Prop} {h0 h1 h':H} {p tb:Nat} {T:List Tokn} {s s':PS} {N n c m:Nat}
def forIn (T:List Tokn) (s1:PS):Prop:=(s1.cur T).k = 5 ∧ (s1.ahead T 1).k = 7 ∧ (s1.ahead T 1).t = [105,110] ∧ (s1.ahead T 2).k = 5 ∧ (s1.ahead T 3).k = 8 ∧ (s1.ahead T 3).t = [41]
instance (T:List Tokn) (s1:PS):Decidable (forIn T s1):=inferInstanceAs (Decidable (_ ∧ _))
def forA (T:List Tokn) (F:PF) (e:Txt) (s1:PS):Tree × PS:=if s1.isAt T [e] = true then (nodeM [110,111,110,101] [],s1) else F s1
theorem loopM_eq (E U S:PF) (s:PS):loopM T E U S s =
  if forIn T (s.expect T [40]) then
   (leafM [102,111,114,105,110] (PS.name T (s.expect T [40]) [5]).1 [leafM [110,97,109,101] (PS.name T ((PS.name T (s.expect T [40]) [5]).2.step T) [5]).1 [],(bodyM T S ((PS.name T ((PS.name T (s.expect T [40]) [5]).2.step T) [5]).2.step T)).1],
    (bodyM T S ((PS.name T ((PS.name T (s.expect T [40]) [5]).2.step T) [5]).2.step T)).2)
  else
   let a:=forA T (simpleM T E U) [59] (s.expect T [40])
   let b:=forA T E [59] ((a.2.expect T [59]).lines T)
   let c:=forA T (simpleM T E U) [41] ((b.2.expect T [59]).lines T)
   let z:=bodyM T S (c.2.expect T [41])
   (nodeM [102,111,114] [a.1,b.1,c.1,z.1],z.2):=by
 unfold loopM forA forIn
 rfl
theorem forA_fwd {F:PF} (hf:∀ s,SOk T N s → lvl n c s → Fwd T N s (F s).2) (e:Txt) (hs:SOk T N s) (hl:lvl n c s):Fwd T N s (forA T F e s).2:=by
 unfold forA; split
 ·exact Fwd.refl hs
 ·exact hf _ hs hl
theorem loopM_fwd (W:TkOk T N) {E U S:PF} (he:∀ s,SOk T N s → lvl n c s → Fwd T N s (E s).2) (hsi:∀ s,SOk T N s → lvl n c s → Fwd T N s (simpleM T E U s).2) (hf:∀ s,SOk T N s → lvl n c s → Fwd T N s (bodyM T S s).2) (hs:SOk T N s) (hl:lvl n c s):Fwd T N s (loopM T E U S s).2:=by
 rw [loopM_eq]
 have f1:=expect_fwd W hs [40]
 split
 ·have f2:=f1.trans (name_fwd W f1.ok [5])
  have f3:=f2.trans (step_fwd W f2.ok)
  have f4:=f3.trans (name_fwd W f3.ok [5])
  have f5:=f4.trans (step_fwd W f4.ok)
  exact f5.trans (hf _ f5.ok (hl.fwd f5))
 ·dsimp only
  have f2:=f1.trans (forA_fwd hsi [59] f1.ok (hl.fwd f1))
  have f3:=f2.trans (expect_fwd W f2.ok [59])
  have f4:=f3.trans (lines_fwd W f3.ok)
  have f5:=f4.trans (forA_fwd he [59] f4.ok (hl.fwd f4))
  have f6:=f5.trans (expect_fwd W f5.ok [59])
  have f7:=f6.trans (lines_fwd W f6.ok)
  have f8:=f7.trans (forA_fwd hsi [41] f7.ok (hl.fwd f7))
  have f9:=f8.trans (expect_fwd W f8.ok [41])
  exact f9.trans (hf _ f9.ok (hl.fwd f9))
theorem loop_ac (W:TkOk T N) {M U S:PF} (CE:FC T N n c 46 M) (CI:FC T N n c 87 (simpleM T M U)) (CB:FC T N n c 85 (bodyM T S)) (A:PAt h0 h p tb T s) (hs:SOk T N s) (hl:lvl n c s)
  (hq:∀ h' v,PAt h0 h' p tb T (loopM T M U S s).2 → NodeV h0 h' p (loopM T M U S s).1 v → Q v h'):AC pg (.fn 86) [.ptr p 0] h Q:=by
 have f1:=expect_fwd W hs [40]
 rw [loopM_eq] at hq
 refine AC.fn' (g:=g86) rfl (by simp only [List.length_cons,List.length_nil,g86]; decide) ?_; simp only [g86,Mir.Ab.all]
 refine W0 ?_
 intro b8 hb8
 have n8:=A.ne hb8
 have z8:=A.new hb8
 have A1:=A.put (o:=.cells Z4 false) hb8
 refine W0 ?_
 refine expect_ac A1.re [40] fun h3 A3=>?_
 have A3':=A1.back A3
 have r8:=A3.keep (Ne.symm n8) (b:=b8) (o:=.cells Z4 false) hadd_same
 obtain ⟨s1,hs1⟩:∃ s1,s1 = s.expect T [40]:=⟨_,rfl⟩
 rw [← hs1] at hq f1 A3'
 have l1:=hl.fwd f1
 refine W0 ?_
 refine ahead_ac A3' 3 (by decide) ?_
 rw [tok3]
 refine W0 ?_
 intro b3 hb3
 have n83:=none_ne hb3 r8
 have A4:=A3'.put (o:=.cells [.int .i64 (s1.ahead T 3).k,.str (s1.ahead T 3).t,.int .i64 (s1.ahead T 3).a] false) hb3
 have r8':hadd h3 b3 (.cells [.int .i64 (s1.ahead T 3).k,.str (s1.ahead T 3).t,.int .i64 (s1.ahead T 3).a] false) b8 = _:=(hadd_ne' n83).trans r8
 have r3:hadd h3 b3 (.cells [.int .i64 (s1.ahead T 3).k,.str (s1.ahead T 3).t,.int .i64 (s1.ahead T 3).a] false) b3 = _:=hadd_same
 refine W0 ?_
 generalize hadd h3 b3 _ = h4 at A4 r8' r3 ⊢
 refine cur_ac A4 ?_
 rw [tok3]
 refine W0 ?_
 refine goG_cut AC.mono (fun a' h'=>h' = h4 ∧ a'.d = [] ∧ a'.t 0 = .ptr p 0 ∧ a'.t 2 = .ptr b8 0 ∧ a'.t 42 = .bool (decide (forIn T s1))) ?_ ?_
 ·have F:∀ q,¬ q → (forIn T s1 → q) → decide (forIn T s1) = false:=fun q a b=>decide_eq_false fun x=>a (b x)
  by_cases c1:(s1.cur T).k = 5
  ·refine W0 ?_
   refine ahead_ac A4 1 (by decide) ?_
   rw [tok3]
   by_cases c2:(s1.ahead T 1).k = 7
   ·refine W0 ?_
    refine ahead_ac A4 1 (by decide) ?_
    rw [tok3]
    by_cases c3:(s1.ahead T 1).t = [105,110]
    ·have c3':((s1.ahead T 1).t = [105,110]) = True:=eq_true c3
     refine W1 c3' ?_
     refine ahead_ac A4 2 (by decide) ?_
     rw [tok3]
     by_cases c4:(s1.ahead T 2).k = 5
     ·by_cases c5:(s1.ahead T 3).k = 8
      ·by_cases c6:(s1.ahead T 3).t = [41]
       ·have c6':((s1.ahead T 3).t = [41]) = True:=eq_true c6
        rw [show decide (forIn T s1) = true from decide_eq_true ⟨c1,c2,c3,c4,c5,c6⟩]
        exact W2 r3 c6' trivial
       ·have c6':((s1.ahead T 3).t = [41]) = False:=eq_false c6
        rw [F _ c6 fun x=>x.2.2.2.2.2]
        exact W2 r3 c6' trivial
      ·rw [F _ c5 fun x=>x.2.2.2.2.1]
       exact W1 r3 trivial
     ·rw [F _ c4 fun x=>x.2.2.2.1]
      exact W1 r3 trivial
    ·have c3':((s1.ahead T 1).t = [105,110]) = False:=eq_false c3
     rw [F _ c3 fun x=>x.2.2.1]
     exact W1 c3' trivial
   ·rw [F _ c2 fun x=>x.2.1]
    exact W0 trivial
  ·rw [F _ c1 fun x=>x.1]
   exact W0 trivial
 ·rintro ⟨t,ds⟩ h5 ⟨rfl,hd,t0,t2,t42⟩
  simp only at hd t0 t2 t42; subst hd
  have bk:∀ {h5 h6:H} {s5:PS} {l:List Tree} {v:V},PAt h0 h5 p tb T s5 → h5 b8 = some (.cells Z4 false) → KidsV (hset h5 p none) h6 p l v → KidsV (hadd h0 b8 (.cells Z4 false)) h6 p l v:=fun {h5 h6 s5 l v} B hb k =>
   KidsV.move (fun x o z nx hx=>⟨by
    rw [show hset h5 p none x = h5 x from if_neg nx] at z
    rw [hadd_ne' (none_ne z hb).symm]; exact B.new z,hx⟩) k
  have fin:∀ (h7:H) (m:Tree) (s7:PS) (kv:V) (o:AObj),PAt h0 h7 p tb T s7 → KidsV (hadd h0 b8 (.cells Z4 false)) h7 p m.kids kv → (∀ h' v,PAt h0 h' p tb T s7 → NodeV h0 h' p m v → Q v h') → ∃ h3,Mir.Sub h3 (hadd h7 b8 o) ∧ Q (.agg (nodeC m kv)) h3:=fun h7 m s7 kv o B k hq' =>
   ⟨_,Sub.refl,hq' _ _ (B.over z8 (Ne.symm n8)) (NodeV.of (KidsV.move (fun x o z nx hx=>⟨(had_none z).2,by rw [hadd_ne' (had_none z).1]; exact hx⟩) k))⟩
  by_cases cf:forIn T s1
  ·rw [if_pos cf] at hq
   rw [decide_eq_true cf] at t42
   refine W3 t0 t2 t42 ?_
   intro b1 hb1
   have n81:=none_ne hb1 r8'
   have A5:=A4.put (o:=.cells [.int .i64 5] false) hb1
   have r8:hadd h5 b1 (.cells [.int .i64 5] false) b8 = _:=(hadd_ne' n81).trans r8'
   refine W2 t0 t2 ?_
   refine name_ac (ks:=[5]) A5.re hadd_same (by decide) fun h6 A6=>?_
   have A6':=A5.back A6
   have r8:=A6.keep (Ne.symm n8) r8
   have g1:=f1.trans (name_fwd W f1.ok [5])
   generalize PS.name T s1 [5] = x at hq A6 A6' g1
   obtain ⟨nt,r⟩:=x
   simp only at hq A6 A6' g1
   rw [tok3]
   refine W2 t0 t2 ?_
   intro b4 hb4
   have n84:=none_ne hb4 r8
   have n4:=A6'.ne hb4
   have A7:=A6'.put (o:=.cells [.int .i64 nt.k,.str nt.t,.int .i64 nt.a] false) hb4
   have r8:hadd h6 b4 (.cells [.int .i64 nt.k,.str nt.t,.int .i64 nt.a] false) b8 = _:=(hadd_ne' n84).trans r8
   have r4:hadd h6 b4 (.cells [.int .i64 nt.k,.str nt.t,.int .i64 nt.a] false) b4 = _:=hadd_same
   refine W2 t0 t2 ?_
   generalize hadd h6 b4 _ = h7 at A7 r8 r4 ⊢
   refine step_ac A7.re fun h8 A8=>?_
   have A8':=A7.back A8
   have r8:=A8.keep (Ne.symm n8) r8
   have r4:=A8.keep (Ne.symm n4) r4
   have g2:=g1.trans (step_fwd W g1.ok)
   refine W2 t0 t2 ?_
   intro b5 hb5
   have n85:=none_ne hb5 r8
   have n45:=none_ne hb5 r4
   have A9:=A8'.put (o:=.cells [.int .i64 5] false) hb5
   have r8:hadd h8 b5 (.cells [.int .i64 5] false) b8 = _:=(hadd_ne' n85).trans r8
   have r4:hadd h8 b5 (.cells [.int .i64 5] false) b4 = _:=(hadd_ne' n45).trans r4
   refine W2 t0 t2 ?_
   refine name_ac (ks:=[5]) A9.re hadd_same (by decide) fun h9 A10=>?_
   have A10':=A9.back A10
   have r8:=A10.keep (Ne.symm n8) r8
   have r4:=A10.keep (Ne.symm n4) r4
   have g3:=g2.trans (name_fwd W g2.ok [5])
   generalize PS.name T (r.step T) [5] = y at hq A10 A10' g3
   obtain ⟨nu,r2⟩:=y
   simp only at hq A10 A10' g3
   refine W2 t0 t2 ?_
   refine leaf_ac [110,97,109,101] nu rfl ?_
   refine W2 t0 t2 ?_
   intro b6 hb6
   have n86:=none_ne hb6 r8
   have n46:=none_ne hb6 r4
   have n6:=A10'.ne hb6
   have A11:=A10'.put (o:=.cells [.str [110,97,109,101],.str nu.t,.int .i64 nu.a,.nilsl] false) hb6
   have r8:hadd h9 b6 (.cells [.str [110,97,109,101],.str nu.t,.int .i64 nu.a,.nilsl] false) b8 = _:=(hadd_ne' n86).trans r8
   have r4:hadd h9 b6 (.cells [.str [110,97,109,101],.str nu.t,.int .i64 nu.a,.nilsl] false) b4 = _:=(hadd_ne' n46).trans r4
   have r6:hadd h9 b6 (.cells [.str [110,97,109,101],.str nu.t,.int .i64 nu.a,.nilsl] false) b6 = _:=hadd_same
   refine W2 t0 t2 ?_
   generalize hadd h9 b6 _ = h10 at A11 r8 r4 r6 ⊢
   refine step_ac A11.re fun h11 A12=>?_
   have A12':=A11.back A12
   have r8:=A12.keep (Ne.symm n8) r8
   have r4:=A12.keep (Ne.symm n4) r4
   have r6:=A12.keep (Ne.symm n6) r6
   have g4:=g3.trans (step_fwd W g3.ok)
   refine W4 t0 t2 r4 r6 ?_
   refine CB.run _ _ _ _ _ _ A12'.re g4.ok (hl.fwd g4) fun h12 v A13 k13=>?_
   generalize bodyM T S (r2.step T) = z at hq A13 k13
   obtain ⟨m,r3s⟩:=z
   simp only at hq A13 k13
   obtain ⟨kv,rfl,kb⟩:=k13.inv
   have kf:=kb.flat
   have A13':=A12'.back A13
   have kg:=bk A12' r8 kb
   have r8:=A13.keep (Ne.symm n8) r8
   have r4:=A13.keep (Ne.symm n4) r4
   have r6:=A13.keep (Ne.symm n6) r6
   refine W5 t0 t2 r4 r6 kf ?_
   intro bs hbs
   have n8s:=none_ne hbs r8
   have n4s:=none_ne hbs r4
   have n6s:=none_ne hbs r6
   have A14:=A13'.put (o:=.cells (nodeC (leafM [110,97,109,101] nu []) .nilsl ++ nodeC m kv) false) hbs
   have kr:KidsV (hadd h0 b8 (.cells Z4 false)) (hadd h12 bs (.cells (nodeC (leafM [110,97,109,101] nu []) .nilsl ++ nodeC m kv) false)) p [leafM [110,97,109,101] nu [],m] (.sl bs 0 4 2) :=
    .sl (by simp) (by rw [hadd_ne' (Ne.symm n8s)]; exact A13'.new hbs) (Ne.symm (A13'.ne hbs)) hadd_same ((CellsV.one (NodeV.of (t:=leafM [110,97,109,101] nu []) .nil)).app (CellsV.one (NodeV.of (kg.put hbs))))
   refine W5 t0 t2 r4 r6 kf ?_
   refine leaf_ac [102,111,114,105,110] nt rfl ?_
   refine W6 t0 t2 r4 r6 r8 kf ?_
   exact fin _ (leafM [102,111,114,105,110] nt [leafM [110,97,109,101] nu [],m]) _ _ _ A14 kr hq
  ·rw [if_neg cf] at hq
   rw [decide_eq_false cf] at t42
   dsimp only at hq
   refine W3 t0 t2 t42 ?_
   refine node_ac [110,111,110,101] (l:=[]) rfl ?_
   refine W2 t0 t2 ?_
   refine node_ac [110,111,110,101] (l:=[]) rfl ?_
   refine W2 t0 t2 ?_
   refine node_ac [110,111,110,101] (l:=[]) rfl ?_
   refine W2 t0 t2 ?_
   intro b6 hb6
   have n6:=A4.ne hb6
   have z6:=A4.new hb6
   have n86:=none_ne hb6 r8'
   obtain ⟨g,hg⟩:∃ g:H,g = gg h0 b8 b6:=⟨_,rfl⟩
   have G0:∀ y,g y = none → y ≠ b6 ∧ y ≠ b8 ∧ h0 y = none:=fun y hy=>by rw [hg] at hy; exact gg_none hy
   have G1:∀ y,y ≠ b6 → y ≠ b8 → h0 y = none → g y = none:=fun y a b c=>by rw [hg]; exact gg_of a b c
   have bg:∀ {h5 h6:H} {s5:PS} {l:List Tree} {v:V} {cs:List V},PAt h0 h5 p tb T s5 → h5 b8 = some (.cells Z4 false) → h5 b6 = some (.cells cs false) → KidsV (hset h5 p none) h6 p l v → KidsV g h6 p l v:=fun {h5 h6 s5 l v cs} B hb hb' k =>
    KidsV.move (fun x o z nx hx=>⟨by
     rw [show hset h5 p none x = h5 x from if_neg nx] at z
     exact G1 x (none_ne z hb').symm (none_ne z hb).symm (B.new z),hx⟩) k
   have st:∀ {h6:H} {l:List Tree} {v:V} {o:AObj},KidsV g h6 p l v → KidsV g (hadd h6 b6 o) p l v:=fun {h6 l v o} k=>KidsV.move (fun x o z nx hx=>⟨z,by rw [hadd_ne' (G0 _ z).1]; exact hx⟩) k
   have A5:=A4.put (o:=.cells [V.str [110,111,110,101],V.str [],V.int IntKind.i64 0,V.nilsl,V.str [110,111,110,101],V.str [],V.int IntKind.i64 0,V.nilsl,V.str [110,111,110,101],V.str [],V.int IntKind.i64 0,V.nilsl] false) hb6
   have r8:hadd h5 b6 (.cells [V.str [110,111,110,101],V.str [],V.int IntKind.i64 0,V.nilsl,V.str [110,111,110,101],V.str [],V.int IntKind.i64 0,V.nilsl,V.str [110,111,110,101],V.str [],V.int IntKind.i64 0,V.nilsl] false) b8 = _:=(hadd_ne' n86).trans r8'
   have r6:hadd h5 b6 (.cells [V.str [110,111,110,101],V.str [],V.int IntKind.i64 0,V.nilsl,V.str [110,111,110,101],V.str [],V.int IntKind.i64 0,V.nilsl,V.str [110,111,110,101],V.str [],V.int IntKind.i64 0,V.nilsl] false) b6 = _:=hadd_same
   refine W2 t0 t2 ?_
   generalize hadd h5 b6 _ = h6 at A5 r8 r6 ⊢
   have t6:(V.ptr b6 0) = .ptr b6 0:=rfl
   intro b1 hb1
   have n81:=none_ne hb1 r8
   have n61:=none_ne hb1 r6
   have A6:=A5.put (o:=.cells [.str [59]] false) hb1
   have r8b:=(hadd_ne' (o:=.cells [.str [59]] false) n81).trans r8
   have r6b:=(hadd_ne' (o:=.cells [.str [59]] false) n61).trans r6
   refine W3 t0 t2 t6 ?_
   refine at_ac (ss:=[[59]]) A6 hadd_same (by decide) ?_
   have f2:=f1.trans (forA_fwd CI.fwd [59] f1.ok (hl.fwd f1))
   have hcur:forA T (simpleM T M U) [59] s1 = if (s1).isAt T [[59]] = true then (nodeM [110,111,110,101] [],s1) else (simpleM T M U) s1:=rfl
   generalize forA T (simpleM T M U) [59] s1 = a at hq f2 hcur
   refine W3 t0 t2 t6 ?_
   refine goC_cut AC.mono (fun ex a' h'=>ex = .nm ∧ a'.d = [] ∧ a'.t 0 = .ptr p 0 ∧ a'.t 2 = .ptr b8 0 ∧ a'.t 6 = .ptr b6 0 ∧ PAt h0 h' p tb T a.2 ∧ h' b8 = some (.cells Z4 false) ∧ ∃ va,h' b6 = some (.cells (nodeC a.1 va ++ [V.str [110,111,110,101],V.str [],V.int IntKind.i64 0,V.nilsl] ++ [V.str [110,111,110,101],V.str [],V.int IntKind.i64 0,V.nilsl]) false) ∧ KidsV g h' p a.1.kids va) ?_ ?_
   ·cases e:(s1).isAt T [[59]]
    ·simp only [e,if_false,Bool.false_eq_true] at hcur
     refine W3 t0 t2 t6 ?_
     refine CI.run _ _ _ _ _ _ A6.re f1.ok (hl.fwd f1) fun h7 v A7 k7=>?_
     rw [← hcur] at A7 k7
     obtain ⟨kv,rfl,kbb⟩:=k7.inv
     have kf:=kbb.flat
     have r8':=A7.keep (Ne.symm n8) r8b
     have r6':=A7.keep (Ne.symm n6) r6b
     have kn:=st (o:=.cells (nodeC a.1 kv ++ [V.str [110,111,110,101],V.str [],V.int IntKind.i64 0,V.nilsl] ++ [V.str [110,111,110,101],V.str [],V.int IntKind.i64 0,V.nilsl]) false) (bg A6 r8b r6b kbb)
     have A8:=(A6.back A7).over (o:=.cells (nodeC a.1 kv ++ [V.str [110,111,110,101],V.str [],V.int IntKind.i64 0,V.nilsl] ++ [V.str [110,111,110,101],V.str [],V.int IntKind.i64 0,V.nilsl]) false) z6 (Ne.symm n6)
     refine W6 t0 t2 t6 r6' r8' kf ?_
     exact ⟨A8,kv,rfl,kn⟩
    ·simp only [e,if_true] at hcur
     subst hcur
     refine W3 t0 t2 t6 ?_
     exact ⟨A6,r8,.nilsl,r6,.nil⟩
   clear r8 r6 A6 r8b r6b n81 n61
   rintro ex ⟨t,ds⟩ h7 ⟨rfl,hd,t0,t2,t6,A6,r8,va,r6,ka⟩
   simp only at hd t0 t2 t6; subst hd
   refine W3 t0 t2 t6 ?_
   refine expect_ac A6.re [59] fun h8 AX=>?_
   have r8:=AX.keep (Ne.symm n8) r8
   have r6:=AX.keep (Ne.symm n6) r6
   have ka:=ka.keep AX
   have A6:=A6.back AX
   have f3x:=f2.trans (expect_fwd W f2.ok [59])
   refine W3 t0 t2 t6 ?_
   refine lines_ac A6.re W.last fun h9 AX=>?_
   have r8:=AX.keep (Ne.symm n8) r8
   have r6:=AX.keep (Ne.symm n6) r6
   have ka:=ka.keep AX
   have A6:=A6.back AX
   have f3:=f3x.trans (lines_fwd W f3x.ok)
   refine W3 t0 t2 t6 ?_
   intro b1 hb1
   have n81:=none_ne hb1 r8
   have n61:=none_ne hb1 r6
   have A6:=A6.put (o:=.cells [.str [59]] false) hb1
   have r8b:=(hadd_ne' (o:=.cells [.str [59]] false) n81).trans r8
   have r6b:=(hadd_ne' (o:=.cells [.str [59]] false) n61).trans r6
   have ka:=ka.put (o:=.cells [.str [59]] false) hb1
   refine W3 t0 t2 t6 ?_
   refine at_ac (ss:=[[59]]) A6 hadd_same (by decide) ?_
   have f4:=f3.trans (forA_fwd CE.fwd [59] f3.ok (hl.fwd f3))
   have hcur:forA T (M) [59] ((a.2.expect T [59]).lines T) = if (((a.2.expect T [59]).lines T)).isAt T [[59]] = true then (nodeM [110,111,110,101] [],((a.2.expect T [59]).lines T)) else (M) ((a.2.expect T [59]).lines T):=rfl
   generalize forA T (M) [59] ((a.2.expect T [59]).lines T) = b at hq f4 hcur
   refine W3 t0 t2 t6 ?_
   refine goC_cut AC.mono (fun ex a' h'=>ex = .nm ∧ a'.d = [] ∧ a'.t 0 = .ptr p 0 ∧ a'.t 2 = .ptr b8 0 ∧ a'.t 6 = .ptr b6 0 ∧ PAt h0 h' p tb T b.2 ∧ h' b8 = some (.cells Z4 false) ∧ ∃ vb,h' b6 = some (.cells (nodeC a.1 va ++ nodeC b.1 vb ++ [V.str [110,111,110,101],V.str [],V.int IntKind.i64 0,V.nilsl]) false) ∧ KidsV g h' p a.1.kids va ∧ KidsV g h' p b.1.kids vb) ?_ ?_
   ·cases e:(((a.2.expect T [59]).lines T)).isAt T [[59]]
    ·simp only [e,if_false,Bool.false_eq_true] at hcur
     refine W3 t0 t2 t6 ?_
     refine CE.run _ _ _ _ _ _ A6.re f3.ok (hl.fwd f3) fun h7 v A7 k7=>?_
     rw [← hcur] at A7 k7
     obtain ⟨kv,rfl,kbb⟩:=k7.inv
     have kf:=kbb.flat
     have r8':=A7.keep (Ne.symm n8) r8b
     have r6':=A7.keep (Ne.symm n6) r6b
     have kn:=st (o:=.cells (nodeC a.1 va ++ nodeC b.1 kv ++ [V.str [110,111,110,101],V.str [],V.int IntKind.i64 0,V.nilsl]) false) (bg A6 r8b r6b kbb)
     have A8:=(A6.back A7).over (o:=.cells (nodeC a.1 va ++ nodeC b.1 kv ++ [V.str [110,111,110,101],V.str [],V.int IntKind.i64 0,V.nilsl]) false) z6 (Ne.symm n6)
     refine W6 t0 t2 t6 r6' r8' kf ?_
     exact ⟨A8,kv,rfl,st (ka.keep A7),kn⟩
    ·simp only [e,if_true] at hcur
     subst hcur
     refine W3 t0 t2 t6 ?_
     exact ⟨A6,r8,.nilsl,r6,ka,.nil⟩
   clear r8 r6 A6 r8b r6b n81 n61
   rintro ex ⟨t,ds⟩ h7 ⟨rfl,hd,t0,t2,t6,A6,r8,vb,r6,ka,kb⟩
   simp only at hd t0 t2 t6; subst hd
   refine W3 t0 t2 t6 ?_
   refine expect_ac A6.re [59] fun h8 AX=>?_
   have r8:=AX.keep (Ne.symm n8) r8
   have r6:=AX.keep (Ne.symm n6) r6
   have ka:=ka.keep AX
   have kb:=kb.keep AX
   have A6:=A6.back AX
   have f5x:=f4.trans (expect_fwd W f4.ok [59])
   refine W3 t0 t2 t6 ?_
   refine lines_ac A6.re W.last fun h9 AX=>?_
   have r8:=AX.keep (Ne.symm n8) r8
   have r6:=AX.keep (Ne.symm n6) r6
   have ka:=ka.keep AX
   have kb:=kb.keep AX
   have A6:=A6.back AX
   have f5:=f5x.trans (lines_fwd W f5x.ok)
   refine W3 t0 t2 t6 ?_
   intro b1 hb1
   have n81:=none_ne hb1 r8
   have n61:=none_ne hb1 r6
   have A6:=A6.put (o:=.cells [.str [41]] false) hb1
   have r8b:=(hadd_ne' (o:=.cells [.str [41]] false) n81).trans r8
   have r6b:=(hadd_ne' (o:=.cells [.str [41]] false) n61).trans r6
   have ka:=ka.put (o:=.cells [.str [41]] false) hb1
   have kb:=kb.put (o:=.cells [.str [41]] false) hb1
   refine W3 t0 t2 t6 ?_
   refine at_ac (ss:=[[41]]) A6 hadd_same (by decide) ?_
   have f6:=f5.trans (forA_fwd CI.fwd [41] f5.ok (hl.fwd f5))
   have hcur:forA T (simpleM T M U) [41] ((b.2.expect T [59]).lines T) = if (((b.2.expect T [59]).lines T)).isAt T [[41]] = true then (nodeM [110,111,110,101] [],((b.2.expect T [59]).lines T)) else (simpleM T M U) ((b.2.expect T [59]).lines T):=rfl
   generalize forA T (simpleM T M U) [41] ((b.2.expect T [59]).lines T) = c at hq f6 hcur
   refine W3 t0 t2 t6 ?_
   refine goC_cut AC.mono (fun ex a' h'=>ex = .nm ∧ a'.d = [] ∧ a'.t 0 = .ptr p 0 ∧ a'.t 2 = .ptr b8 0 ∧ a'.t 6 = .ptr b6 0 ∧ PAt h0 h' p tb T c.2 ∧ h' b8 = some (.cells Z4 false) ∧ ∃ vc,h' b6 = some (.cells (nodeC a.1 va ++ nodeC b.1 vb ++ nodeC c.1 vc) false) ∧ KidsV g h' p a.1.kids va ∧ KidsV g h' p b.1.kids vb ∧ KidsV g h' p c.1.kids vc) ?_ ?_
   ·cases e:(((b.2.expect T [59]).lines T)).isAt T [[41]]
    ·simp only [e,if_false,Bool.false_eq_true] at hcur
     refine W3 t0 t2 t6 ?_
     refine CI.run _ _ _ _ _ _ A6.re f5.ok (hl.fwd f5) fun h7 v A7 k7=>?_
     rw [← hcur] at A7 k7
     obtain ⟨kv,rfl,kbb⟩:=k7.inv
     have kf:=kbb.flat
     have r8':=A7.keep (Ne.symm n8) r8b
     have r6':=A7.keep (Ne.symm n6) r6b
     have kn:=st (o:=.cells (nodeC a.1 va ++ nodeC b.1 vb ++ nodeC c.1 kv) false) (bg A6 r8b r6b kbb)
     have A8:=(A6.back A7).over (o:=.cells (nodeC a.1 va ++ nodeC b.1 vb ++ nodeC c.1 kv) false) z6 (Ne.symm n6)
     refine W6 t0 t2 t6 r6' r8' kf ?_
     exact ⟨A8,kv,rfl,st (ka.keep A7),st (kb.keep A7),kn⟩
    ·simp only [e,if_true] at hcur
     subst hcur
     refine W3 t0 t2 t6 ?_
     exact ⟨A6,r8,.nilsl,r6,ka,kb,.nil⟩
   clear r8 r6 A6 r8b r6b n81 n61
   rintro ex ⟨t,ds⟩ h7 ⟨rfl,hd,t0,t2,t6,A6,r8,vc,r6,ka,kb,kc⟩
   simp only at hd t0 t2 t6; subst hd
   refine W3 t0 t2 t6 ?_
   refine expect_ac A6.re [41] fun h8 AX=>?_
   have r8:=AX.keep (Ne.symm n8) r8
   have r6:=AX.keep (Ne.symm n6) r6
   have ka:=ka.keep AX
   have kb:=kb.keep AX
   have kc:=kc.keep AX
   have A6:=A6.back AX
   have f7x:=f6.trans (expect_fwd W f6.ok [41])
   have fa:=ka.flat
   have fb:=kb.flat
   have fc:=kc.flat
   refine W7 t0 t2 t6 r6 fa fb fc ?_
   refine CB.run _ _ _ _ _ _ A6.re f7x.ok (hl.fwd f7x) fun h10 v A7 k7=>?_
   generalize bodyM T S (c.2.expect T [41]) = z at hq A7 k7
   obtain ⟨m,r3s⟩:=z
   simp only at hq A7 k7
   obtain ⟨kv,rfl,kbb⟩:=k7.inv
   have kf:=kbb.flat
   have A7':=A6.back A7
   have kz:=bg A6 r8 r6 kbb
   have ka:=ka.keep A7
   have kb:=kb.keep A7
   have kc:=kc.keep A7
   have r8:=A7.keep (Ne.symm n8) r8
   have r6:=A7.keep (Ne.symm n6) r6
   refine W8 t0 t2 t6 r6 fa fb fc kf ?_
   intro bs hbs
   have n8s:=none_ne hbs r8
   have n6s:=none_ne hbs r6
   have A8:=A7'.put (o:=.cells (nodeC a.1 va ++ (nodeC b.1 vb ++ (nodeC c.1 vc ++ nodeC m kv))) false) hbs
   have mv:∀ {l:List Tree} {v:V},KidsV g h10 p l v → KidsV (hadd h0 b8 (.cells Z4 false)) h10 p l v:=fun {l v} k=>KidsV.move (fun x o z nx hx=>⟨by rw [hadd_ne' (G0 _ z).2.1]; exact (G0 _ z).2.2,hx⟩) k
   have kr:KidsV (hadd h0 b8 (.cells Z4 false)) (hadd h10 bs (.cells (nodeC a.1 va ++ (nodeC b.1 vb ++ (nodeC c.1 vc ++ nodeC m kv))) false)) p [a.1,b.1,c.1,m] (.sl bs 0 4 4) :=
    .sl (by simp) (by rw [hadd_ne' (Ne.symm n8s)]; exact A7'.new hbs) (Ne.symm (A7'.ne hbs)) hadd_same ((CellsV.one (NodeV.of ((mv ka).put hbs))).app ((CellsV.one (NodeV.of ((mv kb).put hbs))).app ((CellsV.one (NodeV.of ((mv kc).put hbs))).app (CellsV.one (NodeV.of ((mv kz).put hbs))))))
   refine W8 t0 t2 t6 r6 fa fb fc kf ?_
   refine node_ac [102,111,114] (l:=[]) rfl ?_
   refine W5 t0 t2 t6 r6 r8 ?_
   exact fin _ (nodeM [102,111,114] [a.1,b.1,c.1,m]) _ _ _ A8 kr hq
end Go.Proofs.YtkfbldogmgofoaaGreatDoor
namespace Go.Proofs.YtkfbldogmgofoaaGreatDoor
open Mir
variable {h:H} {Q:V → H → Prop} {h0 h1 h':H} {p tb:Nat} {T:List Tokn} {s s':PS} {N n c m:Nat}
def stStep (T:List Tokn) (E U S:PF) (s:PS):Tree × PS :=
 if s.isAt T [[123]] = true then blockM T S s
  else if s.isAt T [[59]] = true then (nodeM [101,109,112,116,121] [],s.step T)
  else if s.isAt T [[105,102]] = true then choiceM T E S (s.step T)
  else if s.isAt T [[119,104,105,108,101]] = true then
   (nodeM [119,104,105,108,101] [(insideM T E [41] ((s.step T).expect T [40])).1,(bodyM T S (insideM T E [41] ((s.step T).expect T [40])).2).1],(bodyM T S (insideM T E [41] ((s.step T).expect T [40])).2).2)
  else if s.isAt T [[102,111,114]] = true then loopM T E U S (s.step T)
  else ((simpleM T E U s).1,(simpleM T E U s).2.fin T)
theorem stmtM_eq (E U S:PF) (s:PS):stmtM T E U S s = ((stStep T E U S (s.down T)).1,(stStep T E U S (s.down T)).2.up):=by
 unfold stmtM stStep; rfl
theorem stStep_fwd (W:TkOk T N) {E U S:PF} (CE:FC T N m c 46 E) (CC:FC T N m c 106 (catEM T U)) (low:s.err = 0 → FC T N m c 69 S) (hs:SOk T N s) (hl:lvl m c s):Fwd T N s (stStep T E U S s).2 ∧ Adv s (stStep T E U S s).2:=by
 have f1:=step_fwd W hs
 have l1:=hl.fwd f1
 have si:=simpleM_fwd W CE.fwd CE.adv CC.fwd hs hl
 unfold stStep
 split
 ·rename_i e; exact blockM_fwd W (low (at_err e)).fwd hs hl
 split
 ·rename_i e; exact ⟨f1,at_adv W hs e⟩
 split
 ·rename_i e
  have g:=choiceM_fwd W CE.fwd (body_fc W (low (at_err e))).fwd f1.ok l1
  exact ⟨f1.trans g,(at_adv W hs e).left g⟩
 split
 ·rename_i e
  have g1:=expect_fwd W f1.ok [40]
  have g2:=g1.trans (insideM_fwd W CE.fwd [41] g1.ok (l1.fwd g1))
  have g3:=g2.trans ((body_fc W (low (at_err e))).fwd _ g2.ok (l1.fwd g2))
  exact ⟨f1.trans g3,(at_adv W hs e).left g3⟩
 split
 ·rename_i e
  have g:=loopM_fwd W CE.fwd (simple_fc W CE CC).fwd (body_fc W (low (at_err e))).fwd f1.ok l1
  exact ⟨f1.trans g,(at_adv W hs e).left g⟩
 ·exact ⟨si.1.trans (fin_fwd W si.1.ok),si.2.left (fin_fwd W si.1.ok)⟩
theorem stmt_run (W:TkOk T N) (hc:c < 900) {E U S:PF} (hd:∀ s,SOk T N s → lvl n c s → lvl m (c + 1) (s.down T)) (CE:FC T N m (c + 1) 46 E) (CC:FC T N m (c + 1) 106 (catEM T U))
  (low:∀ s,SOk T N s → lvl n c s → s.err = 0 → FC T N m (c + 1) 69 S):FC T N n c 69 (stmtM T E U S):=by
 have FA:∀ s,SOk T N s → lvl n c s → Fwd T N s (stmtM T E U S s).2 ∧ Adv s (stmtM T E U S s).2:=fun s hs hl=>by
  rw [stmtM_eq]
  obtain ⟨d1,d2,d3,d4,d5⟩:=down_ok W hs
  have g:=stStep_fwd W CE CC (fun e=>low s hs hl (d5 e)) d1 (hd s hs hl)
  exact ⟨up_fwd W hs g.1,up_adv W hs g.1 g.2⟩
 refine ⟨fun h0 h p tb s0 Q A hs0 hl0 hq=>?_,fun s hs hl=>(FA s hs hl).1,fun s hs hl=>(FA s hs hl).2⟩
 rw [stmtM_eq] at hq
 obtain ⟨hs,d2,d3,d4,d5⟩:=down_ok W hs0
 have hl:=hd s0 hs0 hl0
 have L:=fun e=>low s0 hs0 hl0 (d5 e)
 have gA:=(stStep_fwd W CE CC (fun e=>L e) hs hl).1
 have dl:=hl0.2
 refine AC.fn' (g:=g69) rfl (by simp only [List.length_cons,List.length_nil,g69]; decide) ?_; simp only [g69,Mir.Ab.all]
 refine W0 ?_
 intro b8 hb8
 have A1:=A.put (o:=.cells Z4 false) hb8
 have n8:=A.ne hb8
 have z8:=A.new hb8
 refine W0 ?_
 refine down_ac A1.re (by omega) fun h2 A2=>?_
 have A3:=A1.back A2
 have r8:=A2.keep (Ne.symm n8) (b:=b8) (o:=.cells Z4 false) hadd_same
 obtain ⟨s,hs1⟩:∃ s,s = s0.down T:=⟨_,rfl⟩
 rw [← hs1] at hq A3 hs hl L gA d3
 have f1:=step_fwd W hs
 have l1:=hl.fwd f1
 have up:=fun (h7:H) (mm:Tree) (s7:PS) (kv:V) (B:PAt h0 h7 p tb T s7) (hd:1 ≤ s7.deep) (k:KidsV (hadd h0 b8 (.cells Z4 false)) h7 p mm.kids kv) (hq':∀ h' v,PAt h0 h' p tb T s7.up → NodeV h0 h' p mm v → Q v h')
   (Q':V → H → Prop) (hQ:∀ h8 x,h8 b8 = some (.cells (nodeC mm kv) false) → Q (.agg (nodeC mm kv)) h8 → Q' x h8) =>
  show AC pg (.fn 72) [.ptr p 0] (hadd h7 b8 (.cells (nodeC mm kv) false)) Q' from by
   have A11:=B.over (o:=.cells (nodeC mm kv) false) z8 (Ne.symm n8)
   have kn:NodeV h0 (hadd h7 b8 (.cells (nodeC mm kv) false)) p mm (.agg (nodeC mm kv)) :=
    NodeV.of (KidsV.move (fun y o z nx hx=>⟨(had_none z).2,by rw [hadd_ne' (had_none z).1]; exact hx⟩) k)
   exact up_ac A11.re hd fun h8 A12=>hQ _ _ (A12.keep (Ne.symm n8) hadd_same) (hq' _ _ (A11.back A12) (kn.keep A12))
 have bk:∀ {h5 h6:H} {s5:PS} {l:List Tree} {v:V},PAt h0 h5 p tb T s5 → h5 b8 = some (.cells Z4 false) → KidsV (hset h5 p none) h6 p l v → KidsV (hadd h0 b8 (.cells Z4 false)) h6 p l v:=fun {h5 h6 s5 l v} B hb k =>
  KidsV.move (fun x o z nx hx=>⟨by
   rw [show hset h5 p none x = h5 x from if_neg nx] at z
   rw [hadd_ne' (none_ne z hb).symm]; exact B.new z,hx⟩) k
 unfold stStep at hq gA
 refine W0 ?_
 intro b1 hb1
 have n81:=none_ne hb1 r8
 have A4:=A3.put (o:=.cells [.str [123]] false) hb1
 have r8:hadd h2 b1 (.cells [.str [123]] false) b8 = _:=(hadd_ne' n81).trans r8
 refine W0 ?_
 refine at_ac (ss:=[[123]]) A4 hadd_same (by decide) ?_
 cases e1:s.isAt T [[123]]
 case true =>
  simp only [e1,if_true] at hq gA
  refine W0 ?_
  refine (block_fc W (L (at_err e1))).run _ _ _ _ _ _ A4.re hs hl fun h6 v A5 k5=>?_
  generalize blockM T S s = x at hq A5 k5 gA
  obtain ⟨kv,rfl,kb⟩:=k5.inv
  have kf:=kb.flat
  have r8':=A5.keep (Ne.symm n8) r8
  refine W2 r8' kf ?_
  refine up _ x.1 x.2 _ (A4.back A5) (by rw [gA.deep,d3]; omega) (bk A4 r8 kb) hq _ fun h8 y e q=>?_
  refine W1 e ?_
  exact ⟨_,Sub.refl,q⟩
 simp only [e1,if_false,Bool.false_eq_true] at hq gA
 generalize hadd h2 b1 _ = h3 at A4 r8 ⊢
 refine W0 ?_
 refine accept_ac A4.re [59] fun h4 A5=>?_
 have A5':=A4.back A5
 have r8:=A5.keep (Ne.symm n8) r8
 cases e2:s.isAt T [[59]]
 case true =>
  simp only [e2,if_true] at hq gA A5'
  refine W0 ?_
  refine node_ac [101,109,112,116,121] (l:=[]) rfl ?_
  refine W1 r8 ?_
  refine up _ (nodeM [101,109,112,116,121] []) _ .nilsl A5' (by rw [gA.deep,d3]; omega) .nil hq _ fun h8 y e q=>?_
  refine W1 e ?_
  exact ⟨_,Sub.refl,q⟩
 simp only [e2,if_false,Bool.false_eq_true] at hq gA A5'
 refine W0 ?_
 refine accept_ac A5'.re [105,102] fun h5 A6=>?_
 have A6':=A5'.back A6
 have r8:=A6.keep (Ne.symm n8) r8
 cases e3:s.isAt T [[105,102]]
 case true =>
  simp only [e3,if_true] at hq gA A6'
  refine W0 ?_
  refine choice_ac W CE (body_fc W (L (at_err e3))) A6'.re f1.ok l1 fun h6 v A7 k7=>?_
  generalize choiceM T E S (s.step T) = x at hq A7 k7 gA
  obtain ⟨kv,rfl,kb⟩:=k7.inv
  have kf:=kb.flat
  have r8':=A7.keep (Ne.symm n8) r8
  refine W2 r8' kf ?_
  refine up _ x.1 x.2 _ (A6'.back A7) (by rw [gA.deep,d3]; omega) (bk A6' r8 kb) hq _ fun h8 y e q=>?_
  refine W1 e ?_
  exact ⟨_,Sub.refl,q⟩
 simp only [e3,if_false,Bool.false_eq_true] at hq gA A6'
 refine W0 ?_
 refine accept_ac A6'.re [119,104,105,108,101] fun h6 A7=>?_
 have A7':=A6'.back A7
 have r8:=A7.keep (Ne.symm n8) r8
 cases e4:s.isAt T [[119,104,105,108,101]]
 case true =>
  simp only [e4,if_true] at hq gA A7'
  have CB:=body_fc W (L (at_err e4))
  refine W0 ?_
  refine expect_ac A7'.re [40] fun h7 A8=>?_
  have A8':=A7'.back A8
  have r8:=A8.keep (Ne.symm n8) r8
  have g1:=expect_fwd W f1.ok [40]
  refine W0 ?_
  refine inside_ac W CE [41] A8'.re g1.ok (l1.fwd g1) fun h8 v A9 k9=>?_
  have g2:=g1.trans (insideM_fwd W CE.fwd [41] g1.ok (l1.fwd g1))
  generalize insideM T E [41] ((s.step T).expect T [40]) = x at hq A9 k9 gA g2
  obtain ⟨m1,r1⟩:=x
  simp only at hq A9 k9 gA g2
  obtain ⟨kv1,rfl,kb1⟩:=k9.inv
  have kf1:=kb1.flat
  have A9':=A8'.back A9
  have kg1:=bk A8' r8 kb1
  have r8:=A9.keep (Ne.symm n8) r8
  refine W0 ?_
  refine CB.run _ _ _ _ _ _ A9'.re g2.ok (l1.fwd g2) fun h9 v A10 k10=>?_
  generalize bodyM T S r1 = y at hq A10 k10 gA
  obtain ⟨m2,r2⟩:=y
  simp only at hq A10 k10 gA
  obtain ⟨kv2,rfl,kb2⟩:=k10.inv
  have kf2:=kb2.flat
  have A10':=A9'.back A10
  have kg2:=bk A9' r8 kb2
  have kg1:=kg1.keep A10
  have r8:=A10.keep (Ne.symm n8) r8
  refine W2 kf1 kf2 ?_
  intro bs hbs
  have n8s:=none_ne hbs r8
  have A11:=A10'.put (o:=.cells (nodeC m1 kv1 ++ nodeC m2 kv2) false) hbs
  have kr:KidsV (hadd h0 b8 (.cells Z4 false)) (hadd h9 bs (.cells (nodeC m1 kv1 ++ nodeC m2 kv2) false)) p [m1,m2] (.sl bs 0 4 2) :=
   .sl (by simp) (by rw [hadd_ne' (Ne.symm n8s)]; exact A10'.new hbs) (Ne.symm (A10'.ne hbs)) hadd_same ((CellsV.one (NodeV.of (kg1.put hbs))).app (CellsV.one (NodeV.of (kg2.put hbs))))
  refine W0 ?_
  refine node_ac [119,104,105,108,101] (l:=[]) rfl ?_
  refine W1 r8 ?_
  refine up _ (nodeM [119,104,105,108,101] [m1,m2]) r2 _ A11 (by rw [gA.deep,d3]; omega) kr hq _ fun h8 y e q=>?_
  refine W1 e ?_
  exact ⟨_,Sub.refl,q⟩
 simp only [e4,if_false,Bool.false_eq_true] at hq gA A7'
 refine W0 ?_
 refine accept_ac A7'.re [102,111,114] fun h7 A8=>?_
 have A8':=A7'.back A8
 have r8:=A8.keep (Ne.symm n8) r8
 cases e5:s.isAt T [[102,111,114]]
 case true =>
  simp only [e5,if_true] at hq gA A8'
  refine W0 ?_
  refine loop_ac W CE (simple_fc W CE CC) (body_fc W (L (at_err e5))) A8'.re f1.ok l1 fun h8 v A9 k9=>?_
  generalize loopM T E U S (s.step T) = x at hq A9 k9 gA
  obtain ⟨kv,rfl,kb⟩:=k9.inv
  have kf:=kb.flat
  have r8':=A9.keep (Ne.symm n8) r8
  refine W2 r8' kf ?_
  refine up _ x.1 x.2 _ (A8'.back A9) (by rw [gA.deep,d3]; omega) (bk A8' r8 kb) hq _ fun h8 y e q=>?_
  refine W1 e ?_
  exact ⟨_,Sub.refl,q⟩
 simp only [e5,if_false,Bool.false_eq_true] at hq gA A8'
 refine W0 ?_
 refine (simple_fc W CE CC).run _ _ _ _ _ _ A8'.re hs hl fun h8 v A9 k9=>?_
 generalize simpleM T E U s = x at hq A9 k9 gA
 obtain ⟨m1,r1⟩:=x
 simp only at hq A9 k9 gA
 obtain ⟨kv,rfl,kb⟩:=k9.inv
 have kf:=kb.flat
 have A9':=A8'.back A9
 have kg:=bk A8' r8 kb
 have r8:=A9.keep (Ne.symm n8) r8
 refine W1 kf ?_
 intro b3 hb3
 have n83:=none_ne hb3 r8
 have n3:=A9'.ne hb3
 have A10:=A9'.put (o:=.cells (nodeC m1 kv) false) hb3
 have r8:hadd h8 b3 (.cells (nodeC m1 kv) false) b8 = _:=(hadd_ne' n83).trans r8
 have r3:hadd h8 b3 (.cells (nodeC m1 kv) false) b3 = _:=hadd_same
 have kg:=kg.put (o:=.cells (nodeC m1 kv) false) hb3
 refine W1 kf ?_
 generalize hadd h8 b3 _ = h9 at A10 r8 r3 kg ⊢
 refine end_ac A10.re fun h10 A11=>?_
 have A11':=A10.back A11
 have r8:=A11.keep (Ne.symm n8) r8
 have r3:=A11.keep (Ne.symm n3) r3
 have kg:=kg.keep A11
 refine W3 r3 r8 kf ?_
 refine up _ m1 _ kv A11' (by rw [gA.deep,d3]; omega) kg hq _ fun h8 y e q=>?_
 refine W1 e ?_
 exact ⟨_,Sub.refl,q⟩
end Go.Proofs.YtkfbldogmgofoaaGreatDoor
namespace Go.Proofs.YtkfbldogmgofoaaGreatDoor
open Mir
variable {h:H} {Q:V → H → Prop} {h0 h1 h':H} {p tb:Nat} {T:List Tokn} {s s':PS} {N n c m:Nat}
theorem stL_succ:stL T (n + 1) = stmtM T (lev T n).expr (lev T n).unary (stL T n):=by rw [stL]
theorem stL_zero:stL T 0 = fun s=>(nodeM [101,120,112,114] [.zero],s):=by rw [stL]
theorem stmt0 (W:TkOk T N) (hc:c < 700):FC T N 0 c 69 (stL T 0) :=
 (stmt_run W (by omega) (m:=0) (E:=zeroF) (U:=zeroF) (S:=zeroF) (fun s hs hl=>by
  obtain ⟨d1,d2,d3,d4,d5⟩:=down_ok W hs
  exact ⟨fun e=>absurd (d5 e) (lvl0 hs hl),by have:=hl.2; omega⟩) (expr0 W (by omega)) (cat_of W (unary0 W (by omega))) (fun s hs hl e=>absurd e (lvl0 hs hl))).congr fun s hs hl=>by
  have ne:=lvl0 hs hl
  obtain ⟨d1,d2,d3,d4,d5⟩:=down_ok W hs
  have nd:(s.down T).err ≠ 0:=fun e=>ne (d5 e)
  have hu:(s.down T).up = s:=by
   unfold PS.down; rw [if_neg (by simp [ne])]; rfl
  have e1:simpleM T zeroF zeroF (s.down T) = (nodeM [101,120,112,114] [.zero],s.down T):=by
   unfold simpleM
   rw [cur_z nd]
   rfl
  have e2:(s.down T).fin T = s.down T:=by
   unfold PS.fin
   rw [if_neg (by rw [at_z nd]; decide),if_neg (by rw [at_z nd]; decide),cur_z nd,if_neg (by decide)]
   exact if_pos nd
  have e:stStep T zeroF zeroF zeroF (s.down T) = (nodeM [101,120,112,114] [.zero],s.down T):=by
   unfold stStep
   rw [if_neg (by rw [at_z nd]; decide),if_neg (by rw [at_z nd]; decide),if_neg (by rw [at_z nd]; decide),if_neg (by rw [at_z nd]; decide),if_neg (by rw [at_z nd]; decide),e1]
   show (_,(s.down T).fin T) = _
   rw [e2]
  rw [stmtM_eq,e,stL_zero]
  show (_,(s.down T).up) = _
  rw [hu]
theorem stmts (W:TkOk T N):∀ n c,c + n < 700 → FC T N n c 69 (stL T n):=by
 intro n
 induction n with
 | zero=>exact fun c hc=>stmt0 W (by omega)
 | succ n ih =>
   intro c hc
   have G:=good W n (c + 1) (by omega)
   rw [stL_succ]
   exact stmt_run W (by omega) (fun s hs hl=>lvl.down W hs hl) G.expr (cat_of W G.unary) fun _ _ _ _=>ih (c + 1) (by omega)
end Go.Proofs.YtkfbldogmgofoaaGreatDoor
namespace Go.Proofs.YtkfbldogmgofoaaGreatDoor
open Mir
variable {h:H} {Q:V → H → Prop} {h0 h1 h':H} {p tb:Nat} {T:List Tokn} {s s':PS} {N n c m:Nat}
structure Slot (h0 h:H) (p b8 b3:Nat) (op tx:Txt) (a:Nat) (l:List Tree) (v:V):Prop where
 c8:h b8 = some (.cells Z4 false)
 z8:h0 b8 = none
 n8:b8 ≠ p
 c3:h b3 = some (.cells [.str op,.str tx,.int .i64 a,v] false)
 z3:h0 b3 = none
 n3:b3 ≠ p
 n83:b8 ≠ b3
 row:SlAt (gg h0 b8 b3) h p l v
variable {b8 b3 a:Nat} {op tx:Txt} {l:List Tree} {v:V}
theorem Slot.keep (K:Slot h0 h p b8 b3 op tx a l v) (A':PAt (hset h p none) h' p tb T s'):Slot h0 h' p b8 b3 op tx a l v :=
 ⟨A'.keep K.n8 K.c8,K.z8,K.n8,A'.keep K.n3 K.c3,K.z3,K.n3,K.n83,K.row.keep A'⟩
theorem Slot.put (K:Slot h0 h p b8 b3 op tx a l v) {b:Nat} {o:AObj} (hb:h b = none):Slot h0 (hadd h b o) p b8 b3 op tx a l v :=
 ⟨by rw [hadd_ne' (none_ne hb K.c8)]; exact K.c8,K.z8,K.n8,by rw [hadd_ne' (none_ne hb K.c3)]; exact K.c3,K.z3,K.n3,K.n83,K.row.put hb⟩
theorem Slot.hz (K:Slot h0 h p b8 b3 op tx a l v) (A:PAt h0 h p tb T s) (y:Nat) (hy:h y = none):gg h0 b8 b3 y = none :=
 gg_of (none_ne hy K.c3).symm (none_ne hy K.c8).symm (A.new hy)
theorem Slot.st (K:Slot h0 h p b8 b3 op tx a l v) {h6:H} (c8:h6 b8 = some (.cells Z4 false)) {l':List Tree} {v':V} (S:SlAt (gg h0 b8 b3) h6 p l' v'):Slot h0 (hadd h6 b3 (.cells [.str op,.str tx,.int .i64 a,v'] false)) p b8 b3 op tx a l' v' :=
 ⟨by rw [hadd_ne' K.n83]; exact c8,K.z8,K.n8,hadd_same,K.z3,K.n3,K.n83,SlAt.move (fun y o z nx hy=>⟨z,by rw [hadd_ne' (gg_none z).1]; exact hy⟩) S⟩
theorem Slot.first (K:Slot h0 h p b8 b3 op tx a [] .nilsl) (A:PAt h0 h p tb T s) {bn ba:Nat} {m:Tree} {kv:V} (hn:h bn = none) (ha:hadd h bn (.cells (nodeC m kv) false) ba = none) (k:KidsV (gg h0 b8 b3) h p m.kids kv) :
  b3 ≠ bn ∧ b3 ≠ ba ∧ Slot h0 (hadd (hadd (hadd h bn (.cells (nodeC m kv) false)) ba (.cells (nodeC m kv) false)) b3 (.cells [.str op,.str tx,.int .i64 a,.sl ba 0 4 1] false)) p b8 b3 op tx a [m] (.sl ba 0 4 1) ∧
  PAt h0 (hadd (hadd (hadd h bn (.cells (nodeC m kv) false)) ba (.cells (nodeC m kv) false)) b3 (.cells [.str op,.str tx,.int .i64 a,.sl ba 0 4 1] false)) p tb T s:=by
 have na:ba ≠ bn:=fun e=>by rw [e] at ha; simp [hadd,hset] at ha
 have ha':h ba = none:=by rw [hadd_ne' na] at ha; exact ha
 refine ⟨none_ne hn K.c3,none_ne ha' K.c3,K.st ?_ (SlAt.first' (K.hz A) (fun y hy=>Ne.symm (A.ne hy)) hn ha (CellsV.one (NodeV.of k))),((A.put hn).put ha).over K.z3 K.n3⟩
 rw [hadd_ne' (none_ne ha' K.c8),hadd_ne' (none_ne hn K.c8)]; exact K.c8
theorem Slot.more {b:Nat} (K:Slot h0 h p b8 b3 op tx a l (.sl b 0 4 l.length)) (A:PAt h0 h p tb T s) {bn ba:Nat} {m:Tree} {kv:V} {cs:List V} (hl:l ≠ []) (hc:h b = some (.cells cs false)) (hn:h bn = none) (nab:ba ≠ b) (ha:hadd h bn (.cells (nodeC m kv) false) ba = none) (k:KidsV (hadd (gg h0 b8 b3) b (.cells [] false)) h p m.kids kv) :
  b3 ≠ bn ∧ b3 ≠ ba ∧ b ≠ b3 ∧ b ≠ bn ∧ cs.length = 4 * l.length ∧ Slot h0 (hadd (hadd (hset (hadd h bn (.cells (nodeC m kv) false)) b none) ba (.cells (cs ++ nodeC m kv) false)) b3 (.cells [.str op,.str tx,.int .i64 a,.sl ba 0 4 (l.length + 1)] false)) p b8 b3 op tx a (l ++ [m]) (.sl ba 0 4 (l.length + 1)) ∧
  PAt h0 (hadd (hadd (hset (hadd h bn (.cells (nodeC m kv) false)) b none) ba (.cells (cs ++ nodeC m kv) false)) b3 (.cells [.str op,.str tx,.int .i64 a,.sl ba 0 4 (l.length + 1)] false)) p tb T s:=by
 have na:ba ≠ bn:=fun e=>by rw [e] at ha; simp [hadd,hset] at ha
 have ha':h ba = none:=by rw [hadd_ne' na] at ha; exact ha
 rcases K.row with ⟨e,_⟩ | ⟨b',cs',q1,q2,q3,q4,q5,q6⟩
 ·exact absurd e hl
 cases q4
 rw [hc] at q5; cases q5
 obtain ⟨w1,w2,w3⟩:=gg_none q2
 refine ⟨none_ne hn K.c3,none_ne ha' K.c3,w1,none_ne hn hc,q6.len,K.st ?_ (SlAt.more' (K.hz A) (fun y hy=>Ne.symm (A.ne hy)) q1 q6 hn nab ha (CellsV.one (NodeV.of k))),(((A.put hn).lose w3 q3).put (by unfold hset; rw [if_neg nab]; exact ha)).over K.z3 K.n3⟩
 rw [hadd_ne' (none_ne ha' K.c8)]; unfold hset; rw [if_neg (Ne.symm w2)]; show hadd h bn _ b8 = _; rw [hadd_ne' (none_ne hn K.c8)]; exact K.c8
theorem Slot.kid (K:Slot h0 h p b8 b3 op tx a l v) (A:PAt h0 h p tb T s) {l':List Tree} {w:V} (k:KidsV (hset h p none) h' p l' w):KidsV (gg h0 b8 b3) h' p l' w :=
 KidsV.move (fun y o z nx hy=>⟨by
  rw [show hset h p none y = h y from if_neg nx] at z
  exact K.hz A y z,hy⟩) k
theorem Slot.kid2 {b:Nat} {o:AObj} (K:Slot h0 h p b8 b3 op tx a l v) (A:PAt h0 h p tb T s) (hb:h b = some o) {l':List Tree} {w:V} (k:KidsV (hset h p none) h' p l' w):KidsV (hadd (gg h0 b8 b3) b (.cells [] false)) h' p l' w :=
 KidsV.move (fun y o' z nx hy=>⟨by
  rw [show hset h p none y = h y from if_neg nx] at z
  rw [hadd_ne' (none_ne z hb).symm]
  exact K.hz A y z,hy⟩) k
theorem Slot.ret (K:Slot h0 h p b8 b3 op tx a l v) (A:PAt h0 h p tb T s) (o:AObj):PAt h0 (hadd h b8 o) p tb T s ∧ NodeV h0 (hadd h b8 o) p (.nd op tx a l) (.agg [.str op,.str tx,.int .i64 a,v]) :=
 ⟨A.over K.z8 K.n8,.mk (KidsV.move (fun y o z nx hy=>⟨(gg_none z).2.2,by rw [hadd_ne' (gg_none z).2.1]; exact hy⟩) K.row.kids)⟩
theorem parN_fwd (W:TkOk T N):∀ (k:Nat) {l:List Tree} {s:PS},SOk T N s → Fwd T N s (parN T k l s).2
 | 0,_,_,hs=>Fwd.refl hs
 | k + 1,l,s,hs=>by
   unfold parN
   split
   ·have f1:Fwd T N s (if l = [] then s else (s.expect T [44]).lines T):=by
     split
     ·exact Fwd.refl hs
     ·exact (expect_fwd W hs _).trans (lines_fwd W (expect_fwd W hs _).ok)
    have f2:=f1.trans (name_fwd W f1.ok [5])
    have f3:=f2.trans (lines_fwd W f2.ok)
    exact f3.trans (parN_fwd W k f3.ok)
   ·exact Fwd.refl hs
def itemG (T:List Tokn) (B E:PF) (s:PS):Tree × PS :=
 if s.isAt T [[66,69,71,73,78]] = true then (nodeM [98,101,103,105,110] [(B (s.step T)).1],(B (s.step T)).2)
 else if s.isAt T [[69,78,68]] = true then (nodeM [101,110,100] [(B (s.step T)).1],(B (s.step T)).2)
 else if s.isAt T [[102,117,110,99,116,105,111,110]] = true then
  let x:=(s.step T).name T [5,6]
  let y:=parN T (T.length + 1) [] ((x.2.expect T [40]).lines T)
  let z:=B ((y.2.expect T [41]).lines T)
  (leafM [102,117,110,99] x.1 (y.1 ++ [z.1]),z.2)
 else if s.isAt T [[123]] = true then (nodeM [114,117,108,101] [nodeM [97,108,119,97,121,115] [],(B s).1],(B s).2)
 else
  let x:=E s
  if x.2.isAt T [[123]] = true then (nodeM [114,117,108,101] [x.1,(B x.2).1],(B x.2).2)
  else (nodeM [114,117,108,101] [x.1,nodeM [100,101,102,97,117,108,116] []],if (x.2.cur T).k ≠ 1 ∧ (x.2.cur T).k ≠ 0 ∧ x.2.isAt T [[59]] = false then x.2.fail T else x.2)
theorem itemM_eq (s:PS):itemM T s = itemG T (blockM T (stL T 51)) (lev T 51).expr s:=by
 unfold itemM itemG; rfl
theorem itemG_fwd (W:TkOk T N) {B E:PF} (CB:FC T N n c 41 B) (CE:FC T N n c 46 E) (hs:SOk T N s) (hl:lvl n c s):Fwd T N s (itemG T B E s).2 ∧ Adv s (itemG T B E s).2:=by
 have f1:=step_fwd W hs
 have l1:=hl.fwd f1
 unfold itemG
 split
 ·rename_i e; exact ⟨f1.trans (CB.fwd _ f1.ok l1),(at_adv W hs e).left (CB.fwd _ f1.ok l1)⟩
 split
 ·rename_i e; exact ⟨f1.trans (CB.fwd _ f1.ok l1),(at_adv W hs e).left (CB.fwd _ f1.ok l1)⟩
 split
 ·rename_i e
  dsimp only
  have g1:=name_fwd W f1.ok [5,6]
  have g2:=g1.trans (expect_fwd W g1.ok [40])
  have g3:=g2.trans (lines_fwd W g2.ok)
  have g4:=g3.trans (parN_fwd W (T.length + 1) (l:=[]) g3.ok)
  have g5:=g4.trans (expect_fwd W g4.ok [41])
  have g6:=g5.trans (lines_fwd W g5.ok)
  have g7:=g6.trans (CB.fwd _ g6.ok (l1.fwd g6))
  exact ⟨f1.trans g7,(at_adv W hs e).left g7⟩
 split
 ·exact ⟨CB.fwd _ hs hl,CB.adv _ hs hl⟩
 ·dsimp only
  have g:=CE.fwd _ hs hl
  have ga:=CE.adv _ hs hl
  split
  ·have g2:=CB.fwd _ g.ok (hl.fwd g)
   exact ⟨g.trans g2,ga.left g2⟩
  ·split
   ·exact ⟨g.trans (fail_fwd W g.ok),ga.left (fail_fwd W g.ok)⟩
   ·exact ⟨g,ga⟩
end Go.Proofs.YtkfbldogmgofoaaGreatDoor
namespace Go.Proofs.YtkfbldogmgofoaaGreatDoor
open Mir
variable {h:H} {Q:V → H → Prop} {h0 h1 h':H} {p tb:Nat} {T:List Tokn} {s s':PS} {N n c m:Nat}
theorem item_fc (W:TkOk T N) {B M:PF} (CB:FC T N n c 41 B) (CE:FC T N n c 46 M):FC T N n c 29 (itemG T B M):=by
 refine ⟨fun h0 h p tb s Q A hs hl hq=>?_,fun s hs hl=>(itemG_fwd W CB CE hs hl).1,fun s hs hl=>(itemG_fwd W CB CE hs hl).2⟩
 have f1:=step_fwd W hs
 have l1:=hl.fwd f1
 unfold itemG at hq
 refine AC.fn' (g:=g29) rfl (by simp only [List.length_cons,List.length_nil,g29]; decide) ?_; simp only [g29,Mir.Ab.all]
 refine W0 ?_
 intro b8 hb8
 have n8:=A.ne hb8
 have z8:=A.new hb8
 have A1:=A.put (o:=.cells Z4 false) hb8
 have bk:∀ {h5 h6:H} {s5:PS} {l:List Tree} {v:V},PAt h0 h5 p tb T s5 → h5 b8 = some (.cells Z4 false) → KidsV (hset h5 p none) h6 p l v → KidsV (hadd h0 b8 (.cells Z4 false)) h6 p l v:=fun {h5 h6 s5 l v} B hb k =>
  KidsV.move (fun x o z nx hx=>⟨by
   rw [show hset h5 p none x = h5 x from if_neg nx] at z
   rw [hadd_ne' (none_ne z hb).symm]; exact B.new z,hx⟩) k
 have fin:∀ (h7:H) (m:Tree) (s7:PS) (kv:V) (o:AObj),PAt h0 h7 p tb T s7 → KidsV (hadd h0 b8 (.cells Z4 false)) h7 p m.kids kv → (∀ h' v,PAt h0 h' p tb T s7 → NodeV h0 h' p m v → Q v h') → ∃ h3,Mir.Sub h3 (hadd h7 b8 o) ∧ Q (.agg (nodeC m kv)) h3:=fun h7 m s7 kv o B k hq' =>
  ⟨_,Sub.refl,hq' _ _ (B.over z8 (Ne.symm n8)) (NodeV.of (KidsV.move (fun x o z nx hx=>⟨(had_none z).2,by rw [hadd_ne' (had_none z).1]; exact hx⟩) k))⟩
 have r8:hadd h b8 (.cells Z4 false) b8 = _:=hadd_same
 refine W0 ?_
 refine accept_ac A1.re [66,69,71,73,78] fun h3 A2=>?_
 have A2':=A1.back A2
 have r8:=A2.keep (Ne.symm n8) r8
 cases e1:s.isAt T [[66,69,71,73,78]]
 case true =>
  simp only [e1,if_true] at hq A2'
  refine W0 ?_
  refine CB.run _ _ _ _ _ _ A2'.re f1.ok l1 fun h5 v A5 k5=>?_
  generalize B (s.step T) = x at hq A5 k5
  obtain ⟨m,r⟩:=x
  simp only at hq A5 k5
  obtain ⟨kv,rfl,kb⟩:=k5.inv
  have kf:=kb.flat
  have A5':=A2'.back A5
  have kg:=bk A2' r8 kb
  have r8:=A5.keep (Ne.symm n8) r8
  refine W1 kf ?_
  intro bs hbs
  have n8s:=none_ne hbs r8
  have kr:=row1 A5' r8 hbs kg
  have A6:=A5'.put (o:=.cells (nodeC m kv) false) hbs
  refine W0 ?_
  refine node_ac [98,101,103,105,110] (l:=[]) rfl ?_
  refine W1 r8 ?_
  exact fin _ (nodeM [98,101,103,105,110] [m]) _ _ _ A6 kr hq
 simp only [e1,if_false,Bool.false_eq_true] at hq A2'
 refine W0 ?_
 refine accept_ac A2'.re [69,78,68] fun h4 A3=>?_
 have A3':=A2'.back A3
 have r8:=A3.keep (Ne.symm n8) r8
 cases e2:s.isAt T [[69,78,68]]
 case true =>
  simp only [e2,if_true] at hq A3'
  refine W0 ?_
  refine CB.run _ _ _ _ _ _ A3'.re f1.ok l1 fun h5 v A5 k5=>?_
  generalize B (s.step T) = x at hq A5 k5
  obtain ⟨m,r⟩:=x
  simp only at hq A5 k5
  obtain ⟨kv,rfl,kb⟩:=k5.inv
  have kf:=kb.flat
  have A5':=A3'.back A5
  have kg:=bk A3' r8 kb
  have r8:=A5.keep (Ne.symm n8) r8
  refine W1 kf ?_
  intro bs hbs
  have n8s:=none_ne hbs r8
  have kr:=row1 A5' r8 hbs kg
  have A6:=A5'.put (o:=.cells (nodeC m kv) false) hbs
  refine W0 ?_
  refine node_ac [101,110,100] (l:=[]) rfl ?_
  refine W1 r8 ?_
  exact fin _ (nodeM [101,110,100] [m]) _ _ _ A6 kr hq
 simp only [e2,if_false,Bool.false_eq_true] at hq A3'
 refine W0 ?_
 refine accept_ac A3'.re [102,117,110,99,116,105,111,110] fun h5 A4=>?_
 have A4':=A3'.back A4
 have r8:=A4.keep (Ne.symm n8) r8
 cases e3:s.isAt T [[102,117,110,99,116,105,111,110]]
 case true =>
  simp only [e3,if_true] at hq A4'
  refine W0 ?_
  intro b1 hb1
  have n81:=none_ne hb1 r8
  have A5:=A4'.put (o:=.cells [.int .i64 5,.int .i64 6] false) hb1
  have r8:hadd h5 b1 (.cells [.int .i64 5,.int .i64 6] false) b8 = _:=(hadd_ne' n81).trans r8
  refine W0 ?_
  refine name_ac (ks:=[5,6]) A5.re hadd_same (by decide) fun h6 A6=>?_
  have A6':=A5.back A6
  have r8:=A6.keep (Ne.symm n8) r8
  have g1:=f1.trans (name_fwd W f1.ok [5,6])
  generalize PS.name T (s.step T) [5,6] = x at hq A6 A6' g1
  obtain ⟨nt,r1⟩:=x
  simp only at hq A6 A6' g1
  refine W0 ?_
  refine leaf_ac [102,117,110,99] nt rfl ?_
  refine W0 ?_
  intro b3 hb3
  have n3:=A6'.ne hb3
  have n83:=none_ne hb3 r8
  have A7:=A6'.put (o:=.cells [.str [102,117,110,99],.str nt.t,.int .i64 nt.a,.nilsl] false) hb3
  have K:Slot h0 (hadd h6 b3 (.cells [.str [102,117,110,99],.str nt.t,.int .i64 nt.a,.nilsl] false)) p b8 b3 [102,117,110,99] nt.t nt.a [] .nilsl :=
   ⟨(hadd_ne' n83).trans r8,z8,Ne.symm n8,hadd_same,A6'.new hb3,Ne.symm n3,n83,.inl ⟨rfl,rfl⟩⟩
  refine W0 ?_
  generalize hadd h6 b3 _ = h7 at A7 K ⊢
  refine expect_ac A7.re [40] fun h8 A8=>?_
  have A8':=A7.back A8
  have K8:=K.keep A8
  have g2:=g1.trans (expect_fwd W g1.ok [40])
  refine W0 ?_
  refine lines_ac A8'.re W.last fun h9 A9=>?_
  have A9':=A8'.back A9
  have K9:=K8.keep A9
  have g3:=g2.trans (lines_fwd W g2.ok)
  generalize hx:parN T (T.length + 1) [] ((r1.expect T [40]).lines T) = x at hq
  have g4:=g3.trans (parN_fwd W (T.length + 1) (l:=[]) g3.ok)
  rw [hx] at g4
  refine W0 ?_
  refine E.cut AC.mono (fun ex a' h'=>ex = .exit 1 ∧ a'.d = [] ∧ a'.t 0 = .ptr p 0 ∧ a'.t 2 = .ptr b8 0 ∧ a'.t 3 = .ptr b3 0 ∧ PAt h0 h' p tb T x.2 ∧ x.1.length ≤ T.length + 1 ∧ ∃ v,Slot h0 h' p b8 b3 [102,117,110,99] nt.t nt.a x.1 v) ?_ ?_
  ·refine E.loopX AC.mono (fun (y:Nat × List Tree × PS) a' h'=>parN T y.1 y.2.1 y.2.2 = x ∧ (y.2.2.err = 0 → T.length < y.2.2.i + y.1 ∧ y.2.1.length ≤ y.2.2.i) ∧ y.2.1.length ≤ T.length + 1 ∧ SOk T N y.2.2 ∧ PAt h0 h' p tb T y.2.2 ∧ (∃ v,Slot h0 h' p b8 b3 [102,117,110,99] nt.t nt.a y.2.1 v) ∧ a'.d = [] ∧ a'.t 0 = .ptr p 0 ∧ a'.t 2 = .ptr b8 0 ∧ a'.t 3 = .ptr b3 0) (fun y=>y.1) (T.length + 1,[],(r1.expect T [40]).lines T) ?_ ?_
   ·exact ⟨hx,fun _=>⟨by show T.length < ((r1.expect T [40]).lines T).i + (T.length + 1); omega,Nat.zero_le _⟩,Nat.zero_le _,g3.ok,A9',⟨.nilsl,K9⟩,rfl,rfl,rfl,rfl⟩
   ·rintro ⟨k,l,r⟩ ⟨t,ds⟩ h2 ⟨hk,hr,hll,sr,A3,⟨v,K3⟩,hd,t0,t2,t3⟩
    simp only at hk hr hll sr A3 K3 hd t0 t2 t3; subst hd
    have hp3:=A3.obj
    unfold psC at hp3
    have hlt:=A3.lt
    have sm:=A3.small
    by_cases e0:r.err = 0
    ·obtain ⟨hr1,hr2⟩:=hr e0
     obtain ⟨k,rfl⟩:∃ k',k = k' + 1:=⟨k - 1,by omega⟩
     refine W4 t0 t2 t3 hp3 ?_
     intro ba hba
     refine W4 t0 t2 t3 hp3 ?_
     refine at_ac (ss:=[[41]]) (A3.put hba) hadd_same (by decide) ?_
     have A4:=A3.put (o:=.cells [.str [41]] false) hba
     have K4:=K3.put (o:=.cells [.str [41]] false) hba
     cases ea:r.isAt T [[41]]
     ·rw [parN,if_pos ⟨e0,ea⟩] at hk
      simp only at hk
      have ll:=K3.row.ll
      have c3:=K3.c3
      have n3a:=none_ne hba c3
      have vf:=K3.row.kids.flat
      refine W6 t0 t2 t3 ll c3 vf ?_
      generalize hr1:(if l = [] then r else (r.expect T [44]).lines T) = r2 at hk
      have w1:Fwd T N r r2:=by
       rw [← hr1]; split
       ·exact Fwd.refl sr
       ·exact (expect_fwd W sr _).trans (lines_fwd W (expect_fwd W sr _).ok)
      refine goC_cut AC.mono (fun ex a' h'=>ex = .nm ∧ a'.d = [] ∧ a'.t 0 = .ptr p 0 ∧ a'.t 2 = .ptr b8 0 ∧ a'.t 3 = .ptr b3 0 ∧ PAt h0 h' p tb T r2 ∧ Slot h0 h' p b8 b3 [102,117,110,99] nt.t nt.a l v) ?_ ?_
      ·by_cases el:l = []
       ·rw [if_pos el] at hr1; subst hr1
        have:l.length = 0:=by rw [el]; rfl
        refine W3 t0 t2 t3 ?_
        exact ⟨A4,K4⟩
       ·rw [if_neg el] at hr1; subst hr1
        have:0 < l.length:=List.length_pos_iff.2 el
        refine W3 t0 t2 t3 ?_
        refine expect_ac A4.re [44] fun h4 A5=>?_
        refine W3 t0 t2 t3 ?_
        refine lines_ac (A4.back A5).re W.last fun h5 A6=>?_
        refine W3 t0 t2 t3 ?_
        exact ⟨(A4.back A5).back A6,(K4.keep A5).keep A6⟩
      ·rintro ex ⟨t,ds⟩ h4 ⟨rfl,hd,t0,t2,t3,A5,K5⟩
       simp only at hd t0 t2 t3; subst hd
       have c3:=K5.c3
       refine W5 t0 t2 t3 c3 vf ?_
       intro b5 hb5
       have A6:=A5.put (o:=.cells [.int .i64 5] false) hb5
       have K6:=K5.put (o:=.cells [.int .i64 5] false) hb5
       have n35:=none_ne hb5 c3
       refine W5 t0 t2 t3 c3 vf ?_
       refine name_ac (ks:=[5]) A6.re hadd_same (by decide) fun h6 A7=>?_
       have A7':=A6.back A7
       have K7:=K6.keep A7
       have w2:=w1.trans (name_fwd W w1.ok [5])
       have w2a:=Adv.right w1 (name_adv W w1.ok [5] (by decide)) (name_fwd W w1.ok [5])
       generalize PS.name T r2 [5] = y at hk A7 A7' w2 w2a
       obtain ⟨nu,r4⟩:=y
       simp only at hk A7 A7' w2 w2a
       have c3:=K7.c3
       have c8:=K7.c8
       have w3:=w2.trans (lines_fwd W w2.ok)
       have bnd:(r4.lines T).err = 0 → T.length < (r4.lines T).i + k ∧ (l ++ [leafM [112,97,114,97,109] nu []]).length ≤ (r4.lines T).i:=fun e1=>by
        have lf:=lines_fwd W w2.ok
        have:=lf.le
        rw [List.length_append]
        show _ ∧ l.length + 1 ≤ _
        rcases w2a e0 with d | d
        ·omega
        ·exact absurd (lf.err e1) d
       have bl:(l ++ [leafM [112,97,114,97,109] nu []]).length ≤ T.length + 1:=by
        rw [List.length_append]; show l.length + 1 ≤ _; omega
       refine W5 t0 t2 t3 c3 vf ?_
       refine leaf_ac [112,97,114,97,109] nu rfl ?_
       refine W5 t0 t2 t3 c3 vf ?_
       intro bn hbn
       have n3n:=none_ne hbn c3
       refine W5 t0 t2 t3 c3 vf ?_
       rcases K7.row with ⟨el,ev⟩ | ⟨b,cs,q1,q2,q3,q4,q5,q6⟩
       ·subst el; subst ev
        refine W4 t0 t2 t3 c3 ?_
        intro bz hbz
        obtain ⟨x1,x2,K8,A8⟩:=K7.first A7' (m:=leafM [112,97,114,97,109] nu []) (kv:=.nilsl) hbn hbz .nil
        refine W4 t0 t2 t3 c3 ?_
        refine lines_ac A8.re W.last fun h9 A9=>?_
        refine W3 t0 t2 t3 ?_
        exact ⟨(k,[leafM [112,97,114,97,109] nu []],r4.lines T),by show k < k + 1; omega,hk,bnd,bl,w3.ok,A8.back A9,_,K8.keep A9⟩
       ·subst q4
        have cl:=q6.len
        have nbn:=none_ne hbn q5
        have tk:List.take (l.length * 4) cs = cs:=List.take_of_length_le (by omega)
        refine W6 t0 t2 t3 q5 cl c3 ?_
        intro bz nab hbz
        obtain ⟨x1,x2,x3,x4,x5,K8,A8⟩:=K7.more A7' (m:=leafM [112,97,114,97,109] nu []) (kv:=.nilsl) q1 q5 hbn nab hbz .nil
        refine W5 t0 t2 t3 tk c3 ?_
        refine lines_ac A8.re W.last fun h9 A9=>?_
        refine W3 t0 t2 t3 ?_
        exact ⟨(k,l ++ [leafM [112,97,114,97,109] nu []],r4.lines T),by show k < k + 1; omega,hk,bnd,bl,w3.ok,A8.back A9,_,K8.keep A9⟩
     ·have fin:(l,r) = x:=by rw [← hk,parN,if_neg (by simp [ea])]
      rw [← fin]
      refine W3 t0 t2 t3 ?_
      exact ⟨A4,hll,v,K4⟩
    ·have fin:(l,r) = x:=by
      rw [← hk]; cases k with
      | zero=>rfl
      | succ k=>rw [parN,if_neg (by simp [e0])]
     rw [← fin]
     refine W4 t0 t2 t3 hp3 ?_
     exact ⟨A3,hll,v,K3⟩
  ·rintro ex ⟨t,ds⟩ h10 ⟨rfl,hd,t0,t2,t3,A10,hll,v,K10⟩
   simp only at hd t0 t2 t3; subst hd
   obtain ⟨l,r⟩:=x
   simp only at hq A10 hll K10 g4
   refine W3 t0 t2 t3 ?_
   refine expect_ac A10.re [41] fun h11 A11=>?_
   have A11':=A10.back A11
   have K11:=K10.keep A11
   have g5:=g4.trans (expect_fwd W g4.ok [41])
   refine W3 t0 t2 t3 ?_
   refine lines_ac A11'.re W.last fun h12 A12=>?_
   have A12':=A11'.back A12
   have K12:=K11.keep A12
   have g6:=g5.trans (lines_fwd W g5.ok)
   have c3:=K12.c3
   have vf:=K12.row.kids.flat
   refine W5 t0 t2 t3 c3 vf ?_
   refine CB.run _ _ _ _ _ _ A12'.re g6.ok (hl.fwd g6) fun h13 w A13 k13=>?_
   generalize B ((r.expect T [41]).lines T) = y at hq A13 k13
   obtain ⟨m2,r2⟩:=y
   simp only at hq A13 k13
   obtain ⟨kv2,rfl,kb2⟩:=k13.inv
   have kf2:=kb2.flat
   have A13':=A12'.back A13
   have K13:=K12.keep A13
   have c3':=K13.c3
   have c8':=K13.c8
   have sm:=A13'.small
   refine W6 t0 t2 t3 c3' vf kf2 ?_
   intro bn hbn
   have n3n:=none_ne hbn c3'
   have n8n:=none_ne hbn c8'
   refine W6 t0 t2 t3 c3' vf kf2 ?_
   rcases K13.row with ⟨el,ev⟩ | ⟨b,cs,q1,q2,q3,q4,q5,q6⟩
   ·subst el; subst ev
    refine W4 t0 t2 t3 c3' ?_
    intro bz hbz
    obtain ⟨x1,x2,K14,A14⟩:=K13.first A13' hbn hbz (K12.kid A12' kb2)
    have hbz':h13 bz = none:=by
     have n:bz ≠ bn:=fun e=>by rw [e,hadd_same] at hbz; cases hbz
     rw [hadd_ne' n] at hbz; exact hbz
    have n8z:=none_ne hbz' c8'
    refine W5 t0 t2 t3 c3' c8' ?_
    obtain ⟨A15,k15⟩:=K14.ret A14 (.cells (nodeC (leafM [102,117,110,99] nt [m2]) (.sl bz 0 4 1)) false)
    exact ⟨_,Sub.refl,hq _ _ A15 k15⟩
   ·subst q4
    have cl:=q6.len
    have nbn:=none_ne hbn q5
    have tk:List.take (l.length * 4) cs = cs:=List.take_of_length_le (by omega)
    have hb12:∃ o,h12 b = some o:=by
     rcases K12.row with ⟨e,ev⟩ | ⟨b',cs',w1,w2,w3,w4,w5,w6⟩
     ·cases ev
     ·cases w4; exact ⟨_,w5⟩
    obtain ⟨ob,hb12⟩:=hb12
    refine W6 t0 t2 t3 q5 cl c3' ?_
    intro bz nab hbz
    obtain ⟨x1,x2,x3,x4,x5,K14,A14⟩:=K13.more A13' q1 q5 hbn nab hbz (K12.kid2 A12' hb12 kb2)
    have hbz':h13 bz = none:=by
     have n:bz ≠ bn:=fun e=>by rw [e,hadd_same] at hbz; cases hbz
     rw [hadd_ne' n] at hbz; exact hbz
    have n8z:=none_ne hbz' c8'
    have nb8:=(gg_none q2).2.1
    refine W6 t0 t2 t3 tk c3' c8' ?_
    obtain ⟨A15,k15⟩:=K14.ret A14 (.cells (nodeC (leafM [102,117,110,99] nt (l ++ [m2])) (.sl bz 0 4 (l.length + 1))) false)
    exact ⟨_,Sub.refl,hq _ _ A15 k15⟩
 simp only [e3,if_false,Bool.false_eq_true] at hq A4'
 refine W0 ?_
 intro b1 hb1
 have n81:=none_ne hb1 r8
 have A5:=A4'.put (o:=.cells [.str [123]] false) hb1
 have r8:hadd h5 b1 (.cells [.str [123]] false) b8 = _:=(hadd_ne' n81).trans r8
 refine W0 ?_
 refine at_ac (ss:=[[123]]) A5 hadd_same (by decide) ?_
 cases e4:s.isAt T [[123]]
 case true =>
  simp only [e4,if_true] at hq
  refine W0 ?_
  refine node_ac [97,108,119,97,121,115] (l:=[]) rfl ?_
  refine W0 ?_
  refine CB.run _ _ _ _ _ _ A5.re hs hl fun h6 v A6 k6=>?_
  generalize B s = x at hq A6 k6
  obtain ⟨m,r⟩:=x
  simp only at hq A6 k6
  obtain ⟨kv,rfl,kb⟩:=k6.inv
  have kf:=kb.flat
  have A6':=A5.back A6
  have kg:=bk A5 r8 kb
  have r8:=A6.keep (Ne.symm n8) r8
  refine W1 kf ?_
  intro bs hbs
  have n8s:=none_ne hbs r8
  have A7:=A6'.put (o:=.cells (nodeC (nodeM [97,108,119,97,121,115] []) .nilsl ++ nodeC m kv) false) hbs
  have kr:KidsV (hadd h0 b8 (.cells Z4 false)) (hadd h6 bs (.cells (nodeC (nodeM [97,108,119,97,121,115] []) .nilsl ++ nodeC m kv) false)) p [nodeM [97,108,119,97,121,115] [],m] (.sl bs 0 4 2) :=
   .sl (by simp) (by rw [hadd_ne' (Ne.symm n8s)]; exact A6'.new hbs) (Ne.symm (A6'.ne hbs)) hadd_same ((CellsV.one (NodeV.of (t:=nodeM [97,108,119,97,121,115] []) .nil)).app (CellsV.one (NodeV.of (kg.put hbs))))
  refine W0 ?_
  refine node_ac [114,117,108,101] (l:=[]) rfl ?_
  refine W1 r8 ?_
  exact fin _ (nodeM [114,117,108,101] [nodeM [97,108,119,97,121,115] [],m]) _ _ _ A7 kr hq
 simp only [e4,if_false,Bool.false_eq_true] at hq
 refine W0 ?_
 refine CE.run _ _ _ _ _ _ A5.re hs hl fun h6 v A6 k6=>?_
 have g:=CE.fwd _ hs hl
 generalize M s = x at hq A6 k6 g
 obtain ⟨m,r⟩:=x
 simp only at hq A6 k6 g
 obtain ⟨kv,rfl,kb⟩:=k6.inv
 have kf:=kb.flat
 have A6':=A5.back A6
 have kg:=bk A5 r8 kb
 have r8:=A6.keep (Ne.symm n8) r8
 refine W1 kf ?_
 intro bs hbs
 have n8s:=none_ne hbs r8
 have kr:=row1 A6' r8 hbs kg
 have A7:=A6'.put (o:=.cells (nodeC m kv) false) hbs
 refine W0 ?_
 refine node_ac [114,117,108,101] (l:=[]) rfl ?_
 refine W0 ?_
 intro b3 hb3
 have n3:=A7.ne hb3
 have z3:=A7.new hb3
 have u8:hadd h6 bs (.cells (nodeC m kv) false) b8 = _:=(hadd_ne' n8s).trans r8
 have n83:=none_ne hb3 u8
 have A8:=A7.put (o:=.cells [.str [114,117,108,101],.str [],.int .i64 0,.sl bs 0 4 1] false) hb3
 have K:Slot h0 (hadd (hadd h6 bs (.cells (nodeC m kv) false)) b3 (.cells [.str [114,117,108,101],.str [],.int .i64 0,.sl bs 0 4 1] false)) p b8 b3 [114,117,108,101] [] 0 [m] (.sl bs 0 4 1) :=
  ⟨(hadd_ne' n83).trans u8,z8,Ne.symm n8,hadd_same,z3,Ne.symm n3,n83,by
    have S0:SlAt (hadd h0 b8 (.cells Z4 false)) (hadd h6 bs (.cells (nodeC m kv) false)) p [m] (.sl bs 0 4 1):=SlAt.new (g:=hadd h0 b8 (.cells Z4 false)) (h:=h6) (fun x hx=>by rw [hadd_ne' (none_ne hx r8).symm]; exact A6'.new hx) hbs (Ne.symm (A6'.ne hbs)) (l:=[m]) (by simp) (CellsV.one (NodeV.of kg))
    exact SlAt.move (fun x o z nx hx=>⟨gg_of (none_ne hb3 hx) (had_none z).1 (had_none z).2,by rw [hadd_ne' (none_ne hb3 hx)]; exact hx⟩) S0⟩
 refine W0 ?_
 intro b4 hb4
 have A9:=A8.put (o:=.cells [.str [123]] false) hb4
 have K9:=K.put (o:=.cells [.str [123]] false) hb4
 refine W0 ?_
 refine at_ac (ss:=[[123]]) A9 hadd_same (by decide) ?_
 have smT:=A9.small
 have grow:∀ (h7:H) (s7:PS) (m2:Tree) (kv2:V) (bn ba:Nat) (K7:Slot h0 h7 p b8 b3 [114,117,108,101] [] 0 [m] (.sl bs 0 4 1)) (A7:PAt h0 h7 p tb T s7),True:=fun _ _ _ _ _ _ _ _=>trivial
 cases e5:r.isAt T [[123]]
 case true =>
  simp only [e5,if_true] at hq
  have c3:=K9.c3
  refine W1 c3 ?_
  refine CB.run _ _ _ _ _ _ A9.re g.ok (hl.fwd g) fun h10 v A10 k10=>?_
  generalize B r = y at hq A10 k10
  obtain ⟨m2,r2⟩:=y
  simp only at hq A10 k10
  obtain ⟨kv2,rfl,kb2⟩:=k10.inv
  have kf2:=kb2.flat
  have A10':=A9.back A10
  have K10:=K9.keep A10
  have c3':=K10.c3
  have c8':=K10.c8
  refine W2 c3' kf2 ?_
  intro bn hbn
  refine W2 c3' kf2 ?_
  rcases K10.row with ⟨e,_⟩ | ⟨b,cs,q1,q2,q3,q4,q5,q6⟩
  ·cases e
  cases q4
  have cl:=q6.len
  simp only [List.length_cons,List.length_nil] at cl
  have nbn:=none_ne hbn q5
  have n3n:=none_ne hbn c3'
  have n8n:=none_ne hbn c8'
  have tk:List.take 4 cs = cs:=List.take_of_length_le (by omega)
  refine W3 q5 cl c3' ?_
  intro ba nab hba
  have hb9:∃ o,hadd (hadd (hadd h6 bs (.cells (nodeC m kv) false)) b3 (.cells [.str [114,117,108,101],.str [],.int .i64 0,.sl bs 0 4 1] false)) b4 (.cells [.str [123]] false) bs = some o:=by
   rcases K9.row with ⟨e,_⟩ | ⟨b,cs',w1,w2,w3,w4,w5,w6⟩
   ·cases e
   ·cases w4; exact ⟨_,w5⟩
  obtain ⟨ob,hb9⟩:=hb9
  obtain ⟨x1,x2,x3,x4,x5,K11,A11⟩:=K10.more A10' (by simp) q5 hbn nab hba (K9.kid2 A9 hb9 kb2)
  have hba':h10 ba = none:=by
   have n:ba ≠ bn:=fun e=>by rw [e,hadd_same] at hba; cases hba
   rw [hadd_ne' n] at hba; exact hba
  have n8a:=none_ne hba' c8'
  have nb8:=(gg_none q2).2.1
  refine W3 tk c3' c8' ?_
  obtain ⟨A12,k12⟩:=K11.ret A11 (.cells (nodeC (nodeM [114,117,108,101] [m,m2]) (.sl ba 0 4 2)) false)
  exact ⟨_,Sub.refl,hq _ _ A12 k12⟩
 simp only [e5,if_false,Bool.false_eq_true] at hq
 refine W0 ?_
 refine cur_ac A9 ?_
 obtain ⟨tt,ht⟩:∃ tt,tt = r.cur T:=⟨_,rfl⟩
 rw [← ht] at hq ⊢
 rw [tok3]
 refine W0 ?_
 intro b5 hb5
 have A10:=A9.put (o:=.cells [.int .i64 tt.k,.str tt.t,.int .i64 tt.a] false) hb5
 have K10:=K9.put (o:=.cells [.int .i64 tt.k,.str tt.t,.int .i64 tt.a] false) hb5
 refine W0 ?_
 obtain ⟨rE,hrE⟩:∃ rE,rE = if tt.k ≠ 1 ∧ tt.k ≠ 0 ∧ r.isAt T [[59]] = false then r.fail T else r:=⟨_,rfl⟩
 rw [← hrE] at hq
 refine goG_cut AC.mono (fun a' h'=>a'.d = [] ∧ a'.t 0 = .ptr p 0 ∧ a'.t 2 = .ptr b8 0 ∧ a'.t 4 = .ptr b3 0 ∧ a'.t 112 = .bool (decide (tt.k ≠ 1 ∧ tt.k ≠ 0 ∧ r.isAt T [[59]] = false)) ∧ PAt h0 h' p tb T r ∧ Slot h0 h' p b8 b3 [114,117,108,101] [] 0 [m] (.sl bs 0 4 1)) ?_ ?_
 ·by_cases k1:tt.k = 1
  ·rw [show decide (tt.k ≠ 1 ∧ tt.k ≠ 0 ∧ r.isAt T [[59]] = false) = false from decide_eq_false fun x=>x.1 k1]
   refine W0 ?_
   exact ⟨A10,K10⟩
  ·by_cases k0:tt.k = 0
   ·rw [show decide (tt.k ≠ 1 ∧ tt.k ≠ 0 ∧ r.isAt T [[59]] = false) = false from decide_eq_false fun x=>x.2.1 k0]
    refine W0 ?_
    exact ⟨A10,K10⟩
   ·have ed:decide (tt.k ≠ 1 ∧ tt.k ≠ 0 ∧ r.isAt T [[59]] = false) = !r.isAt T [[59]]:=by
     cases r.isAt T [[59]]
     ·exact decide_eq_true ⟨k1,k0,rfl⟩
     ·exact decide_eq_false fun x=>by cases x.2.2
    rw [ed]
    refine W0 ?_
    intro b7 hb7
    refine W0 ?_
    refine at_ac (ss:=[[59]]) (A10.put hb7) hadd_same (by decide) ?_
    refine W0 ?_
    exact ⟨A10.put hb7,K10.put hb7⟩
 ·rintro ⟨t,ds⟩ h11 ⟨hd,t0,t2,t4,t112,A11,K11⟩
  simp only at hd t0 t2 t4 t112; subst hd
  refine W1 t112 ?_
  refine goC_cut AC.mono (fun ex a' h'=>ex = .nm ∧ a'.d = [] ∧ a'.t 0 = .ptr p 0 ∧ a'.t 2 = .ptr b8 0 ∧ a'.t 4 = .ptr b3 0 ∧ PAt h0 h' p tb T rE ∧ Slot h0 h' p b8 b3 [114,117,108,101] [] 0 [m] (.sl bs 0 4 1)) ?_ ?_
  ·by_cases cE:tt.k ≠ 1 ∧ tt.k ≠ 0 ∧ r.isAt T [[59]] = false
   ·rw [if_pos cE] at hrE
    rw [decide_eq_true cE]
    refine W1 t0 ?_
    refine fail_ac A11.re fun h12 A12=>?_
    rw [← hrE] at A12
    refine W3 t0 t2 t4 ?_
    exact ⟨A11.back A12,K11.keep A12⟩
   ·rw [if_neg cE] at hrE
    rw [decide_eq_false cE]
    subst hrE
    refine W3 t0 t2 t4 ?_
    exact ⟨A11,K11⟩
  ·rintro ex ⟨t,ds⟩ h12 ⟨rfl,hd,t0,t2,t4,A12,K12⟩
   simp only at hd t0 t2 t4; subst hd
   have c3':=K12.c3
   have c8':=K12.c8
   refine W4 t0 t2 t4 c3' ?_
   refine node_ac [100,101,102,97,117,108,116] (l:=[]) rfl ?_
   refine W4 t0 t2 t4 c3' ?_
   intro bn hbn
   refine W4 t0 t2 t4 c3' ?_
   rcases K12.row with ⟨e,_⟩ | ⟨b,cs,q1,q2,q3,q4,q5,q6⟩
   ·cases e
   cases q4
   have cl:=q6.len
   simp only [List.length_cons,List.length_nil] at cl
   have nbn:=none_ne hbn q5
   have n3n:=none_ne hbn c3'
   have n8n:=none_ne hbn c8'
   have tk:List.take 4 cs = cs:=List.take_of_length_le (by omega)
   refine W6 t0 t2 t4 q5 cl c3' ?_
   intro ba nab hba
   obtain ⟨x1,x2,x3,x4,x5,K13,A13⟩:=K12.more A12 (m:=nodeM [100,101,102,97,117,108,116] []) (kv:=.nilsl) (by simp) q5 hbn nab hba .nil
   have hba':h12 ba = none:=by
    have n:ba ≠ bn:=fun e=>by rw [e,hadd_same] at hba; cases hba
    rw [hadd_ne' n] at hba; exact hba
   have n8a:=none_ne hba' c8'
   have nb8:=(gg_none q2).2.1
   refine W6 t0 t2 t4 tk c3' c8' ?_
   obtain ⟨A14,k14⟩:=K13.ret A13 (.cells (nodeC (nodeM [114,117,108,101] [m,nodeM [100,101,102,97,117,108,116] []]) (.sl ba 0 4 2)) false)
   exact ⟨_,Sub.refl,hq _ _ A14 k14⟩
end Go.Proofs.YtkfbldogmgofoaaGreatDoor
namespace Go.Proofs.YtkfbldogmgofoaaGreatDoor
open Mir
variable {h:H} {Q:V → H → Prop} {h0 h1 h':H} {p tb:Nat} {T:List Tokn} {s s':PS} {N n c m:Nat}
theorem items_fc (W:TkOk T N):FC T N 51 60 29 (itemM T) :=
 (item_fc W (block_fc W (stmts W 51 60 (by omega))) (good W 51 60 (by omega)).expr).congr fun s _ _=>(itemM_eq s).symm
def ps0:PS:=⟨0,0,false,0,0⟩
theorem parse_ac {src:Txt} {mm:Int} (Wd:Words h) (hM:h 4 = some (.cells [.int .i64 mm] true)) (hs:src.length ≤ 4000)
  (hT:∀ T,lexT src = .inr T → TkOk T src.length ∧ 0 < T.length ∧ T.length ≤ 100000)
  (hq0:∀ j h',lexT src = .inl j → j ≤ src.length → Sub h h' → Q (.tup [.agg Z4,.int .i64 j,.int .i64 9]) h')
  (hq1:∀ T a e h',lexT src = .inr T → parseM T = .inr (a,e) → Sub h h' → Q (.tup [.agg Z4,.int .i64 a,.int .i64 e]) h')
  (hq2:∀ T t v p h',lexT src = .inr T → parseM T = .inl t → Sub h h' → NodeV h h' p t v → Q (.tup [v,.int .i64 0,.int .i64 0]) h'):AC pg (.fn 14) [.str src] h Q:=by
 refine AC.fn' (g:=g14) rfl (by simp only [List.length_cons,List.length_nil,g14]; decide) ?_; simp only [g14,Mir.Ab.all]
 refine W0 ?_
 intro b2 hb2
 have Wd2:Words (hadd h b2 (.cells Z4 false)):=Wd.sub (Sub.refl.put hb2)
 have hM2:hadd h b2 (.cells Z4 false) 4 = some (.cells [.int .i64 mm] true):=by rw [hadd_ne' (none_ne hb2 hM)]; exact hM
 refine W0 ?_
 refine lex_ac Wd2 hM2 hs (fun j h3 e1 e2 s3=>?_) fun T tb h3 e1 e2 s3 e4=>?_
 ·have c2:=s3 b2 (.cells Z4 false) hadd_same
  unfold Z4 at c2
  refine W1 c2 ?_
  exact ⟨_,fun x o hx=>by rw [hadd_ne' (none_ne hb2 hx)]; exact s3 _ _ (by rw [hadd_ne' (none_ne hb2 hx)]; exact hx),hq0 _ _ e1 e2 Sub.refl⟩
 ·obtain ⟨W,tpos,tlen⟩:=hT T e1
  have CI:=items_fc W
  have c2:=s3 b2 (.cells Z4 false) hadd_same
  have ntb:tb ≠ b2:=fun e=>by rw [e,hadd_same] at e2; cases e2
  have sh:Sub h h3:=fun x o hx=>s3 _ _ (by rw [hadd_ne' (none_ne hb2 hx)]; exact hx)
  refine W0 ?_
  intro p hp
  have np2:b2 ≠ p:=none_ne hp c2
  obtain ⟨hB,hhB⟩:∃ hB:H,hB = hset h3 b2 none:=⟨_,rfl⟩
  have B0:∀ x o,hB x = some o → x ≠ b2 ∧ h3 x = some o:=fun x o hx=>by
   rw [hhB] at hx; unfold hset at hx; split at hx
   ·cases hx
   ·exact ⟨by assumption,hx⟩
  have sB:Sub h hB:=fun x o hx=>by rw [hhB]; unfold hset; rw [if_neg (none_ne hb2 hx)]; exact sh _ _ hx
  have A0:PAt hB (hadd h3 p (.cells (psC tb T.length ps0) false)) p tb T ps0 :=
   ⟨hadd_same,by rw [hhB]; unfold hset; rw [if_neg ntb]; exact e4,⟨mm,sB _ _ hM⟩,by
    (cases e:hB p with
    | none=>rfl
    | some o=>have:=(B0 _ _ e).2; rw [hp] at this; cases this),fun x o hx=>by rw [hadd_ne' (none_ne hp (B0 _ _ hx).2)]; exact (B0 _ _ hx).2,tlen,tpos,by show 0 ≤ 100000; omega⟩
  have hz2:hB b2 = none:=by rw [hhB]; simp [hset]
  have r2:hadd h3 p (.cells (psC tb T.length ps0) false) b2 = some (.cells Z4 false):=by rw [hadd_ne' np2]; exact c2
  have s0:SOk T src.length ps0:=⟨tpos,.inl rfl,Nat.zero_le _,fun _=>Nat.zero_le _⟩
  have l0:lvl 51 60 ps0:=⟨fun _=>rfl,Nat.zero_le _⟩
  unfold psC ps0 at A0 r2
  refine W0 ?_
  refine node_ac [112,114,111,103,114,97,109] (l:=[]) rfl ?_
  refine W0 ?_
  intro b9 hb9
  have n9:=A0.ne hb9
  have n29:=none_ne hb9 r2
  have A1:=A0.put (o:=.cells [.str [112,114,111,103,114,97,109],.str [],.int .i64 0,.nilsl] false) hb9
  have K:Slot hB (hadd (hadd h3 p (.cells [.sl tb 0 3 T.length,.int .i64 (0:Nat),.int .i64 (0:Nat),.bool false,.int .i64 (0:Nat),.int .i64 (0:Nat)] false)) b9 (.cells [.str [112,114,111,103,114,97,109],.str [],.int .i64 0,.nilsl] false)) p b2 b9 [112,114,111,103,114,97,109] [] 0 [] .nilsl :=
   ⟨(hadd_ne' n29).trans r2,hz2,np2,hadd_same,A0.new hb9,Ne.symm n9,n29,.inl ⟨rfl,rfl⟩⟩
  refine W0 ?_
  obtain ⟨x,hx⟩:∃ x,x = itemsN T (T.length + 1) [] ps0:=⟨_,rfl⟩
  have hpm:parseM T = if x.2.err ≠ 0 then .inr (x.2.bad,x.2.err) else .inl (nodeM [112,114,111,103,114,97,109] x.1):=by rw [hx]; rfl
  refine E.cut AC.mono (fun ex a' h'=>ex = .exit 0 ∧ a'.d = [] ∧ a'.t 2 = .ptr b2 0 ∧ a'.t 8 = .ptr p 0 ∧ a'.t 9 = .ptr b9 0 ∧ PAt hB h' p tb T x.2 ∧ ∃ v,Slot hB h' p b2 b9 [112,114,111,103,114,97,109] [] 0 x.1 v) ?_ ?_
  ·refine E.loopX AC.mono (fun (y:Nat × List Tree × PS) a' h'=>itemsN T y.1 y.2.1 y.2.2 = x ∧ (y.2.2.err = 0 → T.length < y.2.2.i + y.1 ∧ y.2.1.length ≤ y.2.2.i) ∧ SOk T src.length y.2.2 ∧ lvl 51 60 y.2.2 ∧ PAt hB h' p tb T y.2.2 ∧ (∃ v,Slot hB h' p b2 b9 [112,114,111,103,114,97,109] [] 0 y.2.1 v) ∧ a'.d = [] ∧ a'.t 2 = .ptr b2 0 ∧ a'.t 8 = .ptr p 0 ∧ a'.t 9 = .ptr b9 0) (fun y=>y.1) (T.length + 1,[],ps0) ?_ ?_
   ·exact ⟨hx.symm,fun _=>⟨by show T.length < 0 + (T.length + 1); omega,Nat.zero_le _⟩,s0,l0,A1,⟨.nilsl,K⟩,rfl,rfl,rfl,rfl⟩
   ·rintro ⟨k,l,r⟩ ⟨t,ds⟩ h4 ⟨hk,hr,sr,lr,A4,⟨v,K4⟩,hd,t2,t8,t9⟩
    simp only at hk hr sr lr A4 K4 hd t2 t8 t9; subst hd
    have hp4:=A4.obj
    unfold psC at hp4
    have hlt:=A4.lt
    have sm:=A4.small
    by_cases e0:r.err = 0
    ·obtain ⟨hr1,hr2⟩:=hr e0
     obtain ⟨k,rfl⟩:∃ k',k = k' + 1:=⟨k - 1,by omega⟩
     rw [itemsN,if_pos e0] at hk
     dsimp only at hk
     have fs:=skip_fwd W sr
     refine W4 t2 t8 t9 hp4 ?_
     refine E.cut AC.mono (fun ex a' h'=>ex = .exit 2 ∧ a'.d = [] ∧ a'.t 2 = .ptr b2 0 ∧ a'.t 8 = .ptr p 0 ∧ a'.t 9 = .ptr b9 0 ∧ PAt hB h' p tb T (r.skip T) ∧ Slot hB h' p b2 b9 [112,114,111,103,114,97,109] [] 0 l v) ?_ ?_
     ·refine E.loopX AC.mono (fun (y:Nat × PS) a' h'=>skipN T y.1 y.2 = r.skip T ∧ (y.2.err = 0 → T.length ≤ y.2.i + y.1) ∧ SOk T src.length y.2 ∧ PAt hB h' p tb T y.2 ∧ Slot hB h' p b2 b9 [112,114,111,103,114,97,109] [] 0 l v ∧ a'.d = [] ∧ a'.t 2 = .ptr b2 0 ∧ a'.t 8 = .ptr p 0 ∧ a'.t 9 = .ptr b9 0) (fun y=>y.1) (T.length,r) ?_ ?_
      ·exact ⟨rfl,fun _=>by show T.length ≤ r.i + T.length; omega,sr,A4,K4,rfl,t2,t8,t9⟩
      ·rintro ⟨k2,q⟩ ⟨t,ds⟩ h5 ⟨hk2,hq2,sq,A5,K5,hd,t2,t8,t9⟩
       simp only at hk2 hq2 sq A5 hd t2 t8 t9; subst hd
       refine W3 t2 t8 t9 ?_
       intro b1 hb1
       have A6:=A5.put (o:=.cells [.str [59]] false) hb1
       have K6:=K5.put (o:=.cells [.str [59]] false) hb1
       refine W3 t2 t8 t9 ?_
       refine at_ac (ss:=[[59]]) A6 hadd_same (by decide) ?_
       have go:q.isAt T [[59]] = true ∨ (q.cur T).k = 1 → ∀ h6,PAt (hset (hadd h5 b1 (.cells [.str [59]] false)) p none) h6 p tb T (q.step T) → ∃ x':Nat × PS,x'.1 < k2 ∧ skipN T x'.1 x'.2 = r.skip T ∧ (x'.2.err = 0 → T.length ≤ x'.2.i + x'.1) ∧ SOk T src.length x'.2 ∧ PAt hB h6 p tb T x'.2 ∧ Slot hB h6 p b2 b9 [112,114,111,103,114,97,109] [] 0 l v:=fun hc h6 A7=>by
        have ek:(q.cur T).k ≠ 0:=by rcases hc with e | e; (rcases at_k e with e | e <;> omega); omega
        have eq0:=cur_err ek
        have nl:=not_last W ek sq
        obtain ⟨k3,rfl⟩:∃ k',k2 = k' + 1:=⟨k2 - 1,by have:=hq2 eq0; have:=sq.lt; omega⟩
        rw [skipN,if_pos hc] at hk2
        refine ⟨(k3,q.step T),by show k3 < k3 + 1; omega,hk2,fun e=>?_,(step_fwd W sq).ok,A6.back A7,K6.keep A7⟩
        have:=hq2 eq0
        show T.length ≤ (q.step T).i + k3
        rw [show q.step T = { q with i:=q.i + 1 } from by unfold PS.step; rw [if_pos ⟨eq0,nl⟩]]
        show T.length ≤ q.i + 1 + k3
        omega
       cases ea:q.isAt T [[59]]
       ·refine W3 t2 t8 t9 ?_
        refine cur_ac A6 ?_
        rw [tok3]
        by_cases k1:(q.cur T).k = 1
        ·refine W3 t2 t8 t9 ?_
         refine step_ac A6.re fun h6 A7=>?_
         refine W3 t2 t8 t9 ?_
         exact go (.inr k1) _ A7
        ·have:q = r.skip T:=by
          rw [← hk2]; cases k2 with
          | zero=>rfl
          | succ k2=>rw [skipN,if_neg (by simp [ea,k1])]
         subst this
         refine W3 t2 t8 t9 ?_
         exact ⟨A6,K6⟩
       ·refine W3 t2 t8 t9 ?_
        refine step_ac A6.re fun h6 A7=>?_
        refine W3 t2 t8 t9 ?_
        exact go (.inl ea) _ A7
     ·rintro ex ⟨t,ds⟩ h5 ⟨rfl,hd,t2,t8,t9,A5,K5⟩
      simp only at hd t2 t8 t9; subst hd
      refine W3 t2 t8 t9 ?_
      refine cur_ac A5 ?_
      rw [tok3]
      by_cases k0:((r.skip T).cur T).k = 0
      ·rw [if_pos k0] at hk
       rw [← hk]
       refine W4 t2 t8 t9 k0 ?_
       exact ⟨A5,v,K5⟩
      rw [if_neg k0] at hk
      have c35:=K5.c3
      have vf5:=K5.row.kids.flat
      refine W5 t2 t8 t9 c35 vf5 ?_
      refine CI.run _ _ _ _ _ _ A5.re fs.ok (lr.fwd fs) fun h7 w A7 k7=>?_
      have g2:=fs.trans (CI.fwd _ fs.ok (lr.fwd fs))
      have a2:=Adv.right fs (CI.adv _ fs.ok (lr.fwd fs)) (CI.fwd _ fs.ok (lr.fwd fs))
      generalize itemM T (r.skip T) = y at hk A7 k7 g2 a2
      obtain ⟨m,r2⟩:=y
      simp only at hk A7 k7 g2 a2
      obtain ⟨kv,rfl,kb⟩:=k7.inv
      have kf:=kb.flat
      have A7':=A5.back A7
      have K7:=K5.keep A7
      have c3:=K7.c3
      have c8:=K7.c8
      have vf:=K7.row.kids.flat
      have bnd:r2.err = 0 → T.length < r2.i + k ∧ (l ++ [m]).length ≤ r2.i:=fun e1=>by
       rw [List.length_append]
       show _ ∧ l.length + 1 ≤ _
       rcases a2 e0 with d | d
       ·omega
       ·exact absurd e1 d
      refine W6 t2 t8 t9 kf c3 vf ?_
      intro bn hbn
      have n3n:=none_ne hbn c3
      have n8n:=none_ne hbn c8
      rcases K7.row with ⟨el,ev⟩ | ⟨b,cs,q1,q2,q3,q4,q5,q6⟩
      ·subst el
       subst ev
       refine W4 t2 t8 t9 c3 ?_
       intro ba hba
       obtain ⟨x1,x2,K8,A8⟩:=K7.first A7' hbn hba (K5.kid A5 kb)
       refine W4 t2 t8 t9 c3 ?_
       exact ⟨(k,[m],r2),by show k < k + 1; omega,hk,bnd,g2.ok,lr.fwd g2,A8,.sl ba 0 4 1,K8⟩
      ·have cl:=q6.len
       have nbn:=none_ne hbn q5
       have tk:List.take (l.length * 4) cs = cs:=List.take_of_length_le (by omega)
       have nb3:=(gg_none q2).1
       have nb8:=(gg_none q2).2.1
       subst q4
       refine W6 t2 t8 t9 q5 cl c3 ?_
       intro ba nab hba
       have hb5:∃ o,h5 b = some o:=by
        rcases K5.row with ⟨e,ev⟩ | ⟨b',cs',w1,w2,w3,w4,w5,w6⟩
        ·cases ev
        ·cases w4; exact ⟨_,w5⟩
       obtain ⟨ob,hb5⟩:=hb5
       obtain ⟨x1,x2,x3,x4,x5,K8,A8⟩:=K7.more A7' q1 q5 hbn nab hba (K5.kid2 A5 hb5 kb)
       refine W5 t2 t8 t9 c3 tk ?_
       exact ⟨(k,l ++ [m],r2),by show k < k + 1; omega,hk,bnd,g2.ok,lr.fwd g2,A8,.sl ba 0 4 (l.length + 1),K8⟩
    ·have:x = (l,r):=by
      rw [← hk]; cases k with
      | zero=>rfl
      | succ k=>rw [itemsN,if_neg e0]
     subst this
     refine W4 t2 t8 t9 hp4 ?_
     exact ⟨A4,v,K4⟩
  ·rintro ex ⟨t,ds⟩ h4 ⟨rfl,hd,t2,t8,t9,A4,v,K4⟩
   simp only at hd t2 t8 t9; subst hd
   have hp4:=A4.obj
   unfold psC at hp4
   have c8:=K4.c8
   have c3:=K4.c3
   have vf:=K4.row.kids.flat
   have s4:∀ o,Sub h (hadd h4 b2 o):=fun o y o' hy=>by rw [hadd_ne' (none_ne hb2 hy)]; exact A4.sub _ _ (sB _ _ hy)
   by_cases ez:x.2.err = 0
   ·rw [if_neg (by omega)] at hpm
    refine W7 t2 t8 t9 hp4 c8 c3 vf ?_
    obtain ⟨A5,k5⟩:=K4.ret A4 (.cells (nodeC (nodeM [112,114,111,103,114,97,109] x.1) v) false)
    exact ⟨_,Sub.refl,hq2 _ _ _ p _ e1 hpm (s4 _) (k5.wk sB)⟩
   ·rw [if_pos ez] at hpm
    refine W5 t2 t8 t9 hp4 c8 ?_
    exact ⟨_,Sub.refl,hq1 _ _ _ _ e1 hpm (s4 _)⟩
end Go.Proofs.YtkfbldogmgofoaaGreatDoor
namespace Go.Proofs.YtkfbldogmgofoaaGreatDoor
open Mir
variable {h:H} {Q:V → H → Prop}
def parsedT (src:Txt):Tree ⊕ (Nat × Nat):=match lexT src with
 | .inl j=>.inr (j,9)
 | .inr T=>parseM T
theorem Parse_ac {src:Txt} {mm:Int} (Wd:Words h) (hM:h 4 = some (.cells [.int .i64 mm] true)) (hs:src.length ≤ 4000)
  (hq1:∀ a e h',parsedT src = .inr (a,e) → Sub h h' → Q (.tup [.agg Z4,.int .i64 a,.int .i64 e]) h')
  (hq2:∀ t v p h',parsedT src = .inl t → Sub h h' → NodeV h h' p t v → Q (.tup [v,.int .i64 0,.int .i64 0]) h'):AC pg (.fn 14) [.str src] h Q :=
 parse_ac Wd hM hs (fun T e=>lexM_ok hs e)
  (fun j h' e _ s=>hq1 j 9 h' (by unfold parsedT; rw [e]) s)
  (fun T a e h' l e' s=>hq1 a e h' (by unfold parsedT; rw [l]; exact e') s)
  (fun T t v p h' l e' s k=>hq2 t v p h' (by unfold parsedT; rw [l]; exact e') s k)
end Go.Proofs.YtkfbldogmgofoaaGreatDoor
namespace Mir
mutual
def spellT:Tree → Txt
 | .nd o t _ l=>40 :: o ++ ((if t = [] then [] else 32 :: UInt8.ofNat (48 + t.length) :: 58 :: t) ++ (spellsT l ++ [41]))
def spellsT:List Tree → Txt
 | []=>[]
 | k :: l=>32 :: spellT k ++ spellsT l
end
mutual
def tsz:Tree → Nat
 | .nd _ _ _ l=>tszs l + 1
def tszs:List Tree → Nat
 | []=>0
 | k :: l=>tsz k + tszs l + 1
end
mutual
def shortT:Tree → Bool
 | .nd _ t _ l=>decide (t.length < 10) && shortsT l
def shortsT:List Tree → Bool
 | []=>true
 | k :: l=>shortT k && shortsT l
end
theorem dig1:∀ n < 10,([48,49,50,51,52,53,54,55,56,57,97,98,99,100,101,102,103,104,105,106,107,108,109,110,111,112,113,114,115,116,117,118,119,120,121,122].take (n + 1)).drop n = [UInt8.ofNat (48 + n)]:=by decide +kernel
end Mir
namespace Go.Proofs.YtkfbldogmgofoaaGreatDoor
open Mir
variable {h:H} {Q:V → H → Prop} {h0 g:H} {p b:Nat} {t:Txt}
theorem CellsV.get:∀ {l:List Tree} {cs:List V},CellsV h0 h p l cs → ∀ {i:Nat},i < l.length → ∃ kv,(cs.drop (i * 4)).take 4 = nodeC (l.getD i .zero) kv ∧ KidsV h0 h p (l.getD i .zero).kids kv
 | _,_,.nil,i,hi=>absurd hi (Nat.not_lt_zero _)
 | _,_,.cons (kv:=kv) k c,0,_=>⟨kv,rfl,k⟩
 | _,_,.cons k c,i + 1,hi=>by
   obtain ⟨kv,e,k'⟩:=c.get (i:=i) (by simpa using hi)
   refine ⟨kv,?_,k'⟩
   rw [show (i + 1) * 4 = i * 4 + 4 from by omega]
   exact e
theorem BldAt.grow (B:BldAt g h b t) {c:Nat} (o:AObj) (hc:h c = none):BldAt (hadd g c o) (hadd h c o) b t:=by
 obtain ⟨⟨p,v,hb,hp,hv⟩,hw,hg,hs⟩:=B
 have nb:=none_ne hc hb
 refine ⟨⟨p,v,by rw [hadd_ne' nb]; exact hb,hp,?_⟩,hw,by rw [hadd_ne' nb]; exact hg,fun x o hx=>?_⟩
 ·rcases hv with hv | ⟨d,d0,d1,d2,d3,d4,d5⟩
  ·exact .inl hv
  ·have nd:=none_ne hc d5
   exact .inr ⟨d,d0,d1,by rw [hadd_ne' nd]; exact d2,d3,d4,by rw [hadd_ne' nd]; exact d5⟩
 ·by_cases e:x = c
  ·subst e; rw [hadd_same] at hx ⊢; exact hx
  ·rw [hadd_ne' e] at hx ⊢; exact hs _ _ hx
theorem BldAt.weak {g':H} (B:BldAt g' h b t) (s:Sub g g'):BldAt g h b t:=by
 obtain ⟨⟨p,v,hb,hp,hv⟩,hw,hg,hs⟩:=B
 refine ⟨⟨p,v,hb,hp,?_⟩,hw,sub_none s hg,fun x o hx=>hs _ _ (s _ _ hx)⟩
 rcases hv with hv | ⟨d,d0,d1,d2,d3,d4,d5⟩
 ·exact .inl hv
 ·exact .inr ⟨d,d0,d1,sub_none s d2,d3,d4,d5⟩
theorem KidsV.ll {l:List Tree} {v:V} (k:KidsV h0 h p l v):llE v = some (.int .i64 l.length):=by cases k <;> rfl
theorem BldAt.cast {u:Txt} (B:BldAt g h b t) (e:t = u):BldAt g h b u:=e ▸ B
theorem itoa9_ac {n:Nat} (h1:n < 10) (hq:Q (.str [UInt8.ofNat (48 + n)]) h):AC pg (.fn 79) [.int .i64 n] h Q:=by
 have e:=dig1 n h1
 refine AC.fn' (g:=g79) rfl (by simp only [List.length_cons,List.length_nil,g79]; decide) ?_; simp only [g79,Mir.Ab.all]
 refine W0 ?_
 refine AC.fn' (g:=g93) rfl (by simp only [List.length_cons,List.length_nil,g93]; decide) ?_; simp only [g93,Mir.Ab.all]
 refine W0 ?_
 refine AC.fn' (g:=g101) rfl (by simp only [List.length_cons,List.length_nil,g101]; decide) ?_; simp only [g101,Mir.Ab.all]
 refine W0 ?_
 refine AC.fn' (g:=g108) rfl (by simp only [List.length_cons,List.length_nil,g108]; decide) ?_; simp only [g108,Mir.Ab.all]
 refine W0 ?_
 rw [show ((n:Int) + 1).toNat = n + 1 from by omega,e]
 exact ⟨_,Sub.refl,_,Sub.refl,_,Sub.refl,_,Sub.refl,hq⟩
theorem spellsT_app:∀ (l m:List Tree),spellsT (l ++ m) = spellsT l ++ spellsT m
 | [],m=>rfl
 | k :: l,m=>by simp only [List.cons_append,spellsT,spellsT_app l m,List.append_assoc]
theorem shortsT_get:∀ {l:List Tree} {i:Nat},shortsT l = true → i < l.length → shortT (l.getD i .zero) = true
 | [],_,_,hi=>absurd hi (Nat.not_lt_zero _)
 | k :: l,0,hs,_=>(Bool.and_eq_true_iff.1 hs).1
 | k :: l,i + 1,hs,hi=>shortsT_get (l:=l) (Bool.and_eq_true_iff.1 hs).2 (by simpa using hi)
theorem take_succ_getD {l:List Tree} {i:Nat} (hi:i < l.length):l.take (i + 1) = l.take i ++ [l.getD i .zero]:=by
 rw [List.take_add_one,List.getElem?_eq_getElem hi]; simp [List.getD_eq_getElem?_getD,hi]
theorem spellsT_le (l:List Tree) (i:Nat):(spellsT (l.take i)).length ≤ (spellsT l).length:=by
 conv=>rhs; rw [← List.take_append_drop i l,spellsT_app,List.length_append]
 omega
theorem spellsT_len:∀ (l:List Tree),l.length ≤ (spellsT l).length
 | []=>Nat.zero_le _
 | k :: l=>by have:=spellsT_len l; simp only [spellsT,List.length_append,List.length_cons]; omega
theorem size_get:∀ {l:List Tree} {i:Nat},i < l.length → tsz (l.getD i .zero) < tszs l
 | [],_,hi=>absurd hi (Nat.not_lt_zero _)
 | k :: l,0,_=>by show tsz k < tsz k + tszs l + 1; omega
 | k :: l,i + 1,hi=>by have:=size_get (l:=l) (i:=i) (by simpa using hi); show tsz (l.getD i .zero) < tsz k + tszs l + 1; omega
theorem spell_ac:∀ (N:Nat) (n:Tree),tsz n < N → ∀ {v:V} {g h:H} {t:Txt} {Q:V → H → Prop},NodeV h0 g p n v → BldAt g h b t → t.length + (spellT n).length < 1000000 → shortT n = true →
  (∀ h',BldAt g h' b (t ++ spellT n) → Q (.tup []) h') → AC pg (.fn 54) [.ptr b 0,v] h Q
 | 0,_,hN,_,_,_,_,_,_,_,_,_,_=>absurd hN (Nat.not_lt_zero _)
 | N + 1,.nd op tx a l,hN,v,g,h,t,Q,K,B,hs,hsh,hq=>by
   obtain ⟨kv,rfl,kb⟩:=K.inv
   simp only [Tree.op,Tree.text,Tree.at',Tree.kids] at kb ⊢
   have kf:=kb.flat
   unfold shortT at hsh
   obtain ⟨s1,s2⟩:=Bool.and_eq_true_iff.1 hsh
   have s1:=of_decide_eq_true s1
   unfold spellT at hs hq
   generalize hm:(if tx = [] then [] else 32 :: UInt8.ofNat (48 + tx.length) :: 58 :: tx) = mid at hs hq
   simp only [List.length_append,List.length_cons,List.length_nil] at hs
   refine AC.fn' (g:=g54) rfl (by simp only [List.length_cons,List.length_nil,g54]; decide) ?_; simp only [g54,Mir.Ab.all]
   refine W1 kf ?_
   intro b3 hb3
   have g3:=sub_none B.sub hb3
   have B1:=B.grow (.cells [.str op,.str tx,.int .i64 a,kv] false) hb3
   have k1:=kb.put (o:=.cells [.str op,.str tx,.int .i64 a,kv] false) g3
   have wk:Sub g (hadd g b3 (.cells [.str op,.str tx,.int .i64 a,kv] false)):=Sub.refl.put g3
   have g1b:hadd g b3 (.cells [.str op,.str tx,.int .i64 a,kv] false) b3 = some (.cells [.str op,.str tx,.int .i64 a,kv] false):=hadd_same
   generalize hadd g b3 (.cells [.str op,.str tx,.int .i64 a,kv] false) = g1 at B1 k1 wk g1b
   refine W1 kf ?_
   refine writeByte_ac B1 (by omega) 40 fun h1 B2=>?_
   have c1:=B2.sub _ _ g1b
   refine W2 kf c1 ?_
   refine writeString_ac B2 (by simp; omega) op (by omega) fun h2 B3=>?_
   have c2:=B3.sub _ _ g1b
   refine W1 c2 ?_
   refine goC_cut AC.mono (fun ex a' h'=>ex = .nm ∧ a'.d = [] ∧ a'.t 0 = .ptr b 0 ∧ a'.t 3 = .ptr b3 0 ∧ BldAt g1 h' b (t ++ 40 :: op ++ mid)) ?_ ?_
   ·by_cases e:tx = []
    ·rw [if_pos e] at hm; subst hm
     refine W1 e ?_
     simpa using B3
    ·rw [if_neg e] at hm; subst hm
     simp only [List.length_cons] at hs
     refine W1 e ?_
     refine writeByte_ac B3 (by simp; omega) 32 fun h3 B4=>?_
     have c3:=B4.sub _ _ g1b
     refine W1 c3 ?_
     refine itoa9_ac s1 ?_
     refine W0 ?_
     refine writeString_ac B4 (by simp; omega) _ (by simp) fun h4 B5=>?_
     refine W0 ?_
     refine writeByte_ac B5 (by simp; omega) 58 fun h5 B6=>?_
     have c5:=B6.sub _ _ g1b
     refine W1 c5 ?_
     refine writeString_ac B6 (by simp; omega) tx (by omega) fun h6 B7=>?_
     refine W0 ?_
     simpa using B7
   ·rintro ex ⟨ta,ds⟩ h3 ⟨rfl,hd,t0,t3,B4⟩
    simp only at hd t0 t3; subst hd
    have c3:=B4.sub _ _ g1b
    generalize hu:t ++ 40 :: op ++ mid = u at B4
    have ul:u.length = t.length + op.length + 1 + mid.length:=by rw [← hu]; simp; omega
    have fin:∀ h',BldAt g1 h' b (u ++ spellsT l ++ [41]) → Q (.tup []) h':=fun h' B'=>hq h' ((B'.weak wk).cast (by rw [← hu]; simp))
    have ll:=k1.ll
    refine W4 t0 t3 c3 ll ?_
    refine E.cut AC.mono (fun ex a' h'=>ex = .exit 0 ∧ a'.d = [] ∧ a'.t 0 = .ptr b 0 ∧ BldAt g1 h' b (u ++ spellsT l)) ?_ ?_
    ·refine E.loopX AC.mono (fun (i:Nat) a' h'=>i ≤ l.length ∧ BldAt g1 h' b (u ++ spellsT (l.take i)) ∧ a'.d = [] ∧ a'.t 0 = .ptr b 0 ∧ a'.t 30 = kv ∧ a'.t 31 = .int .i64 l.length ∧ a'.t 32 = .int .i64 i) (fun i=>l.length - i) 0 ?_ ?_
     ·exact ⟨Nat.zero_le _,by simpa [spellsT] using B4,rfl,t0,rfl,rfl,rfl⟩
     ·rintro i ⟨ta,ds⟩ h4 ⟨hi,B5,hd,t0,t30,t31,t32⟩
      simp only at hd t0 t30 t31 t32; subst hd
      have sl:=spellsT_le l i
      have sn:=spellsT_len l
      by_cases ci:i < l.length
      ·cases k1 with
       | nil=>cases ci
       | sl q1 q2 q3 q4 q5 =>
         obtain ⟨kv',e4,k5⟩:=q5.get ci
         have q6:=B5.sub _ _ q4
         have cl:=q5.len
         have hk:=take_succ_getD ci
         have sz:=size_get ci
         have sh:=shortsT_get s2 ci
         have sl2:=spellsT_le l (i + 1)
         generalize l.getD i .zero = m at e4 k5 hk sz sh
         rw [hk,spellsT_app] at sl2
         simp only [spellsT,List.length_append,List.length_cons,List.length_nil] at sl2
         refine W7 t0 t30 t31 t32 q6 e4 cl ?_
         intro b5 hb5
         have g5:=sub_none B5.sub hb5
         have kf5:=k5.flat
         have B6:=B5.grow (.cells (nodeC m kv') false) hb5
         have k6:=k5.put (o:=.cells (nodeC m kv') false) g5
         have wk5:Sub g1 (hadd g1 b5 (.cells (nodeC m kv') false)):=Sub.refl.put g5
         have g5b:hadd g1 b5 (.cells (nodeC m kv') false) b5 = some (.cells (nodeC m kv') false):=hadd_same
         generalize hadd g1 b5 (.cells (nodeC m kv') false) = g6 at B6 k6 wk5 g5b
         refine W5 t0 t30 t31 t32 kf5 ?_
         refine writeByte_ac B6 (by simp; omega) 32 fun h5 B7=>?_
         have c5:=B7.sub _ _ g5b
         refine W6 t0 t30 t31 t32 c5 kf5 ?_
         refine spell_ac N m (by unfold tsz at hN; omega) (NodeV.of k6) B7 (by simp; omega) sh fun h6 B8=>?_
         refine W4 t0 t30 t31 t32 ?_
         refine ⟨i + 1,by omega,ci,(B8.weak wk5).cast (by rw [hk,spellsT_app]; simp [spellsT]),by simp⟩
      ·have:i = l.length:=by omega
       subst this
       rw [List.take_length] at B5
       refine W4 t0 t30 t31 t32 ?_
       exact B5
    ·rintro ex ⟨ta,ds⟩ h4 ⟨rfl,hd,t0,B5⟩
     simp only at hd t0; subst hd
     refine W1 t0 ?_
     refine writeByte_ac B5 (by simp; omega) 41 fun h5 B6=>?_
     refine W0 ?_
     exact ⟨_,Sub.refl,fin _ B6⟩
theorem print_ac {n:Tree} {v:V} (K:NodeV h0 h p n v) (hs:(spellT n).length < 1000000) (hsh:shortT n = true) (hq:∀ h',Sub h h' → Q (.str (spellT n)) h'):AC pg (.fn 35) [v] h Q:=by
 obtain ⟨kv,rfl,kb⟩:=K.inv
 have kf:=kb.flat
 refine AC.fn' (g:=g35) rfl (by simp only [List.length_cons,List.length_nil,g35]; decide) ?_; simp only [g35,Mir.Ab.all]
 refine W1 kf ?_
 intro b1 hb1
 have K1:NodeV h0 (hadd h b1 (.cells [.str n.op,.str n.text,.int .i64 n.at',kv] false)) p n (.agg [.str n.op,.str n.text,.int .i64 n.at',kv]):=NodeV.of (kb.put hb1)
 have wk:Sub h (hadd h b1 (.cells [.str n.op,.str n.text,.int .i64 n.at',kv] false)):=Sub.refl.put hb1
 have g1b:hadd h b1 (.cells [.str n.op,.str n.text,.int .i64 n.at',kv] false) b1 = some (.cells [.str n.op,.str n.text,.int .i64 n.at',kv] false):=hadd_same
 generalize hadd h b1 (.cells [.str n.op,.str n.text,.int .i64 n.at',kv] false) = g1 at K1 wk g1b
 refine W1 kf ?_
 intro b2 hb2 wb
 have B:BldAt g1 (hadd g1 b2 (.cells [.nilptr,.nilsl] false)) b2 []:=⟨⟨_,_,hadd_same,.inl rfl,.inl ⟨rfl,rfl⟩⟩,wb,hb2,Sub.refl.put hb2⟩
 have c1:=B.sub _ _ g1b
 refine W2 kf c1 ?_
 refine spell_ac _ n (Nat.lt_succ_self _) K1 B (by simpa using hs) hsh fun h2 B2=>?_
 refine W0 ?_
 refine string_ac B2 (by simpa using hs) fun h3 s3=>?_
 refine W0 ?_
 exact ⟨_,Sub.refl,hq _ fun x o hx=>s3 _ _ (wk _ _ hx)⟩
end Go.Proofs.YtkfbldogmgofoaaGreatDoor
