/- The disk, 6: changes. -/
import Derived.Test.YtijipnkdabdioaaD5
set_option linter.unusedSimpArgs false
set_option linter.unusedVariables false
namespace Go.Proofs.Ytijipnkdabdioaa
open Mir
def Dk.change (D : Dk) (name : Txt) (f : Nat → Dk → Dk) : Dk × Nat :=
  if D.dead = true then (D, 8) else match getL D.now name with
    | none => (D, 5)
    | some i => if D.deed.dead = true then (D.deed, 8) else (f i D.deed, 0)
def Dk.setBody (D : Dk) (i : Nat) (b : Txt × Txt) : Dk := { D with bodies := D.bodies.set i b }
def Dk.sync (D : Dk) (name : Txt) : Dk × Nat := D.change name fun i D => D.setBody i ((D.body i).1, (D.body i).1)
/-- Is the place outside of the file? -/
def Dk.beyond (D : Dk) (name : Txt) (n : Int) : Bool := match getL D.now name with
  | none => false
  | some i => decide (n < 0) || decide (((D.body i).1.length : Int) < n)
def Dk.truncate (D : Dk) (name : Txt) (n : Int) : Dk × Nat :=
  if (!D.dead && D.beyond name n) = true then (D, 1) else D.change name fun i D => D.setBody i ((D.body i).1.take n.toNat, (D.body i).2)
def Dk.syncDir (D : Dk) : Dk × Nat := if D.dead = true then (D, 8) else if D.deed.dead = true then (D.deed, 8) else ({ D.deed with safe := D.deed.now }, 0)
def Dk.rename (D : Dk) (frm to : Txt) : Dk × Nat :=
  if (!D.dead && (getL D.now frm).isSome && !nameOk to) = true then (D, 1) else D.change frm fun i D => { D with now := putL (delL D.now frm) to i }
def Dk.remove (D : Dk) (name : Txt) : Dk × Nat := D.change name fun _ D => { D with now := delL D.now name }
variable {h : H} {p bn bs : Nat} {fs : List Nat} {D : Dk} {Q : V → H → Prop}
theorem DiskAt.lies (A : DiskAt h p bn bs fs D) {b : Nat} (o : own p bn bs fs b) : h b ≠ none := by
  rcases o with rfl | rfl | rfl | e
  · rw [A.head]; simp
  · obtain ⟨_, _, x, _⟩ := A.now; rw [x]; simp
  · obtain ⟨_, _, x, _⟩ := A.safe; rw [x]; simp
  · obtain ⟨cs, x⟩ := A.fileMem e; rw [x]; simp
theorem DiskAt.free (A : DiskAt h p bn bs fs D) {b : Nat} (hb : h b = none) : ¬ own p bn bs fs b := fun o => A.lies o hb
theorem change_ac (A : DiskAt h p bn bs fs D) (name : Txt) {g : Nat} {cap : List V} {f : Nat → Dk → Dk}
    (hdo : ∀ h1 i x b, D.dead = false → getL D.now name = some i → D.deed.dead = false → DiskAt h1 p bn bs fs D.deed → Step (own p bn bs fs) (own p bn bs fs) h h1 → fs[i]? = some x → D.deed.bodies[i]? = some b → h1 x = some (.cells [.str b.1, .str b.2] false) →
      AC pg (.fn g) (.ptr x 0 :: cap) h1 fun _ h2 => DiskAt h2 p bn bs fs (f i D.deed) ∧ Step (own p bn bs fs) (own p bn bs fs) h1 h2)
    (hq : ∀ h', DiskAt h' p bn bs fs (D.change name f).1 → Step (own p bn bs fs) (own p bn bs fs) h h' → Q (.int .i64 (D.change name f).2) h') :
    AC pg (.fn 36) [.ptr p 0, .str name, .fn g [] cap] h Q := by
  refine AC.fn' (g := g36) rfl (by simp only [List.length_cons, List.length_nil, g36]; decide) ?_; simp only [g36]
  have hd := A.head
  unfold Dk.change at hq
  cases c0 : D.dead
  case true =>
    rw [c0] at hd hq
    rw [if_pos rfl] at hq
    ((try simp -implicitDefEqProofs only [later, laterE, laterD, laterR]); (repeat (first | simp -implicitDefEqProofs only [go_sem, ↓reduceIte, Nat.reduceEqDiff, Nat.reduceAdd, Nat.reduceLeDiff, Nat.reduceLT, Nat.reduceMul, reduceCtorEq, Int.reduceEq, Int.reduceLT, Int.reduceLE, Int.reduceNeg, Int.reduceToNat, Int.reduceMul, Int.reduceAdd, Int.reduceSub, hd] | simp (disch := (first | omega | (simp only [go_sem]; done) | (simp only [lens]; omega))) only [wrap_u8_id, wrap_u32_id, wrap_u64_id, wrap_i64_id, wrap_i32_id, tmod_nn, tdiv_nn, Int.toNat_natCast, bnd_nh, bnd_ln, bnd_lh, is_str, ix_sl, ir_ptr, ia_agg, tsC_cells, mk_ints, evb_sadd, decide_t, decide_f, hadd_ne', hset_ne', srcC_cells, ap_nil, ap_sl, apC_cells, goNSC_on, goNSC_end, stC_one, stC_agg, fillC_one, fillC_agg, part_t, box_one, box_agg, evb_quo, evb_rem, evb_shl, evb_shr, hd])))
    exact ⟨_, Sub.refl, hq _ A Step.refl⟩
  rw [c0] at hd
  rw [if_neg (by rw [c0]; decide)] at hq
  obtain ⟨es, ck, hbn, R⟩ := A.now
  have hlook := R.look (k := name) (z := .nilptr)
  cases c2 : getL D.now name with
  | none =>
    rw [A.getNone c2] at hlook
    simp only [Option.getD_none] at hlook
    rw [c2] at hq
    ((try simp -implicitDefEqProofs only [later, laterE, laterD, laterR]); (repeat (first | simp -implicitDefEqProofs only [go_sem, ↓reduceIte, Nat.reduceEqDiff, Nat.reduceAdd, Nat.reduceLeDiff, Nat.reduceLT, Nat.reduceMul, reduceCtorEq, Int.reduceEq, Int.reduceLT, Int.reduceLE, Int.reduceNeg, Int.reduceToNat, Int.reduceMul, Int.reduceAdd, Int.reduceSub, hd, hbn, hlook] | simp (disch := (first | omega | (simp only [go_sem]; done) | (simp only [lens]; omega))) only [wrap_u8_id, wrap_u32_id, wrap_u64_id, wrap_i64_id, wrap_i32_id, tmod_nn, tdiv_nn, Int.toNat_natCast, bnd_nh, bnd_ln, bnd_lh, is_str, ix_sl, ir_ptr, ia_agg, tsC_cells, mk_ints, evb_sadd, decide_t, decide_f, hadd_ne', hset_ne', srcC_cells, ap_nil, ap_sl, apC_cells, goNSC_on, goNSC_end, stC_one, stC_agg, fillC_one, fillC_agg, part_t, box_one, box_agg, evb_quo, evb_rem, evb_shl, evb_shr, hd, hbn, hlook])))
    exact ⟨_, Sub.refl, hq _ A Step.refl⟩
  | some i =>
    obtain ⟨x, b, g1, g2, g3, g4, g5⟩ := A.get c2
    rw [g5] at hlook
    simp only [Option.getD_some] at hlook
    rw [c2] at hq
    simp only at hq
    ((try simp -implicitDefEqProofs only [later, laterE, laterD, laterR]); (repeat (first | simp -implicitDefEqProofs only [go_sem, ↓reduceIte, Nat.reduceEqDiff, Nat.reduceAdd, Nat.reduceLeDiff, Nat.reduceLT, Nat.reduceMul, reduceCtorEq, Int.reduceEq, Int.reduceLT, Int.reduceLE, Int.reduceNeg, Int.reduceToNat, Int.reduceMul, Int.reduceAdd, Int.reduceSub, hd, hbn, hlook] | simp (disch := (first | omega | (simp only [go_sem]; done) | (simp only [lens]; omega))) only [wrap_u8_id, wrap_u32_id, wrap_u64_id, wrap_i64_id, wrap_i32_id, tmod_nn, tdiv_nn, Int.toNat_natCast, bnd_nh, bnd_ln, bnd_lh, is_str, ix_sl, ir_ptr, ia_agg, tsC_cells, mk_ints, evb_sadd, decide_t, decide_f, hadd_ne', hset_ne', srcC_cells, ap_nil, ap_sl, apC_cells, goNSC_on, goNSC_end, stC_one, stC_agg, fillC_one, fillC_agg, part_t, box_one, box_agg, evb_quo, evb_rem, evb_shl, evb_shr, hd, hbn, hlook])))
    refine deed_ac A fun h1 A1 S1 => ?_
    cases c3 : D.deed.dead
    · rw [if_neg (by rw [c3]; decide)] at hq
      ((try simp -implicitDefEqProofs only [later, laterE, laterD, laterR]); (repeat (first | simp -implicitDefEqProofs only [go_sem, ↓reduceIte, Nat.reduceEqDiff, Nat.reduceAdd, Nat.reduceLeDiff, Nat.reduceLT, Nat.reduceMul, reduceCtorEq, Int.reduceEq, Int.reduceLT, Int.reduceLE, Int.reduceNeg, Int.reduceToNat, Int.reduceMul, Int.reduceAdd, Int.reduceSub] | simp (disch := (first | omega | (simp only [go_sem]; done) | (simp only [lens]; omega))) only [wrap_u8_id, wrap_u32_id, wrap_u64_id, wrap_i64_id, wrap_i32_id, tmod_nn, tdiv_nn, Int.toNat_natCast, bnd_nh, bnd_ln, bnd_lh, is_str, ix_sl, ir_ptr, ia_agg, tsC_cells, mk_ints, evb_sadd, decide_t, decide_f, hadd_ne', hset_ne', srcC_cells, ap_nil, ap_sl, apC_cells, goNSC_on, goNSC_end, stC_one, stC_agg, fillC_one, fillC_agg, part_t, box_one, box_agg, evb_quo, evb_rem, evb_shl, evb_shr])))
      obtain ⟨x', b', g1', g2', g3', _⟩ := A1.get (k := name) (by rw [deed_now]; exact c2)
      rw [g1, Option.some.injEq] at g1'; subst g1'
      refine AC.mono _ _ _ _ _ (fun v h2 q => ?_) (hdo h1 i x b' c0 c2 c3 A1 S1 g1 g2' g3')
      ((try simp -implicitDefEqProofs only [later, laterE, laterD, laterR]); (repeat (first | simp -implicitDefEqProofs only [go_sem, ↓reduceIte, Nat.reduceEqDiff, Nat.reduceAdd, Nat.reduceLeDiff, Nat.reduceLT, Nat.reduceMul, reduceCtorEq, Int.reduceEq, Int.reduceLT, Int.reduceLE, Int.reduceNeg, Int.reduceToNat, Int.reduceMul, Int.reduceAdd, Int.reduceSub] | simp (disch := (first | omega | (simp only [go_sem]; done) | (simp only [lens]; omega))) only [wrap_u8_id, wrap_u32_id, wrap_u64_id, wrap_i64_id, wrap_i32_id, tmod_nn, tdiv_nn, Int.toNat_natCast, bnd_nh, bnd_ln, bnd_lh, is_str, ix_sl, ir_ptr, ia_agg, tsC_cells, mk_ints, evb_sadd, decide_t, decide_f, hadd_ne', hset_ne', srcC_cells, ap_nil, ap_sl, apC_cells, goNSC_on, goNSC_end, stC_one, stC_agg, fillC_one, fillC_agg, part_t, box_one, box_agg, evb_quo, evb_rem, evb_shl, evb_shr])))
      exact ⟨_, Sub.refl, hq _ q.1 (S1.trans q.2)⟩
    · rw [if_pos c3] at hq
      ((try simp -implicitDefEqProofs only [later, laterE, laterD, laterR]); (repeat (first | simp -implicitDefEqProofs only [go_sem, ↓reduceIte, Nat.reduceEqDiff, Nat.reduceAdd, Nat.reduceLeDiff, Nat.reduceLT, Nat.reduceMul, reduceCtorEq, Int.reduceEq, Int.reduceLT, Int.reduceLE, Int.reduceNeg, Int.reduceToNat, Int.reduceMul, Int.reduceAdd, Int.reduceSub] | simp (disch := (first | omega | (simp only [go_sem]; done) | (simp only [lens]; omega))) only [wrap_u8_id, wrap_u32_id, wrap_u64_id, wrap_i64_id, wrap_i32_id, tmod_nn, tdiv_nn, Int.toNat_natCast, bnd_nh, bnd_ln, bnd_lh, is_str, ix_sl, ir_ptr, ia_agg, tsC_cells, mk_ints, evb_sadd, decide_t, decide_f, hadd_ne', hset_ne', srcC_cells, ap_nil, ap_sl, apC_cells, goNSC_on, goNSC_end, stC_one, stC_agg, fillC_one, fillC_agg, part_t, box_one, box_agg, evb_quo, evb_rem, evb_shl, evb_shr])))
      exact ⟨_, Sub.refl, hq _ A1 S1⟩
theorem body_eq {i : Nat} {b : Txt × Txt} (e : D.bodies[i]? = some b) : D.body i = b := by simp [Dk.body, e]
theorem sync_ac (A : DiskAt h p bn bs fs D) (name : Txt) (hq : ∀ h', DiskAt h' p bn bs fs (D.sync name).1 → Step (own p bn bs fs) (own p bn bs fs) h h' → Q (.int .i64 (D.sync name).2) h') :
    AC pg (.fn 19) [.ptr p 0, .str name] h Q := by
  refine AC.fn' (g := g19) rfl (by simp only [List.length_cons, List.length_nil, g19]; decide) ?_; simp only [g19]
  ((try simp -implicitDefEqProofs only [later, laterE, laterD, laterR]); (repeat (first | simp -implicitDefEqProofs only [go_sem, ↓reduceIte, Nat.reduceEqDiff, Nat.reduceAdd, Nat.reduceLeDiff, Nat.reduceLT, Nat.reduceMul, reduceCtorEq, Int.reduceEq, Int.reduceLT, Int.reduceLE, Int.reduceNeg, Int.reduceToNat, Int.reduceMul, Int.reduceAdd, Int.reduceSub] | simp (disch := (first | omega | (simp only [go_sem]; done) | (simp only [lens]; omega))) only [wrap_u8_id, wrap_u32_id, wrap_u64_id, wrap_i64_id, wrap_i32_id, tmod_nn, tdiv_nn, Int.toNat_natCast, bnd_nh, bnd_ln, bnd_lh, is_str, ix_sl, ir_ptr, ia_agg, tsC_cells, mk_ints, evb_sadd, decide_t, decide_f, hadd_ne', hset_ne', srcC_cells, ap_nil, ap_sl, apC_cells, goNSC_on, goNSC_end, stC_one, stC_agg, fillC_one, fillC_agg, part_t, box_one, box_agg, evb_quo, evb_rem, evb_shl, evb_shr])))
  refine change_ac A name (f := fun i D => D.setBody i ((D.body i).1, (D.body i).1)) (fun h1 i x b c0 c1 c2 A1 S1 e1 e2 e3 => ?_) fun h' A' S' => ?_
  · refine AC.fn' (g := g37) rfl (by simp only [List.length_cons, List.length_nil, g37]; decide) ?_; simp only [g37]
    ((try simp -implicitDefEqProofs only [later, laterE, laterD, laterR]); (repeat (first | simp -implicitDefEqProofs only [go_sem, ↓reduceIte, Nat.reduceEqDiff, Nat.reduceAdd, Nat.reduceLeDiff, Nat.reduceLT, Nat.reduceMul, reduceCtorEq, Int.reduceEq, Int.reduceLT, Int.reduceLE, Int.reduceNeg, Int.reduceToNat, Int.reduceMul, Int.reduceAdd, Int.reduceSub, e3] | simp (disch := (first | omega | (simp only [go_sem]; done) | (simp only [lens]; omega))) only [wrap_u8_id, wrap_u32_id, wrap_u64_id, wrap_i64_id, wrap_i32_id, tmod_nn, tdiv_nn, Int.toNat_natCast, bnd_nh, bnd_ln, bnd_lh, is_str, ix_sl, ir_ptr, ia_agg, tsC_cells, mk_ints, evb_sadd, decide_t, decide_f, hadd_ne', hset_ne', srcC_cells, ap_nil, ap_sl, apC_cells, goNSC_on, goNSC_end, stC_one, stC_agg, fillC_one, fillC_agg, part_t, box_one, box_agg, evb_quo, evb_rem, evb_shl, evb_shr, e3])))
    have hs := A1.small b (List.mem_of_getElem? e2)
    have A2 := A1.setFile (a := b.1) (c := b.1) e1 ⟨hs.1, hs.1⟩
    refine ⟨_, Sub.refl, ?_, Step.refl.put (.inl (own_f (List.mem_of_getElem? e1)))⟩
    rw [body_eq e2]; exact A2
  · ((try simp -implicitDefEqProofs only [later, laterE, laterD, laterR]); (repeat (first | simp -implicitDefEqProofs only [go_sem, ↓reduceIte, Nat.reduceEqDiff, Nat.reduceAdd, Nat.reduceLeDiff, Nat.reduceLT, Nat.reduceMul, reduceCtorEq, Int.reduceEq, Int.reduceLT, Int.reduceLE, Int.reduceNeg, Int.reduceToNat, Int.reduceMul, Int.reduceAdd, Int.reduceSub] | simp (disch := (first | omega | (simp only [go_sem]; done) | (simp only [lens]; omega))) only [wrap_u8_id, wrap_u32_id, wrap_u64_id, wrap_i64_id, wrap_i32_id, tmod_nn, tdiv_nn, Int.toNat_natCast, bnd_nh, bnd_ln, bnd_lh, is_str, ix_sl, ir_ptr, ia_agg, tsC_cells, mk_ints, evb_sadd, decide_t, decide_f, hadd_ne', hset_ne', srcC_cells, ap_nil, ap_sl, apC_cells, goNSC_on, goNSC_end, stC_one, stC_agg, fillC_one, fillC_agg, part_t, box_one, box_agg, evb_quo, evb_rem, evb_shl, evb_shr])))
    exact ⟨_, Sub.refl, hq _ A' S'⟩
theorem truncate_ac (A : DiskAt h p bn bs fs D) (name : Txt) (n : Int) (hn : -9223372036854775808 ≤ n ∧ n < 9223372036854775808) (hq : ∀ h', DiskAt h' p bn bs fs (D.truncate name n).1 → Step (own p bn bs fs) (own p bn bs fs) h h' → Q (.int .i64 (D.truncate name n).2) h') :
    AC pg (.fn 24) [.ptr p 0, .str name, .int .i64 n] h Q := by
  refine AC.fn' (g := g24) rfl (by simp only [List.length_cons, List.length_nil, g24]; decide) ?_; simp only [g24]
  ((try simp -implicitDefEqProofs only [later, laterE, laterD, laterR]); (repeat (first | simp -implicitDefEqProofs only [go_sem, ↓reduceIte, Nat.reduceEqDiff, Nat.reduceAdd, Nat.reduceLeDiff, Nat.reduceLT, Nat.reduceMul, reduceCtorEq, Int.reduceEq, Int.reduceLT, Int.reduceLE, Int.reduceNeg, Int.reduceToNat, Int.reduceMul, Int.reduceAdd, Int.reduceSub] | simp (disch := (first | omega | (simp only [go_sem]; done) | (simp only [lens]; omega))) only [wrap_u8_id, wrap_u32_id, wrap_u64_id, wrap_i64_id, wrap_i32_id, tmod_nn, tdiv_nn, Int.toNat_natCast, bnd_nh, bnd_ln, bnd_lh, is_str, ix_sl, ir_ptr, ia_agg, tsC_cells, mk_ints, evb_sadd, decide_t, decide_f, hadd_ne', hset_ne', srcC_cells, ap_nil, ap_sl, apC_cells, goNSC_on, goNSC_end, stC_one, stC_agg, fillC_one, fillC_agg, part_t, box_one, box_agg, evb_quo, evb_rem, evb_shl, evb_shr])))
  intro b hb
  have A0 : DiskAt (hadd h b (.cells [.int .i64 n] false)) p bn bs fs D := A.new hb
  have S0 : Step (own p bn bs fs) (own p bn bs fs) h (hadd h b (.cells [.int .i64 n] false)) := Step.refl.put (.inr hb)
  have hb0 : (hadd h b (.cells [.int .i64 n] false)) b = some (.cells [.int .i64 n] false) := hadd_same
  have nb := A.free hb
  generalize hadd h b (.cells [.int .i64 n] false) = h0 at *
  have hd := A0.head
  obtain ⟨es, ck, hbn, R⟩ := A0.now
  have hlook := R.look (k := name) (z := .nilptr)
  have fin : (!D.dead && D.beyond name n) = false → AC pg (.fn 36) [.ptr p 0, .str name, .fn 41 [] [.ptr b 0]] h0 fun v h' => ∃ e : Nat, v = .int .i64 e ∧ Q v h' := fun hno => by
    unfold Dk.truncate at hq
    rw [if_neg (by rw [hno]; decide)] at hq
    refine change_ac A0 name (f := fun i D => D.setBody i ((D.body i).1.take n.toNat, (D.body i).2)) (fun h1 i x y c0 c1 c2 A1 S1 e1 e2 e3 => ?_) fun h' A' S' => ?_
    · refine AC.fn' (g := g41) rfl (by simp only [List.length_cons, List.length_nil, g41]; decide) ?_; simp only [g41]
      have hb1 := S1.keep b _ nb hb0
      have hy : 0 ≤ n ∧ n ≤ (y.1.length : Int) := by
        rw [c0, Dk.beyond, c1] at hno
        simp only [← deed_body (D := D) (i := i), body_eq e2] at hno
        simp at hno; omega
      ((try simp -implicitDefEqProofs only [later, laterE, laterD, laterR]); (repeat (first | simp -implicitDefEqProofs only [go_sem, ↓reduceIte, Nat.reduceEqDiff, Nat.reduceAdd, Nat.reduceLeDiff, Nat.reduceLT, Nat.reduceMul, reduceCtorEq, Int.reduceEq, Int.reduceLT, Int.reduceLE, Int.reduceNeg, Int.reduceToNat, Int.reduceMul, Int.reduceAdd, Int.reduceSub, e3, hb1] | simp (disch := (first | omega | (simp only [go_sem]; done) | (simp only [lens]; omega))) only [wrap_u8_id, wrap_u32_id, wrap_u64_id, wrap_i64_id, wrap_i32_id, tmod_nn, tdiv_nn, Int.toNat_natCast, bnd_nh, bnd_ln, bnd_lh, is_str, ix_sl, ir_ptr, ia_agg, tsC_cells, mk_ints, evb_sadd, decide_t, decide_f, hadd_ne', hset_ne', srcC_cells, ap_nil, ap_sl, apC_cells, goNSC_on, goNSC_end, stC_one, stC_agg, fillC_one, fillC_agg, part_t, box_one, box_agg, evb_quo, evb_rem, evb_shl, evb_shr, e3, hb1])))
      have hs := A1.small y (List.mem_of_getElem? e2)
      have A2 := A1.setFile (a := y.1.take n.toNat) (c := y.2) e1 ⟨by rw [List.length_take]; omega, hs.2⟩
      refine ⟨_, Sub.refl, ?_, Step.refl.put (.inl (own_f (List.mem_of_getElem? e1)))⟩
      rw [body_eq e2]; exact A2
    · exact ⟨_, rfl, hq _ A' (S0.trans S')⟩
  cases c2 : getL D.now name with
  | none =>
    rw [A0.getNone c2] at hlook
    simp only [Option.getD_none] at hlook
    have := fin (by simp [Dk.beyond, c2])
    cases c0 : D.dead
    all_goals
      rw [c0] at hd
      ((try simp -implicitDefEqProofs only [later, laterE, laterD, laterR]); (repeat (first | simp -implicitDefEqProofs only [go_sem, ↓reduceIte, Nat.reduceEqDiff, Nat.reduceAdd, Nat.reduceLeDiff, Nat.reduceLT, Nat.reduceMul, reduceCtorEq, Int.reduceEq, Int.reduceLT, Int.reduceLE, Int.reduceNeg, Int.reduceToNat, Int.reduceMul, Int.reduceAdd, Int.reduceSub, hd, hbn, hlook] | simp (disch := (first | omega | (simp only [go_sem]; done) | (simp only [lens]; omega))) only [wrap_u8_id, wrap_u32_id, wrap_u64_id, wrap_i64_id, wrap_i32_id, tmod_nn, tdiv_nn, Int.toNat_natCast, bnd_nh, bnd_ln, bnd_lh, is_str, ix_sl, ir_ptr, ia_agg, tsC_cells, mk_ints, evb_sadd, decide_t, decide_f, hadd_ne', hset_ne', srcC_cells, ap_nil, ap_sl, apC_cells, goNSC_on, goNSC_end, stC_one, stC_agg, fillC_one, fillC_agg, part_t, box_one, box_agg, evb_quo, evb_rem, evb_shl, evb_shr, hd, hbn, hlook])))
      refine AC.mono _ _ _ _ _ (fun v h2 ⟨e, hv, q⟩ => ?_) this
      subst hv
      ((try simp -implicitDefEqProofs only [later, laterE, laterD, laterR]); (repeat (first | simp -implicitDefEqProofs only [go_sem, ↓reduceIte, Nat.reduceEqDiff, Nat.reduceAdd, Nat.reduceLeDiff, Nat.reduceLT, Nat.reduceMul, reduceCtorEq, Int.reduceEq, Int.reduceLT, Int.reduceLE, Int.reduceNeg, Int.reduceToNat, Int.reduceMul, Int.reduceAdd, Int.reduceSub] | simp (disch := (first | omega | (simp only [go_sem]; done) | (simp only [lens]; omega))) only [wrap_u8_id, wrap_u32_id, wrap_u64_id, wrap_i64_id, wrap_i32_id, tmod_nn, tdiv_nn, Int.toNat_natCast, bnd_nh, bnd_ln, bnd_lh, is_str, ix_sl, ir_ptr, ia_agg, tsC_cells, mk_ints, evb_sadd, decide_t, decide_f, hadd_ne', hset_ne', srcC_cells, ap_nil, ap_sl, apC_cells, goNSC_on, goNSC_end, stC_one, stC_agg, fillC_one, fillC_agg, part_t, box_one, box_agg, evb_quo, evb_rem, evb_shl, evb_shr])))
      exact ⟨_, Sub.refl, q⟩
  | some i =>
    obtain ⟨x, y, g1, g2, g3, g4, g5⟩ := A0.get c2
    rw [g5] at hlook
    simp only [Option.getD_some] at hlook
    cases c0 : D.dead
    case true =>
      have := fin (by rw [c0]; rfl)
      rw [c0] at hd
      ((try simp -implicitDefEqProofs only [later, laterE, laterD, laterR]); (repeat (first | simp -implicitDefEqProofs only [go_sem, ↓reduceIte, Nat.reduceEqDiff, Nat.reduceAdd, Nat.reduceLeDiff, Nat.reduceLT, Nat.reduceMul, reduceCtorEq, Int.reduceEq, Int.reduceLT, Int.reduceLE, Int.reduceNeg, Int.reduceToNat, Int.reduceMul, Int.reduceAdd, Int.reduceSub, hd, hbn, hlook] | simp (disch := (first | omega | (simp only [go_sem]; done) | (simp only [lens]; omega))) only [wrap_u8_id, wrap_u32_id, wrap_u64_id, wrap_i64_id, wrap_i32_id, tmod_nn, tdiv_nn, Int.toNat_natCast, bnd_nh, bnd_ln, bnd_lh, is_str, ix_sl, ir_ptr, ia_agg, tsC_cells, mk_ints, evb_sadd, decide_t, decide_f, hadd_ne', hset_ne', srcC_cells, ap_nil, ap_sl, apC_cells, goNSC_on, goNSC_end, stC_one, stC_agg, fillC_one, fillC_agg, part_t, box_one, box_agg, evb_quo, evb_rem, evb_shl, evb_shr, hd, hbn, hlook])))
      refine AC.mono _ _ _ _ _ (fun v h2 ⟨e, hv, q⟩ => ?_) this
      subst hv
      ((try simp -implicitDefEqProofs only [later, laterE, laterD, laterR]); (repeat (first | simp -implicitDefEqProofs only [go_sem, ↓reduceIte, Nat.reduceEqDiff, Nat.reduceAdd, Nat.reduceLeDiff, Nat.reduceLT, Nat.reduceMul, reduceCtorEq, Int.reduceEq, Int.reduceLT, Int.reduceLE, Int.reduceNeg, Int.reduceToNat, Int.reduceMul, Int.reduceAdd, Int.reduceSub] | simp (disch := (first | omega | (simp only [go_sem]; done) | (simp only [lens]; omega))) only [wrap_u8_id, wrap_u32_id, wrap_u64_id, wrap_i64_id, wrap_i32_id, tmod_nn, tdiv_nn, Int.toNat_natCast, bnd_nh, bnd_ln, bnd_lh, is_str, ix_sl, ir_ptr, ia_agg, tsC_cells, mk_ints, evb_sadd, decide_t, decide_f, hadd_ne', hset_ne', srcC_cells, ap_nil, ap_sl, apC_cells, goNSC_on, goNSC_end, stC_one, stC_agg, fillC_one, fillC_agg, part_t, box_one, box_agg, evb_quo, evb_rem, evb_shl, evb_shr])))
      exact ⟨_, Sub.refl, q⟩
    rw [c0] at hd
    by_cases c1 : n < 0
    · have hb' : (!D.dead && D.beyond name n) = true := by rw [c0]; simp [Dk.beyond, c2, c1]
      unfold Dk.truncate at hq
      rw [if_pos hb'] at hq
      ((try simp -implicitDefEqProofs only [later, laterE, laterD, laterR]); (repeat (first | simp -implicitDefEqProofs only [go_sem, ↓reduceIte, Nat.reduceEqDiff, Nat.reduceAdd, Nat.reduceLeDiff, Nat.reduceLT, Nat.reduceMul, reduceCtorEq, Int.reduceEq, Int.reduceLT, Int.reduceLE, Int.reduceNeg, Int.reduceToNat, Int.reduceMul, Int.reduceAdd, Int.reduceSub, hd, hbn, hlook, hb0, g3] | simp (disch := (first | omega | (simp only [go_sem]; done) | (simp only [lens]; omega))) only [wrap_u8_id, wrap_u32_id, wrap_u64_id, wrap_i64_id, wrap_i32_id, tmod_nn, tdiv_nn, Int.toNat_natCast, bnd_nh, bnd_ln, bnd_lh, is_str, ix_sl, ir_ptr, ia_agg, tsC_cells, mk_ints, evb_sadd, decide_t, decide_f, hadd_ne', hset_ne', srcC_cells, ap_nil, ap_sl, apC_cells, goNSC_on, goNSC_end, stC_one, stC_agg, fillC_one, fillC_agg, part_t, box_one, box_agg, evb_quo, evb_rem, evb_shl, evb_shr, hd, hbn, hlook, hb0, g3])))
      exact ⟨_, Sub.refl, hq _ A0 S0⟩
    by_cases c3 : (y.1.length : Int) < n
    · have hb' : (!D.dead && D.beyond name n) = true := by rw [c0]; simp [Dk.beyond, c2, body_eq g2, c3]
      unfold Dk.truncate at hq
      rw [if_pos hb'] at hq
      ((try simp -implicitDefEqProofs only [later, laterE, laterD, laterR]); (repeat (first | simp -implicitDefEqProofs only [go_sem, ↓reduceIte, Nat.reduceEqDiff, Nat.reduceAdd, Nat.reduceLeDiff, Nat.reduceLT, Nat.reduceMul, reduceCtorEq, Int.reduceEq, Int.reduceLT, Int.reduceLE, Int.reduceNeg, Int.reduceToNat, Int.reduceMul, Int.reduceAdd, Int.reduceSub, hd, hbn, hlook, hb0, g3] | simp (disch := (first | omega | (simp only [go_sem]; done) | (simp only [lens]; omega))) only [wrap_u8_id, wrap_u32_id, wrap_u64_id, wrap_i64_id, wrap_i32_id, tmod_nn, tdiv_nn, Int.toNat_natCast, bnd_nh, bnd_ln, bnd_lh, is_str, ix_sl, ir_ptr, ia_agg, tsC_cells, mk_ints, evb_sadd, decide_t, decide_f, hadd_ne', hset_ne', srcC_cells, ap_nil, ap_sl, apC_cells, goNSC_on, goNSC_end, stC_one, stC_agg, fillC_one, fillC_agg, part_t, box_one, box_agg, evb_quo, evb_rem, evb_shl, evb_shr, hd, hbn, hlook, hb0, g3])))
      exact ⟨_, Sub.refl, hq _ A0 S0⟩
    have := fin (by rw [c0]; simp [Dk.beyond, c2, body_eq g2]; omega)
    ((try simp -implicitDefEqProofs only [later, laterE, laterD, laterR]); (repeat (first | simp -implicitDefEqProofs only [go_sem, ↓reduceIte, Nat.reduceEqDiff, Nat.reduceAdd, Nat.reduceLeDiff, Nat.reduceLT, Nat.reduceMul, reduceCtorEq, Int.reduceEq, Int.reduceLT, Int.reduceLE, Int.reduceNeg, Int.reduceToNat, Int.reduceMul, Int.reduceAdd, Int.reduceSub, hd, hbn, hlook, hb0, g3] | simp (disch := (first | omega | (simp only [go_sem]; done) | (simp only [lens]; omega))) only [wrap_u8_id, wrap_u32_id, wrap_u64_id, wrap_i64_id, wrap_i32_id, tmod_nn, tdiv_nn, Int.toNat_natCast, bnd_nh, bnd_ln, bnd_lh, is_str, ix_sl, ir_ptr, ia_agg, tsC_cells, mk_ints, evb_sadd, decide_t, decide_f, hadd_ne', hset_ne', srcC_cells, ap_nil, ap_sl, apC_cells, goNSC_on, goNSC_end, stC_one, stC_agg, fillC_one, fillC_agg, part_t, box_one, box_agg, evb_quo, evb_rem, evb_shl, evb_shr, hd, hbn, hlook, hb0, g3])))
    refine AC.mono _ _ _ _ _ (fun v h2 ⟨e, hv, q⟩ => ?_) this
    subst hv
    ((try simp -implicitDefEqProofs only [later, laterE, laterD, laterR]); (repeat (first | simp -implicitDefEqProofs only [go_sem, ↓reduceIte, Nat.reduceEqDiff, Nat.reduceAdd, Nat.reduceLeDiff, Nat.reduceLT, Nat.reduceMul, reduceCtorEq, Int.reduceEq, Int.reduceLT, Int.reduceLE, Int.reduceNeg, Int.reduceToNat, Int.reduceMul, Int.reduceAdd, Int.reduceSub] | simp (disch := (first | omega | (simp only [go_sem]; done) | (simp only [lens]; omega))) only [wrap_u8_id, wrap_u32_id, wrap_u64_id, wrap_i64_id, wrap_i32_id, tmod_nn, tdiv_nn, Int.toNat_natCast, bnd_nh, bnd_ln, bnd_lh, is_str, ix_sl, ir_ptr, ia_agg, tsC_cells, mk_ints, evb_sadd, decide_t, decide_f, hadd_ne', hset_ne', srcC_cells, ap_nil, ap_sl, apC_cells, goNSC_on, goNSC_end, stC_one, stC_agg, fillC_one, fillC_agg, part_t, box_one, box_agg, evb_quo, evb_rem, evb_shl, evb_shr])))
    exact ⟨_, Sub.refl, q⟩
/-- A clone of the names. -/
theorem clone_ac {l : List (Txt × V)} {m : Nat} (M : HasMap h m l) (hq : ∀ h' b, h b = none → HasMap h' b l → Step (fun _ => False) (fun c => c = b) h h' → (∀ c o, h c = some o → h' c = some o) → Q (.map b) h') : AC pg (.fn 35) [.map m] h Q := by
  refine AC.fn' (g := g35) rfl (by simp only [List.length_cons, List.length_nil, g35]; decide) ?_; simp only [g35]
  obtain ⟨es, ck, hm, R⟩ := M
  ((try simp -implicitDefEqProofs only [later, laterE, laterD, laterR]); (repeat (first | simp -implicitDefEqProofs only [go_sem, ↓reduceIte, Nat.reduceEqDiff, Nat.reduceAdd, Nat.reduceLeDiff, Nat.reduceLT, Nat.reduceMul, reduceCtorEq, Int.reduceEq, Int.reduceLT, Int.reduceLE, Int.reduceNeg, Int.reduceToNat, Int.reduceMul, Int.reduceAdd, Int.reduceSub, hm] | simp (disch := (first | omega | (simp only [go_sem]; done) | (simp only [lens]; omega))) only [wrap_u8_id, wrap_u32_id, wrap_u64_id, wrap_i64_id, wrap_i32_id, tmod_nn, tdiv_nn, Int.toNat_natCast, bnd_nh, bnd_ln, bnd_lh, is_str, ix_sl, ir_ptr, ia_agg, tsC_cells, mk_ints, evb_sadd, decide_t, decide_f, hadd_ne', hset_ne', srcC_cells, ap_nil, ap_sl, apC_cells, goNSC_on, goNSC_end, stC_one, stC_agg, fillC_one, fillC_agg, part_t, box_one, box_agg, evb_quo, evb_rem, evb_shl, evb_shr, hm])))
  intro b hb
  ((try simp -implicitDefEqProofs only [later, laterE, laterD, laterR]); (repeat (first | simp -implicitDefEqProofs only [go_sem, ↓reduceIte, Nat.reduceEqDiff, Nat.reduceAdd, Nat.reduceLeDiff, Nat.reduceLT, Nat.reduceMul, reduceCtorEq, Int.reduceEq, Int.reduceLT, Int.reduceLE, Int.reduceNeg, Int.reduceToNat, Int.reduceMul, Int.reduceAdd, Int.reduceSub] | simp (disch := (first | omega | (simp only [go_sem]; done) | (simp only [lens]; omega))) only [wrap_u8_id, wrap_u32_id, wrap_u64_id, wrap_i64_id, wrap_i32_id, tmod_nn, tdiv_nn, Int.toNat_natCast, bnd_nh, bnd_ln, bnd_lh, is_str, ix_sl, ir_ptr, ia_agg, tsC_cells, mk_ints, evb_sadd, decide_t, decide_f, hadd_ne', hset_ne', srcC_cells, ap_nil, ap_sl, apC_cells, goNSC_on, goNSC_end, stC_one, stC_agg, fillC_one, fillC_agg, part_t, box_one, box_agg, evb_quo, evb_rem, evb_shl, evb_shr])))
  refine ⟨_, Sub.refl, hq _ b hb ⟨es, ck, hadd_same, R⟩ (Step.put ⟨fun _ _ _ e => e, fun c e => .inr (by rw [e]; exact hb)⟩ (.inr hb)) fun c o hc => by rw [hadd_ne' (ne_fresh hc hb)]; exact hc⟩
theorem syncDir_ac (A : DiskAt h p bn bs fs D) (hq : ∀ h' bs', DiskAt h' p bn bs' fs D.syncDir.1 → Step (own p bn bs fs) (own p bn bs' fs) h h' → Q (.int .i64 D.syncDir.2) h') :
    AC pg (.fn 18) [.ptr p 0] h Q := by
  refine AC.fn' (g := g18) rfl (by simp only [List.length_cons, List.length_nil, g18]; decide) ?_; simp only [g18]
  have hd := A.head
  unfold Dk.syncDir at hq
  cases c0 : D.dead
  case true =>
    rw [c0] at hd hq
    rw [if_pos rfl] at hq
    ((try simp -implicitDefEqProofs only [later, laterE, laterD, laterR]); (repeat (first | simp -implicitDefEqProofs only [go_sem, ↓reduceIte, Nat.reduceEqDiff, Nat.reduceAdd, Nat.reduceLeDiff, Nat.reduceLT, Nat.reduceMul, reduceCtorEq, Int.reduceEq, Int.reduceLT, Int.reduceLE, Int.reduceNeg, Int.reduceToNat, Int.reduceMul, Int.reduceAdd, Int.reduceSub, hd] | simp (disch := (first | omega | (simp only [go_sem]; done) | (simp only [lens]; omega))) only [wrap_u8_id, wrap_u32_id, wrap_u64_id, wrap_i64_id, wrap_i32_id, tmod_nn, tdiv_nn, Int.toNat_natCast, bnd_nh, bnd_ln, bnd_lh, is_str, ix_sl, ir_ptr, ia_agg, tsC_cells, mk_ints, evb_sadd, decide_t, decide_f, hadd_ne', hset_ne', srcC_cells, ap_nil, ap_sl, apC_cells, goNSC_on, goNSC_end, stC_one, stC_agg, fillC_one, fillC_agg, part_t, box_one, box_agg, evb_quo, evb_rem, evb_shl, evb_shr, hd])))
    exact ⟨_, Sub.refl, hq _ _ A Step.refl⟩
  rw [if_neg (by rw [c0]; decide)] at hq
  rw [c0] at hd
  ((try simp -implicitDefEqProofs only [later, laterE, laterD, laterR]); (repeat (first | simp -implicitDefEqProofs only [go_sem, ↓reduceIte, Nat.reduceEqDiff, Nat.reduceAdd, Nat.reduceLeDiff, Nat.reduceLT, Nat.reduceMul, reduceCtorEq, Int.reduceEq, Int.reduceLT, Int.reduceLE, Int.reduceNeg, Int.reduceToNat, Int.reduceMul, Int.reduceAdd, Int.reduceSub, hd] | simp (disch := (first | omega | (simp only [go_sem]; done) | (simp only [lens]; omega))) only [wrap_u8_id, wrap_u32_id, wrap_u64_id, wrap_i64_id, wrap_i32_id, tmod_nn, tdiv_nn, Int.toNat_natCast, bnd_nh, bnd_ln, bnd_lh, is_str, ix_sl, ir_ptr, ia_agg, tsC_cells, mk_ints, evb_sadd, decide_t, decide_f, hadd_ne', hset_ne', srcC_cells, ap_nil, ap_sl, apC_cells, goNSC_on, goNSC_end, stC_one, stC_agg, fillC_one, fillC_agg, part_t, box_one, box_agg, evb_quo, evb_rem, evb_shl, evb_shr, hd])))
  refine deed_ac A fun h1 A1 S1 => ?_
  have hd1 := A1.head
  cases c1 : D.deed.dead
  case true =>
    rw [if_pos c1] at hq
    rw [c1] at hd1
    ((try simp -implicitDefEqProofs only [later, laterE, laterD, laterR]); (repeat (first | simp -implicitDefEqProofs only [go_sem, ↓reduceIte, Nat.reduceEqDiff, Nat.reduceAdd, Nat.reduceLeDiff, Nat.reduceLT, Nat.reduceMul, reduceCtorEq, Int.reduceEq, Int.reduceLT, Int.reduceLE, Int.reduceNeg, Int.reduceToNat, Int.reduceMul, Int.reduceAdd, Int.reduceSub, hd1] | simp (disch := (first | omega | (simp only [go_sem]; done) | (simp only [lens]; omega))) only [wrap_u8_id, wrap_u32_id, wrap_u64_id, wrap_i64_id, wrap_i32_id, tmod_nn, tdiv_nn, Int.toNat_natCast, bnd_nh, bnd_ln, bnd_lh, is_str, ix_sl, ir_ptr, ia_agg, tsC_cells, mk_ints, evb_sadd, decide_t, decide_f, hadd_ne', hset_ne', srcC_cells, ap_nil, ap_sl, apC_cells, goNSC_on, goNSC_end, stC_one, stC_agg, fillC_one, fillC_agg, part_t, box_one, box_agg, evb_quo, evb_rem, evb_shl, evb_shr, hd1])))
    exact ⟨_, Sub.refl, hq _ _ A1 S1⟩
  rw [if_neg (by rw [c1]; decide)] at hq
  rw [c1] at hd1
  ((try simp -implicitDefEqProofs only [later, laterE, laterD, laterR]); (repeat (first | simp -implicitDefEqProofs only [go_sem, ↓reduceIte, Nat.reduceEqDiff, Nat.reduceAdd, Nat.reduceLeDiff, Nat.reduceLT, Nat.reduceMul, reduceCtorEq, Int.reduceEq, Int.reduceLT, Int.reduceLE, Int.reduceNeg, Int.reduceToNat, Int.reduceMul, Int.reduceAdd, Int.reduceSub, hd1] | simp (disch := (first | omega | (simp only [go_sem]; done) | (simp only [lens]; omega))) only [wrap_u8_id, wrap_u32_id, wrap_u64_id, wrap_i64_id, wrap_i32_id, tmod_nn, tdiv_nn, Int.toNat_natCast, bnd_nh, bnd_ln, bnd_lh, is_str, ix_sl, ir_ptr, ia_agg, tsC_cells, mk_ints, evb_sadd, decide_t, decide_f, hadd_ne', hset_ne', srcC_cells, ap_nil, ap_sl, apC_cells, goNSC_on, goNSC_end, stC_one, stC_agg, fillC_one, fillC_agg, part_t, box_one, box_agg, evb_quo, evb_rem, evb_shl, evb_shr, hd1])))
  refine clone_ac A1.now fun h2 b hb M S2 K2 => ?_
  have A2 := A1.other (h' := h2) fun c o _ hc => K2 c o hc
  have hd2 := K2 _ _ hd1
  have nb : b ≠ bn := fun e => A1.lies own_bn (e ▸ hb)
  have A3 := A2.newSafe M nb A1.nowIn
  rw [c1] at A3
  have S3 : Step (own p bn bs fs) (own p bn b fs) h1 h2 := by
    refine ⟨fun c o _ hc => K2 c o hc, ?_⟩
    rintro c (e | e | e | e)
    · exact .inl (.inl e)
    · exact .inl (.inr (.inl e))
    · subst e; exact .inr hb
    · exact .inl (own_f e)
  ((try simp -implicitDefEqProofs only [later, laterE, laterD, laterR]); (repeat (first | simp -implicitDefEqProofs only [go_sem, ↓reduceIte, Nat.reduceEqDiff, Nat.reduceAdd, Nat.reduceLeDiff, Nat.reduceLT, Nat.reduceMul, reduceCtorEq, Int.reduceEq, Int.reduceLT, Int.reduceLE, Int.reduceNeg, Int.reduceToNat, Int.reduceMul, Int.reduceAdd, Int.reduceSub, hd2] | simp (disch := (first | omega | (simp only [go_sem]; done) | (simp only [lens]; omega))) only [wrap_u8_id, wrap_u32_id, wrap_u64_id, wrap_i64_id, wrap_i32_id, tmod_nn, tdiv_nn, Int.toNat_natCast, bnd_nh, bnd_ln, bnd_lh, is_str, ix_sl, ir_ptr, ia_agg, tsC_cells, mk_ints, evb_sadd, decide_t, decide_f, hadd_ne', hset_ne', srcC_cells, ap_nil, ap_sl, apC_cells, goNSC_on, goNSC_end, stC_one, stC_agg, fillC_one, fillC_agg, part_t, box_one, box_agg, evb_quo, evb_rem, evb_shl, evb_shr, hd2])))
  exact ⟨_, Sub.refl, hq _ _ (by simpa [c1] using A3) (S1.trans (S3.put (.inl own_p)))⟩
end Go.Proofs.Ytijipnkdabdioaa
