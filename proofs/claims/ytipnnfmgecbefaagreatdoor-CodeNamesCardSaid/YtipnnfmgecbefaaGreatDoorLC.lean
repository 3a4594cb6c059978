/- The start's memory (printed by mkLX.py): the laid variables are slices of texts. -/
import Derived.Test.YtipnnfmgecbefaaGreatDoorLS
set_option linter.unusedSimpArgs false
set_option linter.unusedVariables false
namespace Go.Proofs.YtipnnfmgecbefaaGreatDoor
open Mir Go.ChangeShapes Go.WideShapes Go.ChangeAt Go.RowKit
def lex_wordsT : List (List UInt8) := [[66, 69, 71, 73, 78], [69, 78, 68], [102, 117, 110, 99, 116, 105, 111, 110], [105, 102], [101, 108, 115, 101], [119, 104, 105, 108, 101], [102, 111, 114], [105, 110], [98, 114, 101, 97, 107], [99, 111, 110, 116, 105, 110, 117, 101], [110, 101, 120, 116], [101, 120, 105, 116], [114, 101, 116, 117, 114, 110], [100, 101, 108, 101, 116, 101], [112, 114, 105, 110, 116], [112, 114, 105, 110, 116, 102]]
def lex_builtinsT : List (List UInt8) := [[108, 101, 110, 103, 116, 104], [115, 117, 98, 115, 116, 114], [105, 110, 100, 101, 120], [115, 112, 108, 105, 116], [115, 117, 98], [103, 115, 117, 98], [109, 97, 116, 99, 104], [116, 111, 108, 111, 119, 101, 114], [116, 111, 117, 112, 112, 101, 114], [105, 110, 116], [115, 112, 114, 105, 110, 116, 102], [114, 97, 110, 100], [115, 114, 97, 110, 100]]
def lex_bannedT : List (List UInt8) := [[103, 101, 116, 108, 105, 110, 101], [115, 121, 115, 116, 101, 109], [99, 108, 111, 115, 101], [102, 102, 108, 117, 115, 104], [115, 121, 115, 116, 105, 109, 101], [115, 116, 114, 102, 116, 105, 109, 101]]
def resolve_specialT : List (List UInt8) := [[78, 82], [78, 70], [70, 83], [79, 70, 83], [79, 82, 83], [70, 73, 76, 69, 78, 65, 77, 69], [82, 83, 84, 65, 82, 84], [82, 76, 69, 78, 71, 84, 72]]
def code_namesT : List (List UInt8) := [[108, 101, 110, 103, 116, 104], [115, 117, 98, 115, 116, 114], [105, 110, 100, 101, 120], [115, 112, 108, 105, 116], [109, 97, 116, 99, 104], [116, 111, 108, 111, 119, 101, 114], [116, 111, 117, 112, 112, 101, 114], [105, 110, 116], [115, 112, 114, 105, 110, 116, 102], [114, 97, 110, 100], [115, 114, 97, 110, 100]]
def code_modesT : List (List UInt8) := [[61], [43, 61], [45, 61], [42, 61], [47, 61], [37, 61], [112, 114, 101, 105, 110, 99], [112, 114, 101, 100, 101, 99], [112, 111, 115, 116, 105, 110, 99], [112, 111, 115, 116, 100, 101, 99]]
def code_binariesT : List (List UInt8) := [[97, 100, 100], [115, 117, 98], [109, 117, 108], [100, 105, 118], [109, 111, 100], [99, 97, 116], [108, 101, 115, 115], [108, 101, 115, 115, 101, 113], [101, 113, 117, 97, 108], [110, 111, 116, 101, 113, 117, 97, 108], [103, 114, 101, 97, 116, 101, 114], [103, 114, 101, 97, 116, 101, 114, 101, 113]]
def code_unariesT : List (List UInt8) := [[110, 111, 116], [110, 101, 103], [112, 108, 117, 115]]
def code_specialT : List (List UInt8) := [[78, 82], [78, 70], [70, 83], [79, 70, 83], [79, 82, 83], [70, 73, 76, 69, 78, 65, 77, 69], [82, 83, 84, 65, 82, 84], [82, 76, 69, 78, 71, 84, 72]]
abbrev laidsC : List (String × DataW Unit) := [("scribe/lex.words", Rows.laid_scribe_lex_words), ("scribe/lex.builtins", Rows.laid_scribe_lex_builtins), ("scribe/lex.banned", Rows.laid_scribe_lex_banned), ("scribe/resolve.special", Rows.laid_scribe_resolve_special), ("scribe/code.names", Rows.laid_scribe_code_names), ("scribe/code.modes", Rows.laid_scribe_code_modes), ("scribe/code.binaries", Rows.laid_scribe_code_binaries), ("scribe/code.unaries", Rows.laid_scribe_code_unaries), ("scribe/code.special", Rows.laid_scribe_code_special)]
def txtRow (l : List (List UInt8)) : Array Value := (l.map fun s => Value.string ⟨s.toArray⟩).toArray
noncomputable def laidWorldC (os : Os) : World :=
  let N := (World.settled Tryz.prog os).heap.size
  let w0 := World.holding Tryz.prog os ⟨#[.cells (txtRow lex_wordsT) 9, .cells (txtRow lex_builtinsT) 9, .cells (txtRow lex_bannedT) 9, .cells (txtRow resolve_specialT) 9, .cells (txtRow code_namesT) 9, .cells (txtRow code_modesT) 9, .cells (txtRow code_binariesT) 9, .cells (txtRow code_unariesT) 9, .cells (txtRow code_specialT) 9], #[], []⟩
  let put (h : Array Obj) (g : Nat) (cs : Array Value) : Array Obj := h.modify g fun
    | .cells _ t frozen => .cells cs t frozen
    | o => o
  let h0 := put w0.heap 6 #[.slice (some ⟨N + 0, 0, none⟩) 16 16]
  let h1 := put h0 7 #[.slice (some ⟨N + 1, 0, none⟩) 13 13]
  let h2 := put h1 8 #[.slice (some ⟨N + 2, 0, none⟩) 6 6]
  let h3 := put h2 2 #[.slice (some ⟨N + 3, 0, none⟩) 8 8]
  let h4 := put h3 1 #[.slice (some ⟨N + 4, 0, none⟩) 11 11]
  let h5 := put h4 3 #[.slice (some ⟨N + 5, 0, none⟩) 10 10]
  let h6 := put h5 5 #[.slice (some ⟨N + 6, 0, none⟩) 12 12]
  let h7 := put h6 4 #[.slice (some ⟨N + 7, 0, none⟩) 3 3]
  let h8 := put h7 0 #[.slice (some ⟨N + 8, 0, none⟩) 8 8]
  { w0 with heap := h8 }
theorem laidWorldC_met (os : Os) (args : Array Value) : laidMet Tryz.prog laidsC ((laidWorldC os).forCall (fun _ _ => 0) ⟨#[], args, []⟩).memory :=
  laidMet_of_run' 8 (by kernel_rfl) (by kernel_rfl)
structure StartC (W : World) (L : Nat → Mir.Loc) (m : Int) : Prop where
  q0 : TextsAt W 6 lex_wordsT (L 0)
  q1 : TextsAt W 7 lex_builtinsT (L 1)
  q2 : TextsAt W 8 lex_bannedT (L 2)
  q3 : TextsAt W 2 resolve_specialT (L 3)
  q4 : TextsAt W 1 code_namesT (L 4)
  q5 : TextsAt W 3 code_modesT (L 5)
  q6 : TextsAt W 5 code_binariesT (L 6)
  q7 : TextsAt W 4 code_unariesT (L 7)
  q8 : TextsAt W 0 code_specialT (L 8)
  maxLen : ∃ t fr, W.heap[9]? = some (.cells #[.int .i64 m] t fr)
theorem startC {W : World} (h : laidMet Tryz.prog laidsC W) (hsh : W.ShapedOpen Tryz.prog) : ∃ L m, StartC W L m := by
  obtain ⟨L0, h0⟩ := laid_texts (ss := lex_wordsT) (g := 6) (t := 30) (e := 9) (zero := #[.slice none 0 0]) h hsh (by kernel_rfl) (by kernel_rfl) (by kernel_rfl) (by kernel_rfl) (by kernel_rfl) (of_decide_eq_true (by kernel_rfl)) (by kernel_rfl) rfl (by kernel_rfl) (by kernel_rfl) (by decide)
  obtain ⟨L1, h1⟩ := laid_texts (ss := lex_builtinsT) (g := 7) (t := 30) (e := 9) (zero := #[.slice none 0 0]) h.tail hsh (by kernel_rfl) (by kernel_rfl) (by kernel_rfl) (by kernel_rfl) (by kernel_rfl) (of_decide_eq_true (by kernel_rfl)) (by kernel_rfl) rfl (by kernel_rfl) (by kernel_rfl) (by decide)
  obtain ⟨L2, h2⟩ := laid_texts (ss := lex_bannedT) (g := 8) (t := 30) (e := 9) (zero := #[.slice none 0 0]) h.tail.tail hsh (by kernel_rfl) (by kernel_rfl) (by kernel_rfl) (by kernel_rfl) (by kernel_rfl) (of_decide_eq_true (by kernel_rfl)) (by kernel_rfl) rfl (by kernel_rfl) (by kernel_rfl) (by decide)
  obtain ⟨L3, h3⟩ := laid_texts (ss := resolve_specialT) (g := 2) (t := 30) (e := 9) (zero := #[.slice none 0 0]) h.tail.tail.tail hsh (by kernel_rfl) (by kernel_rfl) (by kernel_rfl) (by kernel_rfl) (by kernel_rfl) (of_decide_eq_true (by kernel_rfl)) (by kernel_rfl) rfl (by kernel_rfl) (by kernel_rfl) (by decide)
  obtain ⟨L4, h4⟩ := laid_texts (ss := code_namesT) (g := 1) (t := 30) (e := 9) (zero := #[.slice none 0 0]) h.tail.tail.tail.tail hsh (by kernel_rfl) (by kernel_rfl) (by kernel_rfl) (by kernel_rfl) (by kernel_rfl) (of_decide_eq_true (by kernel_rfl)) (by kernel_rfl) rfl (by kernel_rfl) (by kernel_rfl) (by decide)
  obtain ⟨L5, h5⟩ := laid_texts (ss := code_modesT) (g := 3) (t := 30) (e := 9) (zero := #[.slice none 0 0]) h.tail.tail.tail.tail.tail hsh (by kernel_rfl) (by kernel_rfl) (by kernel_rfl) (by kernel_rfl) (by kernel_rfl) (of_decide_eq_true (by kernel_rfl)) (by kernel_rfl) rfl (by kernel_rfl) (by kernel_rfl) (by decide)
  obtain ⟨L6, h6⟩ := laid_texts (ss := code_binariesT) (g := 5) (t := 30) (e := 9) (zero := #[.slice none 0 0]) h.tail.tail.tail.tail.tail.tail hsh (by kernel_rfl) (by kernel_rfl) (by kernel_rfl) (by kernel_rfl) (by kernel_rfl) (of_decide_eq_true (by kernel_rfl)) (by kernel_rfl) rfl (by kernel_rfl) (by kernel_rfl) (by decide)
  obtain ⟨L7, h7⟩ := laid_texts (ss := code_unariesT) (g := 4) (t := 30) (e := 9) (zero := #[.slice none 0 0]) h.tail.tail.tail.tail.tail.tail.tail hsh (by kernel_rfl) (by kernel_rfl) (by kernel_rfl) (by kernel_rfl) (by kernel_rfl) (of_decide_eq_true (by kernel_rfl)) (by kernel_rfl) rfl (by kernel_rfl) (by kernel_rfl) (by decide)
  obtain ⟨L8, h8⟩ := laid_texts (ss := code_specialT) (g := 0) (t := 30) (e := 9) (zero := #[.slice none 0 0]) h.tail.tail.tail.tail.tail.tail.tail.tail hsh (by kernel_rfl) (by kernel_rfl) (by kernel_rfl) (by kernel_rfl) (by kernel_rfl) (of_decide_eq_true (by kernel_rfl)) (by kernel_rfl) rfl (by kernel_rfl) (by kernel_rfl) (by decide)
  obtain ⟨m, hm⟩ := cell_of_shapedOpen_int (P := Tryz.prog) (g := 9) (t := 3) (zero := #[.int .i64 0]) hsh (of_decide_eq_true (by kernel_rfl)) (by kernel_rfl) rfl (by kernel_rfl) (by kernel_rfl) (by kernel_rfl)
  obtain ⟨cs, hh, hs, _⟩ := hsh.1 9 #[.int .i64 0] 3 (of_decide_eq_true (by kernel_rfl)) (by kernel_rfl)
  have hcs : cs = #[.int .i64 m] := by
    unfold World.cell? at hm
    simp only [hh, Option.isSome_none, Bool.false_eq_true, if_false] at hm
    have hs : cs.size = 1 := hs
    apply Array.ext_getElem?
    intro i
    rcases Nat.eq_zero_or_pos i with c | c
    · subst c; rw [hm]; rfl
    · rw [Array.getElem?_eq_none (by omega), Array.getElem?_eq_none (by simp; omega)]
  subst hcs
  exact ⟨fun i => match i with | 0 => L0 | 1 => L1 | 2 => L2 | 3 => L3 | 4 => L4 | 5 => L5 | 6 => L6 | 7 => L7 | 8 => L8 | _ => L0, m, h0, h1, h2, h3, h4, h5, h6, h7, h8, ⟨_, _, hh⟩⟩
/-- The mirror's memory at the start. -/
def hC (m : Int) : H := fun b =>
  if b = 6 then some (.cells [.sl 600 0 1 16] true) else
  if b = 7 then some (.cells [.sl 601 0 1 13] true) else
  if b = 8 then some (.cells [.sl 602 0 1 6] true) else
  if b = 2 then some (.cells [.sl 603 0 1 8] true) else
  if b = 1 then some (.cells [.sl 604 0 1 11] true) else
  if b = 3 then some (.cells [.sl 605 0 1 10] true) else
  if b = 5 then some (.cells [.sl 606 0 1 12] true) else
  if b = 4 then some (.cells [.sl 607 0 1 3] true) else
  if b = 0 then some (.cells [.sl 608 0 1 8] true) else
  if b = 9 then some (.cells [.int .i64 m] true) else
  if b = 600 then some (.cells (lex_wordsT.map .str) true) else
  if b = 601 then some (.cells (lex_builtinsT.map .str) true) else
  if b = 602 then some (.cells (lex_bannedT.map .str) true) else
  if b = 603 then some (.cells (resolve_specialT.map .str) true) else
  if b = 604 then some (.cells (code_namesT.map .str) true) else
  if b = 605 then some (.cells (code_modesT.map .str) true) else
  if b = 606 then some (.cells (code_binariesT.map .str) true) else
  if b = 607 then some (.cells (code_unariesT.map .str) true) else
  if b = 608 then some (.cells (code_specialT.map .str) true) else none
noncomputable def muC (L : Nat → Mir.Loc) : Mu := fun b => if b < Tryz.prog.globals.size then some ⟨b, 0, 1⟩ else if 600 ≤ b ∧ b < 609 then some (L (b - 600)) else none
theorem OR_one {W : World} {μ : Mu} {g : Nat} {v : Value} {t : TypeId} {fr : Nat × Nat} {x : V} (h1 : v.oneCell' = true) (h2 : VR μ x v) : OR Tryz.prog μ ⟨g, 0, 1⟩ (.cells [x] true) (.cells #[v] t fr) := by
  refine ⟨_, t, fr, rfl, rfl, by simp, fun i y hy => ?_, fun h => by cases h⟩
  have hi : i = 0 := by have := (List.getElem?_eq_some_iff.1 hy).1; simpa using this
  subst hi; cases hy
  exact ⟨v, rfl, h2, h1⟩
theorem OR_txt {W : World} {μ : Mu} {g : Nat} {ss : List (List UInt8)} {L : Mir.Loc} (h : TextsAt W g ss L) : ∃ x, W.heap[L.B]? = some x ∧ OR Tryz.prog μ L (.cells (ss.map .str) true) x := by
  obtain ⟨c, el, fr, h1, h2, h3, h4⟩ := h.row
  refine ⟨_, h1, c, el, fr, rfl, h2, by rw [List.length_map]; exact h3, fun i y hy => ?_, fun h => by cases h⟩
  rw [List.getElem?_map] at hy
  cases e : ss[i]? with
  | none => rw [e] at hy; cases hy
  | some s => rw [e, Option.map_some, Option.some.injEq] at hy; subst hy; exact ⟨_, h4 i s e, .str s, rfl⟩
theorem G_lt {b : Nat} (h : b < 10) : b < Tryz.prog.globals.size := Nat.lt_of_lt_of_le h (of_decide_eq_true (by kernel_rfl))
theorem G_le : Tryz.prog.globals.size ≤ 500 := of_decide_eq_true (by kernel_rfl)
theorem hC_some {m : Int} {b : Nat} {o : AObj} (hb : hC m b = some o) : (b = 6 ∧ o = .cells [.sl 600 0 1 16] true) ∨ (b = 7 ∧ o = .cells [.sl 601 0 1 13] true) ∨ (b = 8 ∧ o = .cells [.sl 602 0 1 6] true) ∨ (b = 2 ∧ o = .cells [.sl 603 0 1 8] true) ∨ (b = 1 ∧ o = .cells [.sl 604 0 1 11] true) ∨ (b = 3 ∧ o = .cells [.sl 605 0 1 10] true) ∨ (b = 5 ∧ o = .cells [.sl 606 0 1 12] true) ∨ (b = 4 ∧ o = .cells [.sl 607 0 1 3] true) ∨ (b = 0 ∧ o = .cells [.sl 608 0 1 8] true) ∨ (b = 9 ∧ o = .cells [.int .i64 m] true) ∨ (b = 600 ∧ o = .cells (lex_wordsT.map .str) true) ∨ (b = 601 ∧ o = .cells (lex_builtinsT.map .str) true) ∨ (b = 602 ∧ o = .cells (lex_bannedT.map .str) true) ∨ (b = 603 ∧ o = .cells (resolve_specialT.map .str) true) ∨ (b = 604 ∧ o = .cells (code_namesT.map .str) true) ∨ (b = 605 ∧ o = .cells (code_modesT.map .str) true) ∨ (b = 606 ∧ o = .cells (code_binariesT.map .str) true) ∨ (b = 607 ∧ o = .cells (code_unariesT.map .str) true) ∨ (b = 608 ∧ o = .cells (code_specialT.map .str) true) := by
  unfold hC at hb
  by_cases e : b = 6
  · rw [if_pos e] at hb; exact .inl ⟨e, (Option.some.inj hb).symm⟩
  rw [if_neg e] at hb; clear e
  by_cases e : b = 7
  · rw [if_pos e] at hb; exact .inr (.inl ⟨e, (Option.some.inj hb).symm⟩)
  rw [if_neg e] at hb; clear e
  by_cases e : b = 8
  · rw [if_pos e] at hb; exact .inr (.inr (.inl ⟨e, (Option.some.inj hb).symm⟩))
  rw [if_neg e] at hb; clear e
  by_cases e : b = 2
  · rw [if_pos e] at hb; exact .inr (.inr (.inr (.inl ⟨e, (Option.some.inj hb).symm⟩)))
  rw [if_neg e] at hb; clear e
  by_cases e : b = 1
  · rw [if_pos e] at hb; exact .inr (.inr (.inr (.inr (.inl ⟨e, (Option.some.inj hb).symm⟩))))
  rw [if_neg e] at hb; clear e
  by_cases e : b = 3
  · rw [if_pos e] at hb; exact .inr (.inr (.inr (.inr (.inr (.inl ⟨e, (Option.some.inj hb).symm⟩)))))
  rw [if_neg e] at hb; clear e
  by_cases e : b = 5
  · rw [if_pos e] at hb; exact .inr (.inr (.inr (.inr (.inr (.inr (.inl ⟨e, (Option.some.inj hb).symm⟩))))))
  rw [if_neg e] at hb; clear e
  by_cases e : b = 4
  · rw [if_pos e] at hb; exact .inr (.inr (.inr (.inr (.inr (.inr (.inr (.inl ⟨e, (Option.some.inj hb).symm⟩)))))))
  rw [if_neg e] at hb; clear e
  by_cases e : b = 0
  · rw [if_pos e] at hb; exact .inr (.inr (.inr (.inr (.inr (.inr (.inr (.inr (.inl ⟨e, (Option.some.inj hb).symm⟩))))))))
  rw [if_neg e] at hb; clear e
  by_cases e : b = 9
  · rw [if_pos e] at hb; exact .inr (.inr (.inr (.inr (.inr (.inr (.inr (.inr (.inr (.inl ⟨e, (Option.some.inj hb).symm⟩)))))))))
  rw [if_neg e] at hb; clear e
  by_cases e : b = 600
  · rw [if_pos e] at hb; exact .inr (.inr (.inr (.inr (.inr (.inr (.inr (.inr (.inr (.inr (.inl ⟨e, (Option.some.inj hb).symm⟩))))))))))
  rw [if_neg e] at hb; clear e
  by_cases e : b = 601
  · rw [if_pos e] at hb; exact .inr (.inr (.inr (.inr (.inr (.inr (.inr (.inr (.inr (.inr (.inr (.inl ⟨e, (Option.some.inj hb).symm⟩)))))))))))
  rw [if_neg e] at hb; clear e
  by_cases e : b = 602
  · rw [if_pos e] at hb; exact .inr (.inr (.inr (.inr (.inr (.inr (.inr (.inr (.inr (.inr (.inr (.inr (.inl ⟨e, (Option.some.inj hb).symm⟩))))))))))))
  rw [if_neg e] at hb; clear e
  by_cases e : b = 603
  · rw [if_pos e] at hb; exact .inr (.inr (.inr (.inr (.inr (.inr (.inr (.inr (.inr (.inr (.inr (.inr (.inr (.inl ⟨e, (Option.some.inj hb).symm⟩)))))))))))))
  rw [if_neg e] at hb; clear e
  by_cases e : b = 604
  · rw [if_pos e] at hb; exact .inr (.inr (.inr (.inr (.inr (.inr (.inr (.inr (.inr (.inr (.inr (.inr (.inr (.inr (.inl ⟨e, (Option.some.inj hb).symm⟩))))))))))))))
  rw [if_neg e] at hb; clear e
  by_cases e : b = 605
  · rw [if_pos e] at hb; exact .inr (.inr (.inr (.inr (.inr (.inr (.inr (.inr (.inr (.inr (.inr (.inr (.inr (.inr (.inr (.inl ⟨e, (Option.some.inj hb).symm⟩)))))))))))))))
  rw [if_neg e] at hb; clear e
  by_cases e : b = 606
  · rw [if_pos e] at hb; exact .inr (.inr (.inr (.inr (.inr (.inr (.inr (.inr (.inr (.inr (.inr (.inr (.inr (.inr (.inr (.inr (.inl ⟨e, (Option.some.inj hb).symm⟩))))))))))))))))
  rw [if_neg e] at hb; clear e
  by_cases e : b = 607
  · rw [if_pos e] at hb; exact .inr (.inr (.inr (.inr (.inr (.inr (.inr (.inr (.inr (.inr (.inr (.inr (.inr (.inr (.inr (.inr (.inr (.inl ⟨e, (Option.some.inj hb).symm⟩)))))))))))))))))
  rw [if_neg e] at hb; clear e
  by_cases e : b = 608
  · rw [if_pos e] at hb; exact .inr (.inr (.inr (.inr (.inr (.inr (.inr (.inr (.inr (.inr (.inr (.inr (.inr (.inr (.inr (.inr (.inr (.inr ⟨e, (Option.some.inj hb).symm⟩)))))))))))))))))
  rw [if_neg e] at hb; cases hb
theorem C_start {W : World} {L : Nat → Mir.Loc} {m : Int} (S : StartC W L m) : R Tryz.prog (muC L) (hC m) W := by
  have hG := G_le
  have eb : ∀ b, 600 ≤ b → b < 609 → muC L b = some (L (b - 600)) := fun b h1 h2 => by unfold muC; rw [if_neg (by omega), if_pos ⟨h1, h2⟩]
  have eg : ∀ b, b < 10 → muC L b = some ⟨b, 0, 1⟩ := fun b hb => by unfold muC; rw [if_pos (G_lt hb)]
  refine R_ro ⟨1000, fun b hb => ?_⟩ (fun g hg => ⟨1, by unfold muC; rw [if_pos hg]⟩) fun b o hb => ?_
  · unfold muC; rw [if_neg (by omega), if_neg (by omega)]
  · rcases hC_some hb with ⟨rfl, rfl⟩ | ⟨rfl, rfl⟩ | ⟨rfl, rfl⟩ | ⟨rfl, rfl⟩ | ⟨rfl, rfl⟩ | ⟨rfl, rfl⟩ | ⟨rfl, rfl⟩ | ⟨rfl, rfl⟩ | ⟨rfl, rfl⟩ | ⟨rfl, rfl⟩ | ⟨rfl, rfl⟩ | ⟨rfl, rfl⟩ | ⟨rfl, rfl⟩ | ⟨rfl, rfl⟩ | ⟨rfl, rfl⟩ | ⟨rfl, rfl⟩ | ⟨rfl, rfl⟩ | ⟨rfl, rfl⟩ | ⟨rfl, rfl⟩
    · obtain ⟨v, t, fr, q1, q2, q3⟩ := S.q0.var
      exact ⟨by omega, rfl, _, _, eg _ (by omega), q1, OR_one (W := W) q2 (q3 _ _ (eb 600 (by omega) (by omega)))⟩
    · obtain ⟨v, t, fr, q1, q2, q3⟩ := S.q1.var
      exact ⟨by omega, rfl, _, _, eg _ (by omega), q1, OR_one (W := W) q2 (q3 _ _ (eb 601 (by omega) (by omega)))⟩
    · obtain ⟨v, t, fr, q1, q2, q3⟩ := S.q2.var
      exact ⟨by omega, rfl, _, _, eg _ (by omega), q1, OR_one (W := W) q2 (q3 _ _ (eb 602 (by omega) (by omega)))⟩
    · obtain ⟨v, t, fr, q1, q2, q3⟩ := S.q3.var
      exact ⟨by omega, rfl, _, _, eg _ (by omega), q1, OR_one (W := W) q2 (q3 _ _ (eb 603 (by omega) (by omega)))⟩
    · obtain ⟨v, t, fr, q1, q2, q3⟩ := S.q4.var
      exact ⟨by omega, rfl, _, _, eg _ (by omega), q1, OR_one (W := W) q2 (q3 _ _ (eb 604 (by omega) (by omega)))⟩
    · obtain ⟨v, t, fr, q1, q2, q3⟩ := S.q5.var
      exact ⟨by omega, rfl, _, _, eg _ (by omega), q1, OR_one (W := W) q2 (q3 _ _ (eb 605 (by omega) (by omega)))⟩
    · obtain ⟨v, t, fr, q1, q2, q3⟩ := S.q6.var
      exact ⟨by omega, rfl, _, _, eg _ (by omega), q1, OR_one (W := W) q2 (q3 _ _ (eb 606 (by omega) (by omega)))⟩
    · obtain ⟨v, t, fr, q1, q2, q3⟩ := S.q7.var
      exact ⟨by omega, rfl, _, _, eg _ (by omega), q1, OR_one (W := W) q2 (q3 _ _ (eb 607 (by omega) (by omega)))⟩
    · obtain ⟨v, t, fr, q1, q2, q3⟩ := S.q8.var
      exact ⟨by omega, rfl, _, _, eg _ (by omega), q1, OR_one (W := W) q2 (q3 _ _ (eb 608 (by omega) (by omega)))⟩
    · obtain ⟨t, fr, q1⟩ := S.maxLen
      exact ⟨by omega, rfl, _, _, eg _ (by omega), q1, OR_one (W := W) rfl (.int _ _)⟩
    · obtain ⟨x, q1, q2⟩ := OR_txt (μ := muC L) S.q0
      exact ⟨by omega, rfl, _, x, eb 600 (by omega) (by omega), q1, q2⟩
    · obtain ⟨x, q1, q2⟩ := OR_txt (μ := muC L) S.q1
      exact ⟨by omega, rfl, _, x, eb 601 (by omega) (by omega), q1, q2⟩
    · obtain ⟨x, q1, q2⟩ := OR_txt (μ := muC L) S.q2
      exact ⟨by omega, rfl, _, x, eb 602 (by omega) (by omega), q1, q2⟩
    · obtain ⟨x, q1, q2⟩ := OR_txt (μ := muC L) S.q3
      exact ⟨by omega, rfl, _, x, eb 603 (by omega) (by omega), q1, q2⟩
    · obtain ⟨x, q1, q2⟩ := OR_txt (μ := muC L) S.q4
      exact ⟨by omega, rfl, _, x, eb 604 (by omega) (by omega), q1, q2⟩
    · obtain ⟨x, q1, q2⟩ := OR_txt (μ := muC L) S.q5
      exact ⟨by omega, rfl, _, x, eb 605 (by omega) (by omega), q1, q2⟩
    · obtain ⟨x, q1, q2⟩ := OR_txt (μ := muC L) S.q6
      exact ⟨by omega, rfl, _, x, eb 606 (by omega) (by omega), q1, q2⟩
    · obtain ⟨x, q1, q2⟩ := OR_txt (μ := muC L) S.q7
      exact ⟨by omega, rfl, _, x, eb 607 (by omega) (by omega), q1, q2⟩
    · obtain ⟨x, q1, q2⟩ := OR_txt (μ := muC L) S.q8
      exact ⟨by omega, rfl, _, x, eb 608 (by omega) (by omega), q1, q2⟩
theorem hC_ro {m : Int} : ∀ b o, hC m b = some o → o.ro = true := by
  intro b o hb
  rcases hC_some hb with ⟨_, rfl⟩ | ⟨_, rfl⟩ | ⟨_, rfl⟩ | ⟨_, rfl⟩ | ⟨_, rfl⟩ | ⟨_, rfl⟩ | ⟨_, rfl⟩ | ⟨_, rfl⟩ | ⟨_, rfl⟩ | ⟨_, rfl⟩ | ⟨_, rfl⟩ | ⟨_, rfl⟩ | ⟨_, rfl⟩ | ⟨_, rfl⟩ | ⟨_, rfl⟩ | ⟨_, rfl⟩ | ⟨_, rfl⟩ | ⟨_, rfl⟩ | ⟨_, rfl⟩ <;> rfl
end Go.Proofs.YtipnnfmgecbefaaGreatDoor
