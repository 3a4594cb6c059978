/- The start's memory of the rows over Resolve. -/
import Derived.Test.YtkfbldogmgofoaaGreatDoorLS
set_option linter.unusedSimpArgs false
set_option linter.unusedVariables false
namespace Go.Proofs.YtkfbldogmgofoaaGreatDoor
open Mir Go.ChangeShapes Go.WideShapes Go.ChangeAt Go.RowKit
def wordsT : List (List UInt8) := [[66, 69, 71, 73, 78], [69, 78, 68], [102, 117, 110, 99, 116, 105, 111, 110], [105, 102], [101, 108, 115, 101], [119, 104, 105, 108, 101], [102, 111, 114], [105, 110], [98, 114, 101, 97, 107], [99, 111, 110, 116, 105, 110, 117, 101], [110, 101, 120, 116], [101, 120, 105, 116], [114, 101, 116, 117, 114, 110], [100, 101, 108, 101, 116, 101], [112, 114, 105, 110, 116], [112, 114, 105, 110, 116, 102]]
def builtinsT : List (List UInt8) := [[108, 101, 110, 103, 116, 104], [115, 117, 98, 115, 116, 114], [105, 110, 100, 101, 120], [115, 112, 108, 105, 116], [115, 117, 98], [103, 115, 117, 98], [109, 97, 116, 99, 104], [116, 111, 108, 111, 119, 101, 114], [116, 111, 117, 112, 112, 101, 114], [105, 110, 116], [115, 112, 114, 105, 110, 116, 102], [114, 97, 110, 100], [115, 114, 97, 110, 100]]
def bannedT : List (List UInt8) := [[103, 101, 116, 108, 105, 110, 101], [115, 121, 115, 116, 101, 109], [99, 108, 111, 115, 101], [102, 102, 108, 117, 115, 104], [115, 121, 115, 116, 105, 109, 101], [115, 116, 114, 102, 116, 105, 109, 101]]
def specialT : List (List UInt8) := [[78, 82], [78, 70], [70, 83], [79, 70, 83], [79, 82, 83], [70, 73, 76, 69, 78, 65, 77, 69], [82, 83, 84, 65, 82, 84], [82, 76, 69, 78, 71, 84, 72]]
abbrev laidsR : List (String × DataW Unit) := [("scribe/lex.words", Rows.laid_scribe_lex_words), ("scribe/lex.builtins", Rows.laid_scribe_lex_builtins), ("scribe/lex.banned", Rows.laid_scribe_lex_banned), ("scribe/resolve.special", Rows.laid_scribe_resolve_special)]
def txtRow (l : List (List UInt8)) : Array Value := (l.map fun s => Value.string ⟨s.toArray⟩).toArray
noncomputable def laidWorldR (os : Os) : World :=
  let N := (World.settled Tryz.prog os).heap.size
  let w0 := World.holding Tryz.prog os ⟨#[.cells (txtRow wordsT) 9, .cells (txtRow builtinsT) 9, .cells (txtRow bannedT) 9, .cells (txtRow specialT) 9], #[], []⟩
  let put (h : Array Obj) (g : Nat) (cs : Array Value) : Array Obj := h.modify g fun
    | .cells _ t frozen => .cells cs t frozen
    | o => o
  let h0 := put w0.heap 1 #[.slice (some ⟨N, 0, none⟩) 16 16]
  let h1 := put h0 2 #[.slice (some ⟨N + 1, 0, none⟩) 13 13]
  let h2 := put h1 3 #[.slice (some ⟨N + 2, 0, none⟩) 6 6]
  let h3 := put h2 0 #[.slice (some ⟨N + 3, 0, none⟩) 8 8]
  { w0 with heap := h3 }
theorem laidWorldR_met (os : Os) (args : Array Value) : laidMet Tryz.prog laidsR ((laidWorldR os).forCall (fun _ _ => 0) ⟨#[], args, []⟩).memory :=
  laidMet_of_run' 8 (by kernel_rfl) (by kernel_rfl)
structure StartR (W : World) (L0 L1 L2 L3 : Mir.Loc) (m : Int) : Prop where
  words : TextsAt W 1 wordsT L1
  builtins : TextsAt W 2 builtinsT L2
  banned : TextsAt W 3 bannedT L3
  special : TextsAt W 0 specialT L0
  maxLen : ∃ t fr, W.heap[4]? = some (.cells #[.int .i64 m] t fr)
theorem startR {W : World} (h : laidMet Tryz.prog laidsR W) (hsh : W.ShapedOpen Tryz.prog) : ∃ L0 L1 L2 L3 m, StartR W L0 L1 L2 L3 m := by
  obtain ⟨L1, h1⟩ := laid_texts (ss := wordsT) (g := 1) (t := 37) (e := 9) (zero := #[.slice none 0 0]) h hsh (by kernel_rfl) (by kernel_rfl) (by kernel_rfl) (by kernel_rfl) (by kernel_rfl) (of_decide_eq_true (by kernel_rfl)) (by kernel_rfl) rfl (by kernel_rfl) (by kernel_rfl) (by decide)
  obtain ⟨L2, h2⟩ := laid_texts (ss := builtinsT) (g := 2) (t := 37) (e := 9) (zero := #[.slice none 0 0]) h.tail hsh (by kernel_rfl) (by kernel_rfl) (by kernel_rfl) (by kernel_rfl) (by kernel_rfl) (of_decide_eq_true (by kernel_rfl)) (by kernel_rfl) rfl (by kernel_rfl) (by kernel_rfl) (by decide)
  obtain ⟨L3, h3⟩ := laid_texts (ss := bannedT) (g := 3) (t := 37) (e := 9) (zero := #[.slice none 0 0]) h.tail.tail hsh (by kernel_rfl) (by kernel_rfl) (by kernel_rfl) (by kernel_rfl) (by kernel_rfl) (of_decide_eq_true (by kernel_rfl)) (by kernel_rfl) rfl (by kernel_rfl) (by kernel_rfl) (by decide)
  obtain ⟨L0, h0⟩ := laid_texts (ss := specialT) (g := 0) (t := 37) (e := 9) (zero := #[.slice none 0 0]) h.tail.tail.tail hsh (by kernel_rfl) (by kernel_rfl) (by kernel_rfl) (by kernel_rfl) (by kernel_rfl) (of_decide_eq_true (by kernel_rfl)) (by kernel_rfl) rfl (by kernel_rfl) (by kernel_rfl) (by decide)
  obtain ⟨m, hm⟩ := cell_of_shapedOpen_int (P := Tryz.prog) (g := 4) (t := 3) (zero := #[.int .i64 0]) hsh (of_decide_eq_true (by kernel_rfl)) (by kernel_rfl) rfl (by kernel_rfl) (by kernel_rfl) (by kernel_rfl)
  obtain ⟨cs, hh, hs, _⟩ := hsh.1 4 #[.int .i64 0] 3 (of_decide_eq_true (by kernel_rfl)) (by kernel_rfl)
  have hcs : cs = #[.int .i64 m] := by
    unfold World.cell? at hm
    simp only [hh, Option.isSome_none, Bool.false_eq_true, if_false] at hm
    have hs : cs.size = 1 := hs
    apply Array.ext_getElem?
    intro i
    rcases Nat.eq_zero_or_pos i with c | c
    · subst c; rw [hm]; rfl
    · rw [Array.getElem?_eq_none (by omega), Array.getElem?_eq_none (by simp; omega)]
  subst hcs
  exact ⟨L0, L1, L2, L3, m, h1, h2, h3, h0, ⟨_, _, hh⟩⟩
/-- The mirror's memory at the start. -/
def hR (m : Int) : H := fun b =>
  if b = 1 then some (.cells [.sl 601 0 1 16] true) else if b = 2 then some (.cells [.sl 602 0 1 13] true) else if b = 3 then some (.cells [.sl 603 0 1 6] true)
  else if b = 0 then some (.cells [.sl 600 0 1 8] true) else if b = 4 then some (.cells [.int .i64 m] true)
  else if b = 601 then some (.cells (wordsT.map .str) true) else if b = 602 then some (.cells (builtinsT.map .str) true) else if b = 603 then some (.cells (bannedT.map .str) true) else if b = 600 then some (.cells (specialT.map .str) true) else none
noncomputable def muR (L0 L1 L2 L3 : Mir.Loc) : Mu := fun b => if b < Tryz.prog.globals.size then some ⟨b, 0, 1⟩ else if b = 600 then some L0 else if b = 601 then some L1 else if b = 602 then some L2 else if b = 603 then some L3 else none
theorem OR_one {W : World} {μ : Mu} {g : Nat} {v : Value} {t : TypeId} {fr : Nat × Nat} {x : V} (h1 : v.oneCell' = true) (h2 : VR μ x v) : OR Tryz.prog μ ⟨g, 0, 1⟩ (.cells [x] true) (.cells #[v] t fr) := by
  refine ⟨_, t, fr, rfl, rfl, by simp, fun i y hy => ?_, fun h => by cases h⟩
  have hi : i = 0 := by have := (List.getElem?_eq_some_iff.1 hy).1; simpa using this
  subst hi; cases hy
  exact ⟨v, rfl, h2, h1⟩
theorem OR_txt {W : World} {μ : Mu} {g : Nat} {ss : List (List UInt8)} {L : Mir.Loc} (h : TextsAt W g ss L) : ∃ x, W.heap[L.B]? = some x ∧ OR Tryz.prog μ L (.cells (ss.map .str) true) x := by
  obtain ⟨c, el, fr, h1, h2, h3, h4⟩ := h.row
  refine ⟨_, h1, c, el, fr, rfl, h2, by rw [List.length_map]; exact h3, fun i y hy => ?_, fun h => by cases h⟩
  rw [List.getElem?_map] at hy
  cases e : ss[i]? with
  | none => rw [e] at hy; cases hy
  | some s => rw [e, Option.map_some, Option.some.injEq] at hy; subst hy; exact ⟨_, h4 i s e, .str s, rfl⟩
theorem G_lt {b : Nat} (h : b < 8) : b < Tryz.prog.globals.size := Nat.lt_of_lt_of_le h (of_decide_eq_true (by kernel_rfl))
theorem G_le : Tryz.prog.globals.size ≤ 8 := of_decide_eq_true (by kernel_rfl)
theorem R_start {W : World} {L0 L1 L2 L3 : Mir.Loc} {m : Int} (S : StartR W L0 L1 L2 L3 m) : R Tryz.prog (muR L0 L1 L2 L3) (hR m) W := by
  have hG := G_le
  have e0 : muR L0 L1 L2 L3 600 = some L0 := by unfold muR; rw [if_neg (by omega), if_pos rfl]
  have e1 : muR L0 L1 L2 L3 601 = some L1 := by unfold muR; rw [if_neg (by omega), if_neg (by omega), if_pos rfl]
  have e2 : muR L0 L1 L2 L3 602 = some L2 := by unfold muR; rw [if_neg (by omega), if_neg (by omega), if_neg (by omega), if_pos rfl]
  have e3 : muR L0 L1 L2 L3 603 = some L3 := by unfold muR; rw [if_neg (by omega), if_neg (by omega), if_neg (by omega), if_neg (by omega), if_pos rfl]
  have eg : ∀ b, b < 8 → muR L0 L1 L2 L3 b = some ⟨b, 0, 1⟩ := fun b hb => by unfold muR; rw [if_pos (G_lt hb)]
  refine R_ro ⟨1000, fun b hb => ?_⟩ (fun g hg => ⟨1, by unfold muR; rw [if_pos hg]⟩) fun b o hb => ?_
  · unfold muR; rw [if_neg (by omega), if_neg (by omega), if_neg (by omega), if_neg (by omega), if_neg (by omega)]
  · unfold hR at hb
    split at hb
    · rename_i e; subst e; cases hb
      obtain ⟨v, t, fr, q1, q2, q3⟩ := S.words.var
      exact ⟨by omega, rfl, _, _, eg _ (by omega), q1, OR_one (W := W) q2 (q3 _ _ e1)⟩
    split at hb
    · rename_i e; subst e; cases hb
      obtain ⟨v, t, fr, q1, q2, q3⟩ := S.builtins.var
      exact ⟨by omega, rfl, _, _, eg _ (by omega), q1, OR_one (W := W) q2 (q3 _ _ e2)⟩
    split at hb
    · rename_i e; subst e; cases hb
      obtain ⟨v, t, fr, q1, q2, q3⟩ := S.banned.var
      exact ⟨by omega, rfl, _, _, eg _ (by omega), q1, OR_one (W := W) q2 (q3 _ _ e3)⟩
    split at hb
    · rename_i e; subst e; cases hb
      obtain ⟨v, t, fr, q1, q2, q3⟩ := S.special.var
      exact ⟨by omega, rfl, _, _, eg _ (by omega), q1, OR_one (W := W) q2 (q3 _ _ e0)⟩
    split at hb
    · rename_i e; subst e; cases hb
      obtain ⟨t, fr, q1⟩ := S.maxLen
      exact ⟨by omega, rfl, _, _, eg _ (by omega), q1, OR_one (W := W) rfl (.int _ _)⟩
    split at hb
    · rename_i e; subst e; cases hb
      obtain ⟨x, q1, q2⟩ := OR_txt (μ := muR L0 L1 L2 L3) S.words
      exact ⟨by omega, rfl, _, x, e1, q1, q2⟩
    split at hb
    · rename_i e; subst e; cases hb
      obtain ⟨x, q1, q2⟩ := OR_txt (μ := muR L0 L1 L2 L3) S.builtins
      exact ⟨by omega, rfl, _, x, e2, q1, q2⟩
    split at hb
    · rename_i e; subst e; cases hb
      obtain ⟨x, q1, q2⟩ := OR_txt (μ := muR L0 L1 L2 L3) S.banned
      exact ⟨by omega, rfl, _, x, e3, q1, q2⟩
    split at hb
    · rename_i e; subst e; cases hb
      obtain ⟨x, q1, q2⟩ := OR_txt (μ := muR L0 L1 L2 L3) S.special
      exact ⟨by omega, rfl, _, x, e0, q1, q2⟩
    · cases hb
theorem hR_ro {m : Int} : ∀ b o, hR m b = some o → o.ro = true := by
  intro b o hb
  unfold hR at hb
  repeat' (split at hb)
  all_goals first | (cases hb; rfl) | (cases hb)
end Go.Proofs.YtkfbldogmgofoaaGreatDoor
