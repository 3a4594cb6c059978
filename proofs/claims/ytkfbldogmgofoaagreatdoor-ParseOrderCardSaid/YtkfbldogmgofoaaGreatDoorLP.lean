/- The start's memory of the rows over Parse. -/
import Derived.Test.YtkfbldogmgofoaaGreatDoorLR
set_option linter.unusedSimpArgs false
set_option linter.unusedVariables false
namespace Go.Proofs.YtkfbldogmgofoaaGreatDoor
open Mir Go.ChangeShapes Go.WideShapes Go.ChangeAt Go.RowKit
abbrev laidsP : List (String × DataW Unit) := [("math/bits.deBruijn32tab", Rows.laid_math_bits_deBruijn32tab), ("math/bits.deBruijn64tab", Rows.laid_math_bits_deBruijn64tab), ("internal/strconv.uint64pow10", Rows.laid_internal_strconv_uint64pow10), ("scribe/lex.words", Rows.laid_scribe_lex_words), ("scribe/lex.builtins", Rows.laid_scribe_lex_builtins), ("scribe/lex.banned", Rows.laid_scribe_lex_banned)]
noncomputable def numsOf (d : DataW Unit) (k : IntKind) : Array Value := match d with
  | .agg l => (l.map fun | .lit (.int _ z) => Value.int k z | _ => .int k 0).toArray
  | _ => #[]
noncomputable def laidWorldP (os : Os) : World :=
  let N := (World.settled Tryz.prog os).heap.size
  let w0 := World.holding Tryz.prog os ⟨#[.cells (txtRow wordsT) 9, .cells (txtRow builtinsT) 9, .cells (txtRow bannedT) 9], #[], []⟩
  let put (h : Array Obj) (g : Nat) (cs : Array Value) : Array Obj := h.modify g fun
    | .cells _ t frozen => .cells cs t frozen
    | o => o
  let h0 := put w0.heap 1 #[.slice (some ⟨N, 0, none⟩) 16 16]
  let h1 := put h0 2 #[.slice (some ⟨N + 1, 0, none⟩) 13 13]
  let h2 := put h1 3 #[.slice (some ⟨N + 2, 0, none⟩) 6 6]
  let h3 := put h2 6 (numsOf Rows.laid_math_bits_deBruijn32tab .u8)
  let h4 := put h3 7 (numsOf Rows.laid_math_bits_deBruijn64tab .u8)
  let h5 := put h4 5 (numsOf Rows.laid_internal_strconv_uint64pow10 .u64)
  { w0 with heap := h5 }
theorem laidWorldP_met (os : Os) (args : Array Value) : laidMet Tryz.prog laidsP ((laidWorldP os).forCall (fun _ _ => 0) ⟨#[], args, []⟩).memory :=
  laidMet_of_run' 8 (by kernel_rfl) (by kernel_rfl)
structure StartP (W : World) (L1 L2 L3 : Mir.Loc) (m : Int) : Prop where
  words : TextsAt W 1 wordsT L1
  builtins : TextsAt W 2 builtinsT L2
  banned : TextsAt W 3 bannedT L3
  maxLen : ∃ t fr, W.heap[4]? = some (.cells #[.int .i64 m] t fr)
theorem startP {W : World} (h0 : laidMet Tryz.prog laidsP W) (hsh : W.ShapedOpen Tryz.prog) : ∃ L1 L2 L3 m, StartP W L1 L2 L3 m := by
  have h := h0.tail.tail.tail
  obtain ⟨L1, h1⟩ := laid_texts (ss := wordsT) (g := 1) (t := 37) (e := 9) (zero := #[.slice none 0 0]) h hsh (by kernel_rfl) (by kernel_rfl) (by kernel_rfl) (by kernel_rfl) (by kernel_rfl) (of_decide_eq_true (by kernel_rfl)) (by kernel_rfl) rfl (by kernel_rfl) (by kernel_rfl) (by decide)
  obtain ⟨L2, h2⟩ := laid_texts (ss := builtinsT) (g := 2) (t := 37) (e := 9) (zero := #[.slice none 0 0]) h.tail hsh (by kernel_rfl) (by kernel_rfl) (by kernel_rfl) (by kernel_rfl) (by kernel_rfl) (of_decide_eq_true (by kernel_rfl)) (by kernel_rfl) rfl (by kernel_rfl) (by kernel_rfl) (by decide)
  obtain ⟨L3, h3⟩ := laid_texts (ss := bannedT) (g := 3) (t := 37) (e := 9) (zero := #[.slice none 0 0]) h.tail.tail hsh (by kernel_rfl) (by kernel_rfl) (by kernel_rfl) (by kernel_rfl) (by kernel_rfl) (of_decide_eq_true (by kernel_rfl)) (by kernel_rfl) rfl (by kernel_rfl) (by kernel_rfl) (by decide)
  obtain ⟨m, hm⟩ := cell_of_shapedOpen_int (P := Tryz.prog) (g := 4) (t := 3) (zero := #[.int .i64 0]) hsh (of_decide_eq_true (by kernel_rfl)) (by kernel_rfl) rfl (by kernel_rfl) (by kernel_rfl) (by kernel_rfl)
  obtain ⟨cs, hh, hs, _⟩ := hsh.1 4 #[.int .i64 0] 3 (of_decide_eq_true (by kernel_rfl)) (by kernel_rfl)
  have hcs : cs = #[.int .i64 m] := by
    unfold World.cell? at hm
    simp only [hh, Option.isSome_none, Bool.false_eq_true, if_false] at hm
    have hs : cs.size = 1 := hs
    apply Array.ext_getElem?
    intro i
    rcases Nat.eq_zero_or_pos i with c | c
    · subst c; rw [hm]; rfl
    · rw [Array.getElem?_eq_none (by omega), Array.getElem?_eq_none (by simp; omega)]
  subst hcs
  exact ⟨L1, L2, L3, m, h1, h2, h3, ⟨_, _, hh⟩⟩
/-- The mirror's memory at the start. -/
def hP (m : Int) : H := fun b =>
  if b = 1 then some (.cells [.sl 601 0 1 16] true) else if b = 2 then some (.cells [.sl 602 0 1 13] true) else if b = 3 then some (.cells [.sl 603 0 1 6] true)
  else if b = 4 then some (.cells [.int .i64 m] true)
  else if b = 601 then some (.cells (wordsT.map .str) true) else if b = 602 then some (.cells (builtinsT.map .str) true) else if b = 603 then some (.cells (bannedT.map .str) true) else none
noncomputable def muP (L1 L2 L3 : Mir.Loc) : Mu := fun b => if b < Tryz.prog.globals.size then some ⟨b, 0, 1⟩ else if b = 601 then some L1 else if b = 602 then some L2 else if b = 603 then some L3 else none
theorem P_start {W : World} {L1 L2 L3 : Mir.Loc} {m : Int} (S : StartP W L1 L2 L3 m) : R Tryz.prog (muP L1 L2 L3) (hP m) W := by
  have hG := G_le
  have e1 : muP L1 L2 L3 601 = some L1 := by unfold muP; rw [if_neg (by omega), if_pos rfl]
  have e2 : muP L1 L2 L3 602 = some L2 := by unfold muP; rw [if_neg (by omega), if_neg (by omega), if_pos rfl]
  have e3 : muP L1 L2 L3 603 = some L3 := by unfold muP; rw [if_neg (by omega), if_neg (by omega), if_neg (by omega), if_pos rfl]
  have eg : ∀ b, b < 8 → muP L1 L2 L3 b = some ⟨b, 0, 1⟩ := fun b hb => by unfold muP; rw [if_pos (G_lt hb)]
  refine R_ro ⟨1000, fun b hb => ?_⟩ (fun g hg => ⟨1, by unfold muP; rw [if_pos hg]⟩) fun b o hb => ?_
  · unfold muP; rw [if_neg (by omega), if_neg (by omega), if_neg (by omega), if_neg (by omega)]
  · unfold hP at hb
    split at hb
    · rename_i e; subst e; cases hb
      obtain ⟨v, t, fr, q1, q2, q3⟩ := S.words.var
      exact ⟨by omega, rfl, _, _, eg _ (by omega), q1, OR_one (W := W) q2 (q3 _ _ e1)⟩
    split at hb
    · rename_i e; subst e; cases hb
      obtain ⟨v, t, fr, q1, q2, q3⟩ := S.builtins.var
      exact ⟨by omega, rfl, _, _, eg _ (by omega), q1, OR_one (W := W) q2 (q3 _ _ e2)⟩
    split at hb
    · rename_i e; subst e; cases hb
      obtain ⟨v, t, fr, q1, q2, q3⟩ := S.banned.var
      exact ⟨by omega, rfl, _, _, eg _ (by omega), q1, OR_one (W := W) q2 (q3 _ _ e3)⟩
    split at hb
    · rename_i e; subst e; cases hb
      obtain ⟨t, fr, q1⟩ := S.maxLen
      exact ⟨by omega, rfl, _, _, eg _ (by omega), q1, OR_one (W := W) rfl (.int _ _)⟩
    split at hb
    · rename_i e; subst e; cases hb
      obtain ⟨x, q1, q2⟩ := OR_txt (μ := muP L1 L2 L3) S.words
      exact ⟨by omega, rfl, _, x, e1, q1, q2⟩
    split at hb
    · rename_i e; subst e; cases hb
      obtain ⟨x, q1, q2⟩ := OR_txt (μ := muP L1 L2 L3) S.builtins
      exact ⟨by omega, rfl, _, x, e2, q1, q2⟩
    split at hb
    · rename_i e; subst e; cases hb
      obtain ⟨x, q1, q2⟩ := OR_txt (μ := muP L1 L2 L3) S.banned
      exact ⟨by omega, rfl, _, x, e3, q1, q2⟩
    · cases hb
theorem hP_ro {m : Int} : ∀ b o, hP m b = some o → o.ro = true := by
  intro b o hb
  unfold hP at hb
  repeat' (split at hb)
  all_goals first | (cases hb; rfl) | (cases hb)
end Go.Proofs.YtkfbldogmgofoaaGreatDoor
