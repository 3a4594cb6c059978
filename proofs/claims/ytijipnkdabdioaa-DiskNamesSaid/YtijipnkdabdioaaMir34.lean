/- The mirror, part 34: slices of numbers or texts that are read. -/
import Derived.Test.YtijipnkdabdioaaMir33
set_option linter.unusedSimpArgs false
set_option linter.unusedVariables false
namespace Mir
open Go
variable {α : Type} {f : α → V} {h h' : H} {v : V} {l : List α}
/-- A slice of such members lies there, to be read. -/
def SlAt (f : α → V) (h : H) (v : V) (l : List α) : Prop := (l = [] ∧ (v = .nilsl ∨ ∃ b o, v = .sl b o 1 0)) ∨ ∃ b o n cs ro, v = .sl b o 1 n ∧ h b = some (.cells cs ro) ∧ o + n ≤ cs.length ∧ (cs.drop o).take n = l.map f
/-- Where a slice's row lies. -/
def rowOf : V → Option Nat
  | .sl b _ _ _ => some b
  | _ => none
theorem SlAt.nil : SlAt f h .nilsl [] := .inl ⟨rfl, .inl rfl⟩
theorem SlAt.len (I : SlAt f h v l) : llE v = some (.int .i64 (l.length : Nat)) := by
  rcases I with ⟨rfl, rfl | ⟨b, o, rfl⟩⟩ | ⟨b, o, n, cs, ro, rfl, h1, h2, h3⟩
  · rfl
  · rfl
  · have := congrArg List.length h3
    simp only [List.length_take, List.length_drop, List.length_map] at this
    rw [show l.length = n from by omega]; rfl
theorem SlAt.at (I : SlAt f h v l) {i : Nat} {x : α} (e : l[i]? = some x) : ∃ b o, rowOf v = some b ∧ ixE 1 v (.int .i64 i) = some (.ptr b o) ∧ ∃ cs ro, h b = some (.cells cs ro) ∧ cs[o]? = some (f x) := by
  rcases I with ⟨rfl, rfl | ⟨b, o, rfl⟩⟩ | ⟨b, o, n, cs, ro, rfl, h1, h2, h3⟩
  · simp at e
  · simp at e
  · have hl := congrArg List.length h3
    simp only [List.length_take, List.length_drop, List.length_map] at hl
    have hi : i < l.length := (List.getElem?_eq_some_iff.1 e).1
    refine ⟨b, o + i, rfl, ?_, cs, ro, h1, ?_⟩
    · rw [ix_sl (by omega)]; simp
    · have := congrArg (·[i]?) h3
      simp only [List.getElem?_map, e, Option.map_some] at this
      rw [List.getElem?_take_of_lt (by omega), List.getElem?_drop] at this
      exact this
theorem SlAt.keep (I : SlAt f h v l) (k : ∀ b o, rowOf v = some b → h b = some o → h' b = some o) : SlAt f h' v l := by
  rcases I with ⟨rfl, rfl | ⟨b, o, rfl⟩⟩ | ⟨b, o, n, cs, ro, rfl, h1, h2, h3⟩
  · exact .inl ⟨rfl, .inl rfl⟩
  · exact .inl ⟨rfl, .inr ⟨b, o, rfl⟩⟩
  · exact .inr ⟨b, o, n, cs, ro, rfl, k _ _ rfl h1, h2, h3⟩
theorem SlAt.lies (I : SlAt f h v l) (hl : l ≠ []) {b : Nat} (e : rowOf v = some b) : h b ≠ none := by
  rcases I with ⟨rfl, _⟩ | ⟨b', o, n, cs, ro, rfl, h1, h2, h3⟩
  · exact (hl rfl).elim
  · simp only [rowOf, Option.some.injEq] at e; subst e; rw [h1]; simp
/-- Both ways of a choice, by what they come to. -/
theorem goC.cut {call : CP} (hm : Mono call) {c : V} {x y : IC} {a : A} {h : H} {Q : Ex → A → H → Prop} (R : Ex → A → H → Prop) (hE : goC c call x y a h R) (hR : ∀ e a h, R e a h → Q e a h) : goC c call x y a h Q := by
  cases c with
  | bool b => exact ⟨fun e => E_mono hm hR (hE.1 e), fun e => E_mono hm hR (hE.2 e)⟩
  | _ => exact hE
/-! Interfaces compared. -/
section
variable {ρ : Opd → V} {x y : Opd} {ok : List Nat} {t t' : Nat} {k : IntKind} {a b : Int} {u : V}
theorem pk_eqIf {ng : Bool} : PK.ev ρ (.eqIf ok ng x y) = (evIf ok (ρ x) (ρ y)).map fun b => .bool (if ng then !b else b) := (rfl)
theorem ef_ni : evIf ok .nilif (.iface t u) = some false := by unfold evIf; rfl
theorem ef_in : evIf ok (.iface t u) .nilif = some false := by unfold evIf; rfl
theorem ef_ne (h : ¬ t = t') : evIf ok (.iface t (.int k a)) (.iface t' (.int k b)) = some false := by simp [evIf, h]
theorem ef_same (h : t ∈ ok) : evIf ok (.iface t (.int k a)) (.iface t (.int k b)) = some (decide (a = b)) := by simp [evIf, h]; rfl
end
/-! A byte as a text. -/
def bsE : V → Bool → Option V
  | .int .u8 n, c => some (if c then .str [UInt8.ofNat n.toNat] else .undef)
  | _, _ => none
theorem pk_byteStr {ρ : Opd → V} {x : Opd} {c : Bool} : PK.ev ρ (.byteStr c x) = bsE (ρ x) c := by
  simp only [PK.ev]; split <;> simp_all [bsE]
theorem bs_f {n : Int} : bsE (.int .u8 n) false = some .undef := rfl
theorem bs_t {n : Int} : bsE (.int .u8 n) true = some (.str [UInt8.ofNat n.toNat]) := rfl
theorem bs_nat {c : UInt8} : UInt8.ofNat (Int.toNat (c.toNat : Int)) = c := by simp
attribute [go_sem] pk_eqIf ef_ni ef_in ef_ne ef_same pk_byteStr bs_f bs_t bs_nat
theorem lens {α : Type} : (∀ a b : List α, (a ++ b).length = a.length + b.length) ∧ (∀ (x : α) (l : List α), (x :: l).length = l.length + 1) ∧ ([] : List α).length = 0 ∧ (∀ (l : List α) (n : Nat), (l.take n).length = min n l.length) ∧ ∀ (l : List α) (n : Nat), (l.drop n).length = l.length - n :=
  ⟨fun _ _ => List.length_append, fun _ _ => rfl, rfl, fun _ _ => List.length_take, fun _ _ => List.length_drop⟩
end Mir
