/- The mirror, part 4: operations on the temporaries alone. -/
import Derived.Test.YtijipnkdabdioaaMir3
import Derived.Laws.Entries
import Derived.Laws.BytesString
import Derived.Laws.Strings
set_option linter.unusedSimpArgs false
set_option linter.unusedVariables false
namespace Mir
open Go

theorem bytes_toList (s : List UInt8) : (⟨s.toArray⟩ : ByteArray).toList = s := ByteArray.toList_mk s
theorem bytes_inj (s t : List UInt8) : ((⟨s.toArray⟩ : ByteArray) = ⟨t.toArray⟩) ↔ s = t := by
  constructor
  · intro h; have := congrArg (fun b : ByteArray => b.data.toList) h; simpa using this
  · rintro rfl; rfl
theorem bytes_beq (s t : List UInt8) : ((⟨s.toArray⟩ : ByteArray) == ⟨t.toArray⟩) = (s == t) := by
  show (s.toArray == t.toArray) = (s == t)
  simp
theorem bytes_size (s : List UInt8) : (⟨s.toArray⟩ : ByteArray).size = s.length := by simp [ByteArray.size]
theorem bytes_append (s t : List UInt8) : (⟨s.toArray⟩ : ByteArray) ++ ⟨t.toArray⟩ = ⟨(s ++ t).toArray⟩ := by
  apply ByteArray.ext; simp
theorem bytes_extract (s : List UInt8) (i j : Nat) : (⟨s.toArray⟩ : ByteArray).extract i j = ⟨((s.take j).drop i).toArray⟩ := by
  apply ByteArray.ext
  rw [ByteArray.data_extract]
  simp [List.extract_eq_take_drop, List.drop_take]

variable {P : Program} {μ : Mu} {w : World}

theorem evBin_sound {op : BinOp} {x y v : V} {dx dy : Value} (hx : VR μ x dx) (hy : VR μ y dy) (he : evBin op x y = some v) (t : TypeId) (xo yo : Operand) :
    ∃ d, VR μ v d ∧ (do eqGuard op t xo yo dx dy; binOp op t dx dy : Sem Value).run P w = .ok d w := by
  cases hx with
  | int k a =>
    cases hy with
    | int k' b =>
      rw [eqGuard_at_int]
      simp only [Sem.run_bind, Sem.run_pure, Result.andThen_ok]
      cases op <;> simp only [evBin] at he
      case shl | shr =>
        split at he
        · cases he
        · rename_i hb
          cases he
          exact ⟨_, .int _ _, by simp [binOp, Op.shift, hb]⟩
      case quo | rem =>
        split at he
        · subst_vars
          split at he
          · cases he
          · rename_i hb
            cases he
            exact ⟨_, .int _ _, by simp [binOp, Op.intDiv, hb]⟩
        · cases he
      all_goals
        split at he
        · subst_vars
          cases he
          first
            | exact ⟨_, .int _ _, by simp [binOp, Op.intArith, Op.intBits, Op.intCmp]⟩
            | exact ⟨_, .bool _, by simp [binOp, Op.intArith, Op.intBits, Op.intCmp]⟩
        · cases he
    | _ => simp [evBin] at he
  | str a =>
    cases hy with
    | str b =>
      rw [eqGuard_at_string]
      simp only [Sem.run_bind, Sem.run_pure, Result.andThen_ok]
      cases op <;> simp only [evBin] at he
      case add =>
        split at he
        · rename_i hl
          cases he
          refine ⟨_, .str _, ?_⟩
          have h1 : ¬ ((((⟨a.toArray⟩ : ByteArray).size + (⟨b.toArray⟩ : ByteArray).size : Nat) : Int) > IntKind.i64.max) := by
            rw [bytes_size, bytes_size, IntKind.max_i64]; omega
          simp only [binOp, Op.stringOp]
          rw [if_neg h1, bytes_append]
          rfl
        · cases he
      all_goals first
        | (cases he; exact ⟨_, .bool _, by simp only [binOp, Op.stringOp, bytes_toList]; rfl⟩)
        | cases he
    | _ => simp [evBin] at he
  | _ => simp [evBin] at he

theorem run_und {t : TypeId} {d : TypeDesc} (h : P.underlying t = some d) (w : World) : (underlying t).run P w = .ok d w := run_underlying h w

/-- What a class of '==' asks of the type. -/
def EqT (P : Program) (t : TypeId) : EqC → Prop
  | .int => ∃ k, P.underlying t = some (.int k)
  | .str => P.underlying t = some .string
  | .bool => P.underlying t = some .bool
  | .ptr => ∃ e s, P.underlying t = some (.pointer e) ∧ szOf P e = some s ∧ s ≠ 0
  | .sl => ∃ e, P.underlying t = some (.slice e)
  | .map => ∃ k e, P.underlying t = some (.map k e)
  | .fn => ∃ a b c, P.underlying t = some (.func a b c)
  | .iface => ∃ ms, P.underlying t = some (.interface ms)
theorem run_typeInfo_some {t : TypeId} {i : TypeInfo} (h : P.info? t = some i) (w : World) : (typeInfo t).run P w = .ok i w := by
  simp [typeInfo, h]
theorem run_sizeOf {t : TypeId} {s : Nat} (h : szOf P t = some s) (w : World) : (Go.sizeOf t).run P w = .ok s w := by
  unfold szOf at h
  cases hi : P.info? t with
  | none => simp [hi] at h
  | some i => simp [hi] at h; simp [Go.sizeOf, run_typeInfo_some hi, h]

theorem evEq_sound {c : EqC} {x y : V} {b : Bool} {dx dy : Value} {t : TypeId} (ht : EqT P t c) (hx : VR μ x dx) (hy : VR μ y dy) (he : evEq c x y = some b) (n : Nat) :
    (Op.equalIn (n + 1) t dx dy).run P w = .ok b w := by
  cases c <;> cases hx <;> simp only [evEq] at he <;> (try cases he; done) <;> cases hy <;> simp only [evEq] at he <;> (try cases he; done)
  case int.int.int =>
    obtain ⟨k, hk⟩ := ht
    split at he
    · rename_i e; cases he; simp [Op.equalIn, run_und hk, e]
    · cases he
  case str.str.str => cases he; simp only [EqT] at ht; simp [Op.equalIn, run_und ht, bytes_beq]
  case bool.bool.bool => cases he; simp only [EqT] at ht; simp [Op.equalIn, run_und ht]
  case ptr.ptr.ptr b1 o1 L1 h1 b2 o2 L2 h2 =>
    obtain ⟨e, s, hk, hs, h0⟩ := ht
    split at he
    · rename_i e'
      subst e'
      rw [h1] at h2; cases h2
      cases he
      simp [Op.equalIn, run_und hk, run_sizeOf hs, h0, sameAddr, Addr.mk.injEq]
      rw [Bool.eq_iff_iff]; simp
    · cases he
  all_goals first
    | (obtain ⟨e, s, hk, hs, h0⟩ := ht; cases he; simp [Op.equalIn, run_und hk, run_sizeOf hs, h0]; done)
    | (obtain ⟨e, hk⟩ := ht; cases he; simp [Op.equalIn, run_und hk]; done)
    | (obtain ⟨k, e, hk⟩ := ht; cases he; simp [Op.equalIn, run_und hk]; done)
    | (obtain ⟨a, b, c, hk⟩ := ht; cases he; simp [Op.equalIn, run_und hk]; done)
end Mir
