/- Closed runs of the rows over Parse. -/
import Derived.Test.YtkfbldogmgofoaaGreatDoorRI
import Derived.Test.YtkfbldogmgofoaaGreatDoorLP
set_option linter.unusedSimpArgs false
set_option linter.unusedVariables false
namespace Go.Proofs.YtkfbldogmgofoaaGreatDoor
open Mir
/-- By the interpreter's names. -/
def BP : H := fun b => cond (Nat.beq b 4) none (hP 0 b)
theorem start_HIP (m : Int) : HI f0 (hP m) 1000 BP (hP m) := by
  have hid : ∀ i b, f0 i = some b → i = b ∧ i < 1000 := fun i b h => by
    unfold f0 at h
    split at h
    · cases h; exact ⟨rfl, ‹_›⟩
    · cases h
  refine ⟨fun i o hi => ?_, fun i j b h1 h2 _ _ => by rw [(hid _ _ h1).1, (hid _ _ h2).1], fun i b h => by have := (hid _ _ h).2; omega, by omega, fun g hg => if_pos (by omega), fun i b h => by rw [(hid _ _ h).1]; exact ⟨id, id⟩, fun b o h => h, fun i b h1 h2 => by have := (hid _ _ h2).2; omega⟩
  unfold BP at hi
  cases e : Nat.beq i 4
  · rw [e] at hi
    simp only [cond_false] at hi
    have hne : i ≠ 4 := beq_ne e
    have hm : hP m i = some o := by
      unfold hP at hi ⊢
      rw [if_neg hne] at hi ⊢
      exact hi
    have key : i < 1000 ∧ OI f0 o o := by
      unfold hP at hi
      repeat' (split at hi)
      all_goals first
        | (cases hi; done)
        | (cases hi; subst_vars; exact ⟨by decide, VIs_f0 (by decide), rfl⟩)
        | (cases hi; subst_vars; refine ⟨by decide, VIs_f0 (fun v hv => ?_), rfl⟩; obtain ⟨s, _, rfl⟩ := List.mem_map.1 hv; trivial)
        | (cases hi; refine ⟨by omega, VIs_f0 (fun v hv => ?_), rfl⟩; simp only [List.mem_singleton] at hv; subst hv; decide)
        | (exfalso; omega)
    exact ⟨i, o, if_pos key.1, hm, key.2⟩
  · rw [e] at hi; cases hi
/-- A closed call. -/
theorem closedP {ip : Ip} {h : H} (hi : IpOk pg ip h) {g : Nat} {args : List V} {m : Int} {p : V → Bool} {Q : V → H → Prop} (hr : quick ip BP g args 1000 p = true) (hl : lits args = true)
    (hs : ∀ b o, hP m b = some o → h b = some o) (hq : ∀ (f : Nm) v w h', p v = true → VI f v w → (∀ b o, h b = some o → h' b = some o) → Q w h') : AC pg (.fn g) args h Q := by
  rw [quick_eq] at hr
  have I : HI f0 h 1000 BP h := by
    obtain ⟨a1, a2, a3, a4, a5, a6, a7, a8⟩ := start_HIP m
    refine ⟨fun i o hi => ?_, a2, a3, a4, a5, a6, fun b o h => h, fun i b h1 h2 h3 => ?_⟩
    · obtain ⟨b, o', q1, q2, q3⟩ := a1 i o hi; exact ⟨b, o', q1, hs _ _ q2, q3⟩
    · exfalso
      unfold f0 at h2
      rw [if_neg (by omega)] at h2; cases h2
  refine fn_rel hi (run_rel hi 100000 false) 100000 f0 1000 .e h g args args Q I (lits_rel hl) ((Outs.sat_all hr).imp fun x hx => ?_)
  intro f' hb v' l hv' I'
  exact hq f' _ _ hb hx hv' I'.fr
end Go.Proofs.YtkfbldogmgofoaaGreatDoor
