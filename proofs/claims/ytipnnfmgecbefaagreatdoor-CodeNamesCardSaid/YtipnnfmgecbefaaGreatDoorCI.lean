/- Closed runs of the rows over Code. -/
import Derived.Test.YtipnnfmgecbefaaGreatDoorFT
import Derived.Test.YtipnnfmgecbefaaGreatDoorLIdx
import Derived.Test.YtipnnfmgecbefaaGreatDoorLC
import Derived.Test.YtipnnfmgecbefaaGreatDoorF4
set_option linter.unusedSimpArgs false
set_option linter.unusedVariables false
namespace Go.Proofs.YtipnnfmgecbefaaGreatDoor
open Mir
def hk (f : Nat) (args : List V) : Option V := cond (Nat.beq f 134) (match args with
  | [.str s, .str t] => cond (Nat.ble s.length 64 && Nat.ble 2 t.length && Nat.ble t.length 1000) (some (.int .i64 (idxS t s))) none
  | _ => none) none
def ip : Ip := ⟨ft, hk⟩
theorem ip_ok {G : H} {m : Int} (hM : G 9 = some (.cells [.int .i64 m] true)) : IpOk pg ip G := by
  refine ⟨ft_ok, fun f args v hv h Q hG hq => ?_⟩
  simp only [ip, hk] at hv
  cases e : Nat.beq f 134
  · rw [e] at hv; cases hv
  · have := beq_eq e; subst this
    rw [e] at hv
    simp only [cond_true] at hv
    split at hv
    · rename_i s t
      generalize hc : (Nat.ble s.length 64 && Nat.ble 2 t.length && Nat.ble t.length 1000) = c at hv
      cases c
      · cases hv
      · simp only [cond_true, Option.some.injEq] at hv
        subst hv
        simp only [Bool.and_eq_true] at hc
        have h1 := ble_le hc.1.1
        have h2 := ble_le hc.1.2
        have h3 := ble_le hc.2
        exact index_ac s t h1 h2 (by omega) (hG _ _ hM) (hq h fun _ _ h => h)
    · cases hv
/-- By the interpreter's names. -/
def BC : H := fun b => cond (Nat.beq b 9) none (hC 0 b)
def f0 : Nm := fun i => if i < 1000 then some i else none
theorem VI_f0 {v : V} (h : match v with | .str _ => True | .sl b _ _ _ => b < 1000 | _ => False) : VI f0 v v := by
  cases v <;> simp only at h
  · exact .str _
  · exact .sl (if_pos h)
theorem VIs_f0 {l : List V} (h : ∀ v ∈ l, match v with | .str _ => True | .sl b _ _ _ => b < 1000 | _ => False) : VIs f0 l l := L2.refl' fun x hx => VI_f0 (h x hx)
theorem start_HI (m : Int) : HI f0 (hC m) 1000 BC (hC m) := by
  have hid : ∀ i b, f0 i = some b → i = b ∧ i < 1000 := fun i b h => by
    unfold f0 at h
    split at h
    · cases h; exact ⟨rfl, ‹_›⟩
    · cases h
  refine ⟨fun i o hi => ?_, fun i j b h1 h2 _ _ => by rw [(hid _ _ h1).1, (hid _ _ h2).1], fun i b h => by have := (hid _ _ h).2; omega, by omega, fun g hg => if_pos (by omega), fun i b h => by rw [(hid _ _ h).1]; exact ⟨id, id⟩, fun b o h => h, fun i b h1 h2 => by have := (hid _ _ h2).2; omega⟩
  unfold BC at hi
  cases e : Nat.beq i 9
  · rw [e] at hi
    simp only [cond_false] at hi
    have hne : i ≠ 9 := beq_ne e
    have key : i < 1000 ∧ OI f0 o o ∧ hC m i = some o := by
      rcases hC_some hi with ⟨rfl, rfl⟩ | ⟨rfl, rfl⟩ | ⟨rfl, rfl⟩ | ⟨rfl, rfl⟩ | ⟨rfl, rfl⟩ | ⟨rfl, rfl⟩ | ⟨rfl, rfl⟩ | ⟨rfl, rfl⟩ | ⟨rfl, rfl⟩ | ⟨rfl, rfl⟩ | ⟨rfl, rfl⟩ | ⟨rfl, rfl⟩ | ⟨rfl, rfl⟩ | ⟨rfl, rfl⟩ | ⟨rfl, rfl⟩ | ⟨rfl, rfl⟩ | ⟨rfl, rfl⟩ | ⟨rfl, rfl⟩ | ⟨rfl, rfl⟩
      all_goals first
        | exact absurd rfl hne
        | (refine ⟨by decide, ⟨VIs_f0 (fun v hv => ?_), rfl⟩, rfl⟩; simp only [List.mem_singleton] at hv; subst hv; decide)
        | (refine ⟨by decide, ⟨VIs_f0 (fun v hv => ?_), rfl⟩, rfl⟩; obtain ⟨s, _, rfl⟩ := List.mem_map.1 hv; trivial)
    obtain ⟨k1, k2, hm⟩ := key
    exact ⟨i, o, if_pos k1, hm, k2⟩
  · rw [e] at hi; cases hi
/-- A closed call. -/
theorem closed {g : Nat} {args : List V} {m : Int} {p : V → Bool} {h : H} {Q : V → H → Prop} (hr : quick ip BC g args 1000 p = true) (hl : lits args = true)
    (hs : ∀ b o, hC m b = some o → h b = some o) (hq : ∀ (f : Nm) v w h', p v = true → VI f v w → (∀ b o, h b = some o → h' b = some o) → Q w h') : AC pg (.fn g) args h Q := by
  rw [quick_eq] at hr
  have I : HI f0 h 1000 BC h := by
    obtain ⟨a1, a2, a3, a4, a5, a6, a7, a8⟩ := start_HI m
    refine ⟨fun i o hi => ?_, a2, a3, a4, a5, a6, fun b o h => h, fun i b h1 h2 h3 => ?_⟩
    · obtain ⟨b, o', q1, q2, q3⟩ := a1 i o hi; exact ⟨b, o', q1, hs _ _ q2, q3⟩
    · exfalso
      unfold f0 at h2
      rw [if_neg (by omega)] at h2; cases h2
  refine fn_rel (ip_ok (m := m) (hs _ _ rfl)) (run_rel (ip_ok (m := m) (hs _ _ rfl)) 100000 false) 100000 f0 1000 .e h g args args Q I (lits_rel hl) ((Outs.sat_all hr).imp fun x hx => ?_)
  intro f' hb v' l hv' I'
  exact hq f' _ _ hb hx hv' I'.fr
/-- A closed call, with hooks. -/
theorem closedI {ip : Ip} {h : H} (hi : IpOk pg ip h) {g : Nat} {args : List V} {m : Int} {p : V → Bool} {Q : V → H → Prop} (hr : quick ip BC g args 1000 p = true) (hl : lits args = true)
    (hs : ∀ b o, hC m b = some o → h b = some o) (hq : ∀ (f : Nm) v w h', p v = true → VI f v w → (∀ b o, h b = some o → h' b = some o) → Q w h') : AC pg (.fn g) args h Q := by
  rw [quick_eq] at hr
  have I : HI f0 h 1000 BC h := by
    obtain ⟨a1, a2, a3, a4, a5, a6, a7, a8⟩ := start_HI m
    refine ⟨fun i o hi => ?_, a2, a3, a4, a5, a6, fun b o h => h, fun i b h1 h2 h3 => ?_⟩
    · obtain ⟨b, o', q1, q2, q3⟩ := a1 i o hi; exact ⟨b, o', q1, hs _ _ q2, q3⟩
    · exfalso
      unfold f0 at h2
      rw [if_neg (by omega)] at h2; cases h2
  refine fn_rel hi (run_rel hi 100000 false) 100000 f0 1000 .e h g args args Q I (lits_rel hl) ((Outs.sat_all hr).imp fun x hx => ?_)
  intro f' hb v' l hv' I'
  exact hq f' _ _ hb hx hv' I'.fr
end Go.Proofs.YtipnnfmgecbefaaGreatDoor

