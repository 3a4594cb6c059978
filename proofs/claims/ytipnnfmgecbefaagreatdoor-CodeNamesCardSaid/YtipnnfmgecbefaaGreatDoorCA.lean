/- Code: closed runs: what the laws ask beside. -/
import Derived.Test.YtipnnfmgecbefaaGreatDoorCI
set_option linter.unusedSimpArgs false
set_option linter.unusedVariables false
namespace Go.Proofs.YtipnnfmgecbefaaGreatDoor
open Mir
variable {h : H} {Q : V → H → Prop} {m : Int}
noncomputable def isT (v : V) : Bool := match v with | .bool b => b | _ => false
theorem isT_of {f : Nm} {v w : V} (h : isT v = true) (hv : VI f v w) : w = .bool true := by
  unfold isT at h
  split at h
  · subst h; exact hv.inv
  · cases h
theorem awake15_run : quick ip BC 9 [] 1000 isT = true := by kernel_rfl
theorem awake15_ac (hs : Sub (hC m) h) (hq : ∀ h', Sub h h' → Q (.bool true) h') : AC pg (.fn 9) [] h Q :=
  closed (m := m) awake15_run rfl hs fun f v w h' hp hv hk => by rw [isT_of hp hv]; exact hq h' hk
def hkA (f : Nat) (args : List V) : Option V := cond (Nat.beq f 9) (match args with
  | [] => some (.bool true)
  | _ => none) (hk f args)
def ipA : Ip := ⟨ft, hkA⟩
theorem ipA_ok {G : H} {m : Int} (hM : Sub (hC m) G) : IpOk pg ipA G := by
  have h0 := ip_ok (m := m) (hM _ _ rfl)
  refine ⟨ft_ok, fun f args v hv h Q hG hq => ?_⟩
  simp only [ipA, hkA] at hv
  cases e : Nat.beq f 9
  · rw [e] at hv; exact h0.hook f args v hv h Q hG hq
  · have := beq_eq e; subst this
    rw [e] at hv
    simp only [cond_true] at hv
    split at hv
    · cases hv
      exact awake15_ac (m := m) (fun b o hb => hG _ _ (hM _ _ hb)) hq
    · cases hv
end Go.Proofs.YtipnnfmgecbefaaGreatDoor
