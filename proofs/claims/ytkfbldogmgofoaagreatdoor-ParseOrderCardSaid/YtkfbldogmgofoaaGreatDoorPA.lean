/- Parse: closed runs: what the laws ask beside. -/
import Derived.Test.YtkfbldogmgofoaaGreatDoorPI
set_option linter.unusedSimpArgs false
set_option linter.unusedVariables false
namespace Go.Proofs.YtkfbldogmgofoaaGreatDoor
open Mir
variable {h : H} {Q : V → H → Prop} {m : Int}
noncomputable def isT (v : V) : Bool := match v with | .bool b => b | _ => false
theorem isT_of {f : Nm} {v w : V} (h : isT v = true) (hv : VI f v w) : w = .bool true := by
  unfold isT at h
  split at h
  · subst h; exact hv.inv
  · cases h
theorem awake13_run : quick ip BP 21 [] 1000 isT = true := by kernel_rfl
theorem awake13_ac (hs : Sub (hP m) h) (hq : ∀ h', Sub h h' → Q (.bool true) h') : AC pg (.fn 21) [] h Q :=
  closedP (ip_ok (m := m) (hs _ _ rfl)) awake13_run rfl hs fun f v w h' hp hv hk => by rw [isT_of hp hv]; exact hq h' hk
def hkA (f : Nat) (args : List V) : Option V := cond (Nat.beq f 21) (match args with
  | [] => some (.bool true)
  | _ => none) (hk f args)
def ipA : Ip := ⟨ft, hkA⟩
theorem ipA_ok {G : H} {m : Int} (hM : Sub (hP m) G) : IpOk pg ipA G := by
  have h0 := ip_ok (m := m) (hM _ _ rfl)
  refine ⟨ft_ok, fun f args v hv h Q hG hq => ?_⟩
  simp only [ipA, hkA] at hv
  cases e : Nat.beq f 21
  · rw [e] at hv; exact h0.hook f args v hv h Q hG hq
  · have := beq_eq e; subst this
    rw [e] at hv
    simp only [cond_true] at hv
    split at hv
    · cases hv
      exact awake13_ac (m := m) (fun b o hb => hG _ _ (hM _ _ hb)) hq
    · cases hv
/-- A closed call of a law that is true. -/
theorem law_run {g : Nat} {args : List V} (hr : quick ipA BP g args 1000 isT = true) (hl : lits args = true) (hq : ∀ h', Q (.bool true) h') : AC pg (.fn g) args (hP m) Q :=
  closedP (ipA_ok (m := m) fun b o hb => hb) hr hl (fun b o hb => hb) fun f v w h' hp hv hk => by rw [isT_of hp hv]; exact hq h'
end Go.Proofs.YtkfbldogmgofoaaGreatDoor
