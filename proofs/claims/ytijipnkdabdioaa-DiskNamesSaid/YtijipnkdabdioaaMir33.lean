/- The mirror, part 33: ranging over a function, step by step. -/
import Derived.Test.YtijipnkdabdioaaMir32
set_option linter.unusedSimpArgs false
set_option linter.unusedVariables false
namespace Mir
open Go
variable {call : CP} {pg : Pg} {a : A} {h h' : H} {Q : Ex → A → H → Prop} {R : V → H → Prop} {l : Nat} {t : Tm} {ps : List Nat} {as bd : IC} {st : LSt} {pd : Option Ex}
/-- Behind the ranging. -/
def rfC (o : Option AObj) (l : Nat) (a : A) (h : H) (Q : Ex → A → H → Prop) : Prop := match o with
  | some (.loop _ _ _ _ st pd) => st ≠ .busy ∧ Q (pd.getD .nm) a (hset h l none)
  | _ => False
def laterR (l : Nat) (a : A) (h : H) (Q : Ex → A → H → Prop) : Prop := rfC (h l) l a h Q
def goRF (f : V) (ps : List Nat) (as bd : IC) (call : CP) (a : A) (h : H) (Q : Ex → A → H → Prop) : Prop := match f with
  | .fn g first cap => ∀ l, h l = none → call (.fn g) (first ++ [.yield l] ++ cap) (hadd h l (.loop a.t ps as bd .ready none)) fun _ h' => laterR l a h' Q
  | _ => ∀ l, h l = none → False
theorem E_rangeFn (hm : Mono call) {f : Opd} : E call (.rangeFn f ps as bd) a h Q ↔ goRF (f.ev a.t) ps as bd call a h Q := by
  simp only [E, goRF]
  have key : ∀ h' l, (∃ t ps as bd st pd, h' l = some (.loop t ps as bd st pd) ∧ st ≠ .busy ∧ Q (pd.getD .nm) a (hset h' l none)) ↔ laterR l a h' Q := by
    intro h' l
    unfold laterR rfC
    constructor
    · rintro ⟨t, ps, as, bd, st, pd, e, q⟩; rw [e]; exact q
    · intro q
      split at q
      · rename_i t ps as bd st pd e; exact ⟨t, ps, as, bd, st, pd, e, q⟩
      · exact q.elim
  cases f.ev a.t <;> try exact Iff.rfl
  simp only [key]
theorem E_rangeFn' {f : Opd} : E (AC pg) (.rangeFn f ps as bd) a h Q = goRF (f.ev a.t) ps as bd (AC pg) a h Q := propext (E_rangeFn AC.mono)
theorem goRF_fn {g : Nat} {first cap : List V} : goRF (.fn g first cap) ps as bd call a h Q = ∀ l, h l = none → call (.fn g) (first ++ [.yield l] ++ cap) (hadd h l (.loop a.t ps as bd .ready none)) fun _ h' => laterR l a h' Q := rfl
theorem rfC_at : rfC (some (.loop t ps as bd st pd)) l a h Q = (st ≠ .busy ∧ Q (pd.getD .nm) a (hset h l none)) := rfl
/-! A round. -/
def rbC (o : Option AObj) (l : Nat) (R : V → H → Prop) (e : Ex) (h : H) : Prop := match o with
  | some (.loop t ps as bd _ _) => ∃ h3, Sub h3 (hadd h l (.loop t ps as bd (endSt e) (endPd e))) ∧ R (.bool (e == .nm)) h3
  | _ => False
def roundB (l : Nat) (R : V → H → Prop) : Ex → A → H → Prop := fun e a h => a.d = [] ∧ rbC (h l) l R e h
def raC (o : Option AObj) (call : CP) (bd : IC) (l : Nat) (R : V → H → Prop) (a : A) (h : H) : Prop := match o with
  | some (.loop t ps as bd' .ready pd) => E call bd a (hadd h l (.loop t ps as bd' .busy pd)) (roundB l R)
  | _ => False
def roundA (call : CP) (bd : IC) (l : Nat) (R : V → H → Prop) : Ex → A → H → Prop := fun e a h => e = .nm ∧ a.d = [] ∧ raC (h l) call bd l R a h
theorem AC.round {args : List V} (e : h l = some (.loop t ps as bd .ready pd)) (n : ps.length = args.length) (hE : E (AC pg) as ⟨params t ps args, []⟩ h (roundA (AC pg) bd l R)) : AC pg (.round l) args h R := by
  refine AC.fold ⟨t, ps, as, bd, pd, e, n, E_mono AC.mono (fun e a h1 q => ?_) hE⟩
  obtain ⟨q1, q2, q3⟩ := q
  refine ⟨q1, q2, ?_⟩
  unfold raC at q3
  split at q3
  · rename_i t1 ps1 as1 bd1 pd1 e1
    refine ⟨t1, ps1, as1, bd1, pd1, e1, E_mono AC.mono (fun e a2 h2 r => ?_) q3⟩
    obtain ⟨r1, r2⟩ := r
    refine ⟨r1, ?_⟩
    unfold rbC at r2
    split at r2
    · rename_i t2 ps2 as2 bd2 st2 pd2 e2
      obtain ⟨h3, s1, s2⟩ := r2
      exact ⟨t2, ps2, as2, bd2, st2, pd2, h3, e2, s1, s2⟩
    · exact r2.elim
  · exact q3.elim
theorem roundA_nm : roundA call bd l R .nm a h = (a.d = [] ∧ raC (h l) call bd l R a h) := by simp [roundA]
theorem raC_at {bd' : IC} : raC (some (.loop t ps as bd' .ready pd)) call bd l R a h = E call bd a (hadd h l (.loop t ps as bd' .busy pd)) (roundB l R) := rfl
theorem roundB_at {e : Ex} : roundB l R e a h = (a.d = [] ∧ rbC (h l) l R e h) := rfl
theorem rbC_at {e : Ex} : rbC (some (.loop t ps as bd st pd)) l R e h = ∃ h3, Sub h3 (hadd h l (.loop t ps as bd (endSt e) (endPd e))) ∧ R (.bool (e == .nm)) h3 := rfl
theorem prm_nil {vs : List V} : params t [] vs = t := rfl
theorem prm_cons {p : Nat} {v : V} {vs : List V} : params t (p :: ps) (v :: vs) = params (upd t p v) ps vs := rfl
theorem endSt_nm : endSt .nm = .ready := rfl
theorem endPd_nm : endPd .nm = none := rfl
theorem endSt_ret : endSt .ret = .done := rfl
theorem endPd_ret : endPd .ret = some .ret := rfl
theorem endSt_exit {i : Nat} : endSt (.exit i) = .done := rfl
theorem endPd_exit {i : Nat} : endPd (.exit i) = some (.exit i) := rfl
theorem beq_nm : (Ex.nm == Ex.nm) = true := rfl
theorem beq_ret : (Ex.ret == Ex.nm) = false := rfl
theorem beq_exit {i : Nat} : (Ex.exit i == Ex.nm) = false := rfl
attribute [go_sem] E_rangeFn' goRF_fn rfC_at roundA_nm raC_at roundB_at rbC_at prm_nil prm_cons endSt_nm endPd_nm endSt_ret endPd_ret endSt_exit endPd_exit beq_nm beq_ret beq_exit
end Mir
