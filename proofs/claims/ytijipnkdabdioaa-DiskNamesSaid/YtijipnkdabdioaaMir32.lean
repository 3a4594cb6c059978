/- The mirror, part 32: regions of open order in which something is read that may be read later. -/
import Derived.Test.YtijipnkdabdioaaMir31
set_option linter.unusedSimpArgs false
set_option linter.unusedVariables false
namespace Mir
open Go
variable {call : CP} {a : A} {h h' : H} {K : A → H → Prop} {d : Option Nat} {g : Option (Nat × Bool)} {i j : Nat} {w : List Nat} {l : List IOp} {t : Tm} {v : V} {W : Reads}
def laterD (call : CP) (l : List IOp) (W : Reads) (a : A) (h : H) (K : A → H → Prop) : Prop := drawE call l W a h K
theorem hold_nil : Reads.hold [] w h = True := by simp [Reads.hold]
theorem hold_no : Reads.hold W [] h = True := by simp [Reads.hold]
theorem hold_cons {rd : H → Option V} : Reads.hold ((i, rd, v) :: W) w h = ((i ∈ w → rd h = some v) ∧ Reads.hold W w h) := by
  simp [Reads.hold]
theorem drawE_nil : drawE call [] W a h K = K a h := rfl
def goDP (o : Option V) (d : Option Nat) (call : CP) (l : List IOp) (W : Reads) (a : A) (h : H) (K : A → H → Prop) : Prop :=
  match o with | some v => drawE call l W ⟨put a.t d v, a.d⟩ h K | none => False
theorem goDP_some : goDP (some v) d call l W a h K = drawE call l W ⟨put a.t d v, a.d⟩ h K := rfl
theorem drawE_p' (k : PK) : drawE call (⟨d, none, .p k, i, w⟩ :: l) W a h K = goDP (k.ev (Opd.ev a.t)) d call l W a h K := by
  simp only [drawE, guardOk, wantedE, stepE, goDP, true_and, if_true] <;> rfl
def goDR (o : Option V) (rd : H → Option V) (i : Nat) (d : Option Nat) (call : CP) (l : List IOp) (W : Reads) (a : A) (h : H) (K : A → H → Prop) : Prop :=
  match o with | some v => drawE call l ((i, rd, v) :: W) ⟨put a.t d v, a.d⟩ h K | none => False
theorem goDR_some {rd : H → Option V} : goDR (some v) rd i d call l W a h K = drawE call l ((i, rd, v) :: W) ⟨put a.t d v, a.d⟩ h K := rfl
theorem drawE_r' (k : RK) : drawE call (⟨d, none, .r k, i, w⟩ :: l) W a h K = goDR (k.ev (Opd.ev a.t) h) (fun h => k.ev (Opd.ev a.t) h) i d call l W a h K := by
  simp only [drawE, guardOk, wantedE, stepE, goDR, true_and, if_true] <;> rfl
def goDA (o : Option (AObj × (Nat → V))) (d : Option Nat) (call : CP) (l : List IOp) (W : Reads) (a : A) (h : H) (K : A → H → Prop) : Prop :=
  match o with | some (x, f) => ∀ b, h b = none → laterD call l W ⟨put a.t d (f b), a.d⟩ (hadd h b x) K | none => False
theorem goDA_some {x : AObj} {f : Nat → V} : goDA (some (x, f)) d call l W a h K = ∀ b, h b = none → laterD call l W ⟨put a.t d (f b), a.d⟩ (hadd h b x) K := rfl
theorem drawE_a' (k : AK) : drawE call (⟨d, none, .a k, i, w⟩ :: l) W a h K = goDA (k.ev (Opd.ev a.t)) d call l W a h K := by
  simp only [drawE, guardOk, wantedE, stepE, goDA, laterD, true_and, if_true] <;> rfl
/-- A heavy one. -/
theorem drawE_h {k : HK} (nd : ∀ f as, k ≠ .dfr f as) : drawE call (⟨d, none, .h k, i, w⟩ :: l) W a h K = k.E call (Opd.ev a.t) h fun v h' => Reads.hold W w h' ∧ drawE call l W ⟨put a.t d v, a.d⟩ h' K := by
  simp only [drawE, guardOk, wantedE, true_and, if_true]
  cases k <;> first | rfl | exact (nd _ _ rfl).elim
def callDE (call : CP) (f : V) (args : List V) (d : Option Nat) (w : List Nat) (l : List IOp) (W : Reads) (a : A) (h : H) (K : A → H → Prop) : Prop :=
  callV call f args h fun v h' => Reads.hold W w h' ∧ laterD call l W ⟨put a.t d v, a.d⟩ h' K
theorem drawE_call' (f : Opd) (args : List Opd) : drawE call (⟨d, none, .h (.call f args), i, w⟩ :: l) W a h K = callDE call (f.ev a.t) (args.map (Opd.ev a.t)) d w l W a h K := by
  rw [drawE_h (fun _ _ => by intro x; cases x)]; rfl
theorem callDE_fn {f : Nat} {first cap args : List V} : callDE call (.fn f first cap) args d w l W a h K = call (.fn f) (first ++ args ++ cap) h fun v h' => Reads.hold W w h' ∧ laterD call l W ⟨put a.t d v, a.d⟩ h' K := rfl
theorem callDE_yield {y : Nat} {args : List V} : callDE call (.yield y) args d w l W a h K = call (.round y) args h fun v h' => Reads.hold W w h' ∧ laterD call l W ⟨put a.t d v, a.d⟩ h' K := rfl
def goDH (o : Option (V × H)) (d : Option Nat) (w : List Nat) (call : CP) (l : List IOp) (W : Reads) (a : A) (K : A → H → Prop) : Prop :=
  match o with | some (v, h) => Reads.hold W w h ∧ drawE call l W ⟨put a.t d v, a.d⟩ h K | none => False
theorem goDH_some : goDH (some (v, h)) d w call l W a K = (Reads.hold W w h ∧ drawE call l W ⟨put a.t d v, a.d⟩ h K) := rfl
/-- Any heavy one, told by the same one where nothing is open behind it. -/
theorem drawE_by {k : HK} (nd : ∀ f as, k ≠ .dfr f as) : drawE call (⟨d, none, .h k, i, w⟩ :: l) W a h K = opsE call [⟨d, none, .h k, i, []⟩] a h fun a' h' => Reads.hold W w h' ∧ drawE call l W a' h' K := by
  rw [drawE_h nd]
  cases k <;> first | (simp only [opsE, guardOk, wantedE, stepE, true_and, if_true]; done) | rfl | exact (nd _ _ rfl).elim
theorem drawE_store' (n : Nat) (x y : Opd) : drawE call (⟨d, none, .h (.store n x y), i, w⟩ :: l) W a h K = goDH (stEv n h (x.ev a.t) (y.ev a.t)) d w call l W a K := by
  rw [drawE_by (fun _ _ => by intro x; cases x), opsE_store']
  cases stEv n h (x.ev a.t) (y.ev a.t) <;> rfl
theorem drawE_copy' (es : Nat) (x y : Opd) : drawE call (⟨d, none, .h (.copy es x y), i, w⟩ :: l) W a h K = goDH (cpEv es h (x.ev a.t) (y.ev a.t)) d w call l W a K := by
  rw [drawE_by (fun _ _ => by intro x; cases x), opsE_copy']
  cases cpEv es h (x.ev a.t) (y.ev a.t) <;> rfl
theorem drawE_mapUpd' (kc : KC) (m k y : Opd) : drawE call (⟨d, none, .h (.mapUpd kc m k y), i, w⟩ :: l) W a h K = goDH (muEv kc h (m.ev a.t) (k.ev a.t) (y.ev a.t)) d w call l W a K := by
  rw [drawE_by (fun _ _ => by intro x; cases x), opsE_mapUpd']
  cases muEv kc h (m.ev a.t) (k.ev a.t) (y.ev a.t) <;> rfl
theorem drawE_mapEntry' (kc : KC) (z : V) (m k : Opd) : drawE call (⟨d, none, .h (.mapEntry kc z m k), i, w⟩ :: l) W a h K = goDH (meEv kc z h (m.ev a.t) (k.ev a.t)) d w call l W a K := by
  rw [drawE_by (fun _ _ => by intro x; cases x), opsE_mapEntry']
  cases meEv kc z h (m.ev a.t) (k.ev a.t) <;> rfl
theorem drawE_entryStore' (m s y : Opd) : drawE call (⟨d, none, .h (.entryStore m s y), i, w⟩ :: l) W a h K = goDH (esEv h (m.ev a.t) (s.ev a.t) (y.ev a.t)) d w call l W a K := by
  rw [drawE_by (fun _ _ => by intro x; cases x), opsE_entryStore']
  cases esEv h (m.ev a.t) (s.ev a.t) (y.ev a.t) <;> rfl
theorem drawE_app' (es bytes : Nat) (x y : Opd) : drawE call (⟨d, none, .h (.app es bytes x y), i, w⟩ :: l) W a h K = goAp (srcCells es h (y.ev a.t)) es bytes (x.ev a.t) d call [] a h (fun a' h' => Reads.hold W w h' ∧ laterD call l W a' h' K) := by
  rw [drawE_by (fun _ _ => by intro x; cases x), opsE_app']; rfl
/-- A guard. -/
def goDG (c : V) (b : Bool) (d : Option Nat) (k : Kind) (i : Nat) (w : List Nat) (l : List IOp) (call : CP) (W : Reads) (a : A) (h : H) (K : A → H → Prop) : Prop :=
  match c with
  | .bool c => if c = b then drawE call (⟨d, none, k, i, w⟩ :: l) W a h K else drawE call l W ⟨put a.t d (.tup []), a.d⟩ h K
  | .tup [] => drawE call l W ⟨put a.t d (.tup []), a.d⟩ h K
  | _ => False
theorem goDG_tt {k : Kind} : goDG (.bool true) true d k i w l call W a h K = drawE call (⟨d, none, k, i, w⟩ :: l) W a h K := rfl
theorem goDG_ff {k : Kind} : goDG (.bool false) false d k i w l call W a h K = drawE call (⟨d, none, k, i, w⟩ :: l) W a h K := rfl
theorem goDG_tf {k : Kind} : goDG (.bool true) false d k i w l call W a h K = drawE call l W ⟨put a.t d (.tup []), a.d⟩ h K := rfl
theorem goDG_ft {k : Kind} : goDG (.bool false) true d k i w l call W a h K = drawE call l W ⟨put a.t d (.tup []), a.d⟩ h K := rfl
theorem goDG_no {k : Kind} {b : Bool} : goDG (.tup []) b d k i w l call W a h K = drawE call l W ⟨put a.t d (.tup []), a.d⟩ h K := rfl
theorem drawE_g {k : Kind} {b : Bool} : drawE call (⟨d, some (j, b), k, i, w⟩ :: l) W a h K = goDG (a.t j) b d k i w l call W a h K := by
  cases hv : a.t j with
  | bool c =>
    cases c <;> cases b <;> simp [drawE, guardOk, wantedE, goDG, hv] <;> rfl
  | tup vs =>
    cases vs with
    | nil => simp [drawE, guardOk, wantedE, goDG, hv]
    | cons x xs => simp [drawE, guardOk, hv, goDG]
  | _ => simp [drawE, guardOk, hv, goDG]
theorem goDG_if {k : Kind} {p : Prop} [Decidable p] {b : Bool} (x : p → goDG (.bool true) b d k i w l call W a h K) (y : ¬ p → goDG (.bool false) b d k i w l call W a h K) : goDG (.bool (decide p)) b d k i w l call W a h K := by
  by_cases hp : p
  · rw [decide_eq_true hp]; exact x hp
  · rw [decide_eq_false hp]; exact y hp
variable {Q : Ex → A → H → Prop} {pg : Pg}
theorem E_drawW {l : List IOp} (hl : l.all (fun o => o.watch.isEmpty) = false) : E call (.draw l) a h Q = drawE call l [] a h (Q .nm) := rfl
attribute [go_sem] hold_nil hold_no hold_cons drawE_nil goDP_some drawE_p' goDR_some drawE_r' goDA_some drawE_a' drawE_call' callDE_fn callDE_yield goDH_some drawE_store' drawE_copy' drawE_mapUpd' drawE_mapEntry' drawE_entryStore' drawE_app' goDG_tt goDG_ff goDG_tf goDG_ft goDG_no drawE_g E_drawW List.isEmpty_cons Bool.and_false Bool.false_and List.mem_cons List.not_mem_nil
end Mir
