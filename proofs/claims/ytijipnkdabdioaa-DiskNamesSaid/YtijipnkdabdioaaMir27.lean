/- The mirror, part 27: operations one behind the other; what stands behind a call is left for later. -/
import Derived.Test.YtijipnkdabdioaaMir26
namespace Mir
open Go
variable {call : CP} {a : A} {h : H} {K : A → H → Prop} {d : Option Nat} {g : Option (Nat × Bool)} {i : Nat} {w : List Nat} {l : List IOp}
def later (call : CP) (l : List IOp) (a : A) (h : H) (K : A → H → Prop) : Prop := opsE call l a h K
theorem opsE_nil : opsE call [] a h K = K a h := rfl
theorem opsE_p (k : PK) : opsE call (⟨d, none, .p k, i, w⟩ :: l) a h K = (match k.ev (Opd.ev a.t) with | some v => opsE call l { a with t := put a.t d v } h K | none => False) := by
  simp [opsE, guardOk, wantedE, stepE] <;> rfl
theorem opsE_r (k : RK) : opsE call (⟨d, none, .r k, i, w⟩ :: l) a h K = (match k.ev (Opd.ev a.t) h with | some v => opsE call l { a with t := put a.t d v } h K | none => False) := by
  simp [opsE, guardOk, wantedE, stepE] <;> rfl
theorem opsE_a (k : AK) : opsE call (⟨d, none, .a k, i, w⟩ :: l) a h K = (match k.ev (Opd.ev a.t) with | some (x, f) => ∀ b, h b = none → opsE call l { a with t := put a.t d (f b) } (hadd h b x) K | none => False) := by
  simp [opsE, guardOk, wantedE, stepE] <;> rfl
theorem opsE_dfr (f : Opd) (args : List Opd) : opsE call (⟨d, none, .h (.dfr f args), i, w⟩ :: l) a h K = (match f.ev a.t with
    | .fn q first cap => opsE call l { t := put a.t d .undef, d := (.fn q first cap, args.map (Opd.ev a.t)) :: a.d } h K
    | _ => False) := by
  simp [opsE, guardOk, wantedE, stepE] <;> rfl
/-- Its guard holds; it doesn't; there is nothing to look at. -/
theorem opsE_on {k : Kind} {j : Nat} {b : Bool} (e : a.t j = .bool b) : opsE call (⟨d, some (j, b), k, i, w⟩ :: l) a h K = opsE call (⟨d, none, k, i, w⟩ :: l) a h K := by
  simp [opsE, guardOk, wantedE, e] <;> rfl
theorem opsE_off {k : Kind} {j : Nat} (e : a.t j = .bool false) : opsE call (⟨d, some (j, true), k, i, w⟩ :: l) a h K = opsE call l { a with t := put a.t d (.tup []) } h K := by
  simp [opsE, guardOk, wantedE, e]
theorem opsE_off' {k : Kind} {j : Nat} (e : a.t j = .bool true) : opsE call (⟨d, some (j, false), k, i, w⟩ :: l) a h K = opsE call l { a with t := put a.t d (.tup []) } h K := by
  simp [opsE, guardOk, wantedE, e]
theorem opsE_no {k : Kind} {j : Nat} {b : Bool} (e : a.t j = .tup []) : opsE call (⟨d, some (j, b), k, i, w⟩ :: l) a h K = opsE call l { a with t := put a.t d (.tup []) } h K := by
  simp [opsE, guardOk, wantedE, e]
theorem opsE_call (f : Opd) (args : List Opd) : opsE call (⟨d, none, .h (.call f args), i, w⟩ :: l) a h K = HK.E call (Opd.ev a.t) h (fun v h' => later call l { a with t := put a.t d v } h' K) (.call f args) := by
  simp [opsE, guardOk, wantedE, stepE, later] <;> rfl
theorem opsE_app (es bytes : Nat) (x y : Opd) : opsE call (⟨d, none, .h (.app es bytes x y), i, w⟩ :: l) a h K = HK.E call (Opd.ev a.t) h (fun v h' => later call l { a with t := put a.t d v } h' K) (.app es bytes x y) := by
  simp [opsE, guardOk, wantedE, stepE, later] <;> rfl
theorem opsE_copy (es : Nat) (x y : Opd) : opsE call (⟨d, none, .h (.copy es x y), i, w⟩ :: l) a h K = HK.E call (Opd.ev a.t) h (fun v h' => later call l { a with t := put a.t d v } h' K) (.copy es x y) := by
  simp [opsE, guardOk, wantedE, stepE, later] <;> rfl
theorem opsE_mapUpd (kc : KC) (m k v : Opd) : opsE call (⟨d, none, .h (.mapUpd kc m k v), i, w⟩ :: l) a h K = HK.E call (Opd.ev a.t) h (fun v h' => later call l { a with t := put a.t d v } h' K) (.mapUpd kc m k v) := by
  simp [opsE, guardOk, wantedE, stepE, later] <;> rfl
theorem opsE_mapEntry (kc : KC) (z : V) (m k : Opd) : opsE call (⟨d, none, .h (.mapEntry kc z m k), i, w⟩ :: l) a h K = HK.E call (Opd.ev a.t) h (fun v h' => later call l { a with t := put a.t d v } h' K) (.mapEntry kc z m k) := by
  simp [opsE, guardOk, wantedE, stepE, later] <;> rfl
theorem opsE_entryStore (m s v : Opd) : opsE call (⟨d, none, .h (.entryStore m s v), i, w⟩ :: l) a h K = HK.E call (Opd.ev a.t) h (fun v h' => later call l { a with t := put a.t d v } h' K) (.entryStore m s v) := by
  simp [opsE, guardOk, wantedE, stepE, later] <;> rfl
theorem opsE_delete (kc : KC) (m k : Opd) : opsE call (⟨d, none, .h (.delete kc m k), i, w⟩ :: l) a h K = HK.E call (Opd.ev a.t) h (fun v h' => later call l { a with t := put a.t d v } h' K) (.delete kc m k) := by
  simp [opsE, guardOk, wantedE, stepE, later] <;> rfl
theorem opsE_range (m : Opd) : opsE call (⟨d, none, .h (.range m), i, w⟩ :: l) a h K = HK.E call (Opd.ev a.t) h (fun v h' => later call l { a with t := put a.t d v } h' K) (.range m) := by
  simp [opsE, guardOk, wantedE, stepE, later] <;> rfl
theorem opsE_next (x : Opd) : opsE call (⟨d, none, .h (.next x), i, w⟩ :: l) a h K = HK.E call (Opd.ev a.t) h (fun v h' => later call l { a with t := put a.t d v } h' K) (.next x) := by
  simp [opsE, guardOk, wantedE, stepE, later] <;> rfl
theorem opsE_rangeStr (x : Opd) : opsE call (⟨d, none, .h (.rangeStr x), i, w⟩ :: l) a h K = HK.E call (Opd.ev a.t) h (fun v h' => later call l { a with t := put a.t d v } h' K) (.rangeStr x) := by
  simp [opsE, guardOk, wantedE, stepE, later] <;> rfl
theorem opsE_nextStr (x : Opd) : opsE call (⟨d, none, .h (.nextStr x), i, w⟩ :: l) a h K = HK.E call (Opd.ev a.t) h (fun v h' => later call l { a with t := put a.t d v } h' K) (.nextStr x) := by
  simp [opsE, guardOk, wantedE, stepE, later] <;> rfl
theorem opsE_clone (x : Opd) : opsE call (⟨d, none, .h (.clone x), i, w⟩ :: l) a h K = HK.E call (Opd.ev a.t) h (fun v h' => later call l { a with t := put a.t d v } h' K) (.clone x) := by
  simp [opsE, guardOk, wantedE, stepE, later] <;> rfl
theorem opsE_store (n : Nat) (x v : Opd) : opsE call (⟨d, none, .h (.store n x v), i, w⟩ :: l) a h K = HK.E call (Opd.ev a.t) h (fun v h' => opsE call l { a with t := put a.t d v } h' K) (.store n x v) := by
  simp [opsE, guardOk, wantedE, stepE, later] <;> rfl
/-- What stands behind a piece of code. -/
def seqK (call : CP) (d : IC) (Q : Ex → A → H → Prop) : Ex → A → H → Prop := andThen (fun a h => E call d a h Q) Q
section
variable {Q : Ex → A → H → Prop} {c e : IC} {j : Nat}
theorem E_seq' : E call (.seq c e) a h Q = E call c a h (seqK call e Q) := rfl
theorem seqK_nm : seqK call e Q .nm a h = E call e a h Q := rfl
theorem seqK_exit : seqK call e Q (.exit j) a h = Q (.exit j) a h := rfl
theorem seqK_ret : seqK call e Q .ret a h = Q .ret a h := rfl
end
/-- What stands behind a function's body. -/
def finK (call : CP) (res : List Res) (Q : V → H → Prop) : Ex → A → H → Prop := fun e a h' => (e = .nm ∨ e = .ret) ∧ dfrE call a.d h' fun h'' => ∃ vs h3, allSome (res.map (resOf a.t h'')) = some vs ∧ Sub h3 h'' ∧ Q (packed vs) h3
section
variable {res : List Res} {Q : V → H → Prop}
theorem finK_nm : finK call res Q .nm a h = dfrE call a.d h fun h'' => ∃ vs h3, allSome (res.map (resOf a.t h'')) = some vs ∧ Sub h3 h'' ∧ Q (packed vs) h3 := by
  simp [finK]
theorem finK_ret : finK call res Q .ret a h = dfrE call a.d h fun h'' => ∃ vs h3, allSome (res.map (resOf a.t h'')) = some vs ∧ Sub h3 h'' ∧ Q (packed vs) h3 := by
  simp [finK]
end
theorem AC.fn' {pg : Pg} {f : Nat} {g : Fn} {args : List V} {h : H} {Q : V → H → Prop} (hg : pg.fns f = some g) (hl : args.length ≤ g.n) (hE : E (AC pg) g.body ⟨start args, []⟩ h (finK (AC pg) g.res Q)) : AC pg (.fn f) args h Q := AC.fn hg hl hE
end Mir
