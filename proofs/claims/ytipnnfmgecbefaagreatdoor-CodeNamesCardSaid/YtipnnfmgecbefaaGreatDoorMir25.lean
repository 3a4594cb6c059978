import Derived.Test.YtipnnfmgecbefaaGreatDoorMir16
/- The mirror, part 25: how its predicates are used: less asked, calls opened, loops with a measure. -/
set_option linter.unusedSimpArgs false
set_option linter.unusedVariables false
namespace Mir
open Go
variable {X Y : CP} {pg : Pg}

theorem andThen_mono {K K' : A → H → Prop} {Q Q' : Ex → A → H → Prop} (hk : ∀ a h, K a h → K' a h) (hq : ∀ e a h, Q e a h → Q' e a h) : ∀ e a h, andThen K Q e a h → andThen K' Q' e a h := by
  intro e a h; cases e <;> simp only [andThen] <;> first | exact hk _ _ | exact hq _ _ _
theorem atBlock_mono {id : Nat} {Q Q' : Ex → A → H → Prop} (hq : ∀ e a h, Q e a h → Q' e a h) : ∀ e a h, atBlock id Q e a h → atBlock id Q' e a h := by
  intro e a h
  cases e <;> simp only [atBlock] <;> (try exact hq _ _ _)
  split <;> exact hq _ _ _
theorem E_mono (hm : LeM X Y) : ∀ {c : IC} {a : A} {h : H} {Q Q' : Ex → A → H → Prop}, (∀ e a h, Q e a h → Q' e a h) → E X c a h Q → E Y c a h Q' := by
  intro c
  induction c with
  | skip => intro a h Q Q' hq hE; exact hq _ _ _ hE
  | ops l => intro a h Q Q' hq hE; simp only [E] at hE ⊢; exact opsE_mono hm (fun a h => hq _ a h) hE
  | draw l => intro a h Q Q' hq hE; simp only [E] at hE ⊢; exact drawE_anti hm (fun _ => id) (fun a h => hq _ a h) hE
  | seq x y ihx ihy => intro a h Q Q' hq hE; simp only [E] at hE ⊢; exact ihx (andThen_mono (fun a h => ihy hq) hq) hE
  | cond x c d ihc ihd =>
    intro a h Q Q' hq hE
    simp only [E] at hE ⊢
    split at hE
    · exact ⟨fun e => ihc hq (hE.1 e), fun e => ihd hq (hE.2 e)⟩
    · exact hE.elim
  | block id c ih => intro a h Q Q' hq hE; simp only [E] at hE ⊢; exact ih (atBlock_mono hq) hE
  | loop c ih =>
    intro a h Q Q' hq hE
    simp only [E] at hE ⊢
    intro Z hZ
    exact hE Z fun a h hb => hZ a h (ih (andThen_mono (fun _ _ => id) hq) hb)
  | rangeFn f ps as bd _ _ =>
    intro a h Q Q' hq hE
    simp only [E] at hE ⊢
    intro l hl'
    have h2 := hE l hl'
    split at h2
    · refine hm _ _ _ _ _ (fun v h' q => ?_) h2
      obtain ⟨t, ps, as, bd, st, pd, a1, a2, a3⟩ := q
      exact ⟨t, ps, as, bd, st, pd, a1, a2, hq _ _ _ a3⟩
    · exact h2.elim
  | exit id => intro a h Q Q' hq hE; exact hq _ _ _ hE
  | ret => intro a h Q Q' hq hE; exact hq _ _ _ hE

theorem dfrE_mono (hm : LeM X Y) : ∀ {ds : List (V × List V)} {h : H} {K K' : H → Prop}, (∀ h, K h → K' h) → dfrE X ds h K → dfrE Y ds h K'
  | [], h, K, K', hk, hE => hk _ hE
  | (f, args) :: ds, h, K, K', hk, hE => by
    simp only [dfrE] at hE ⊢
    split at hE
    · exact hm _ _ _ _ _ (fun v h => dfrE_mono hm hk) hE
    · exact hE.elim
theorem F_mono (hm : LeM X Y) {c : Callee} {args : List V} {h : H} {Q Q' : V → H → Prop} (hq : ∀ v h, Q v h → Q' v h) (hF : F pg X c args h Q) : F pg Y c args h Q' := by
  cases c with
  | fn f =>
    simp only [F] at hF ⊢
    rcases hF with ⟨v, h1, h2⟩ | ⟨g, h1, h2, h3⟩
    · exact .inl ⟨v, h1, hq _ _ h2⟩
    · refine .inr ⟨g, h1, h2, E_mono hm (fun e a h q => ?_) h3⟩
      exact ⟨q.1, dfrE_mono hm (fun h ⟨vs, h3, r1, r2, r3⟩ => ⟨vs, h3, r1, r2, hq _ _ r3⟩) q.2⟩
  | round l =>
    simp only [F] at hF ⊢
    obtain ⟨t, ps, as, bd, pd, h1, h2, h3⟩ := hF
    refine ⟨t, ps, as, bd, pd, h1, h2, E_mono hm (fun e a h q => ?_) h3⟩
    obtain ⟨q1, q2, t1, ps1, as1, bd1, pd1, q3, q4⟩ := q
    refine ⟨q1, q2, t1, ps1, as1, bd1, pd1, q3, E_mono hm (fun e a h r => ?_) q4⟩
    obtain ⟨r1, t2, ps2, as2, bd2, st2, pd2, h3, r2, r3, r4⟩ := r
    exact ⟨r1, t2, ps2, as2, bd2, st2, pd2, h3, r2, r3, hq _ _ r4⟩

theorem AC.mono : Mono (AC pg) := by
  intro c args h Q Q' hq hA X hX
  exact hA (fun c args h Q => ∀ Q', (∀ v h, Q v h → Q' v h) → X c args h Q') (fun c args h Q hF Q' hq => hX c args h Q' (F_mono (fun c args h Q Q' hq q => q Q' hq) hq hF)) Q' hq
theorem AC.fold {c : Callee} {args : List V} {h : H} {Q : V → H → Prop} (hF : F pg (AC pg) c args h Q) : AC pg c args h Q := by
  intro X hX
  refine hX _ _ _ _ (F_mono (fun c args h Q Q' hq hA => ?_) (fun _ _ => id) hF)
  exact AC.mono c args h Q Q' hq hA X hX
/-- A function's call, by its body. -/
theorem AC.fn {f : Nat} {g : Fn} {args : List V} {h : H} {Q : V → H → Prop} (hg : pg.fns f = some g) (hl : args.length ≤ g.n)
    (hE : E (AC pg) g.body ⟨start args, []⟩ h fun e a h' => (e = .nm ∨ e = .ret) ∧ dfrE (AC pg) a.d h' fun h'' => ∃ vs h3, allSome (g.res.map (resOf a.t h'')) = some vs ∧ Sub h3 h'' ∧ Q (packed vs) h3) : AC pg (.fn f) args h Q :=
  AC.fold (.inr ⟨g, hg, hl, hE⟩)
/-- A loop with a measure. -/
theorem E.loop {call : CP} (hm : Mono call) {c : IC} {Q : Ex → A → H → Prop} (I : A → H → Prop) (m : A → H → Nat) {a : A} {h : H} (h0 : I a h)
    (hs : ∀ a h, I a h → E call c a h (andThen (fun a' h' => I a' h' ∧ m a' h' < m a h) Q)) : E call (.loop c) a h Q := by
  simp only [E]
  intro Z hZ
  have key : ∀ k a h, I a h → m a h < k → Z a h := by
    intro k
    induction k with
    | zero => intro a h _ hk; omega
    | succ k ih =>
      intro a h hi hk
      exact hZ a h (E_mono hm (andThen_mono (fun a' h' q => ih a' h' q.1 (by omega)) fun _ _ _ => id) (hs a h hi))
  exact key _ a h h0 (Nat.lt_succ_self _)
end Mir

/- The mirror, part 26: small laws for walks. -/
set_option linter.unusedSimpArgs false
set_option linter.unusedVariables false
namespace Mir
open Go
variable {call : CP} {a : A} {h h' h'' : H} {Q : Ex → A → H → Prop}

theorem E_skip : E call .skip a h Q = Q .nm a h := rfl
theorem E_ops {l : List IOp} : E call (.ops l) a h Q = opsE call l a h (Q .nm) := rfl
theorem E_draw {l : List IOp} : E call (.draw l) a h Q = drawE call l [] a h (Q .nm) := rfl
theorem E_seq {c d : IC} : E call (.seq c d) a h Q = E call c a h (andThen (fun a h => E call d a h Q) Q) := rfl
theorem E_cond {x : Opd} {c d : IC} : E call (.cond x c d) a h Q = (match x.ev a.t with
    | .bool b => (b = true → E call c a h Q) ∧ (b = false → E call d a h Q)
    | _ => False) := rfl
theorem E_block {id : Nat} {c : IC} : E call (.block id c) a h Q = E call c a h (atBlock id Q) := rfl
theorem E_exit {id : Nat} : E call (.exit id) a h Q = Q (.exit id) a h := rfl
theorem E_ret : E call .ret a h Q = Q .ret a h := rfl

theorem hadd_same {b : Nat} {o : AObj} : hadd h b o b = some o := by simp [hadd, hset]
theorem hadd_twice {b : Nat} {o o' : AObj} : hadd (hadd h b o) b o' = hadd h b o' := by
  funext i; simp only [hadd, hset]; split <;> rfl
theorem hadd_none {b i : Nat} {o : AObj} : hadd h b o i = none ↔ i ≠ b ∧ h i = none := by
  by_cases e : i = b
  · subst e; simp [hadd, hset]
  · simp [hadd, hset, e]
theorem Sub.refl : Sub h h := fun _ _ => id
theorem Sub.put (s : Sub h h') {b : Nat} (hb : h b = none) {o : AObj} : Sub h (hadd h' b o) := fun i x hi => by
  have : i ≠ b := fun e => by subst e; rw [hb] at hi; cases hi
  rw [hadd_ne this]; exact s i x hi
theorem Sub.none (s : Sub h h') {b : Nat} (hb : h' b = none) : h b = none := by
  cases e : h b with
  | none => rfl
  | some o => rw [s b o e] at hb; cases hb
theorem Sub.trans' (s : Sub h h') (t : Sub h' h'') : Sub h h'' := fun b o e => t b o (s b o e)
/-- A function's end: one result, all that it made forgotten. -/
theorem ret_one {pg : Pg} {v : V} {K : V → H → Prop} (hv : allSome [some v] = some [v] := rfl) (s : Sub h h') (hk : K v h) : ∃ vs h3, some [v] = some vs ∧ Sub h3 h' ∧ K (packed vs) h3 := ⟨_, h, rfl, s, hk⟩

theorem wrap_u8_id {n : Int} (h0 : 0 ≤ n) (h1 : n < 256) : IntKind.u8.wrap n = n := by
  simp [IntKind.wrap, IntKind.bits, IntKind.signed]; omega
theorem wrap_u32_id {n : Int} (h0 : 0 ≤ n) (h1 : n < 4294967296) : IntKind.u32.wrap n = n := by
  simp [IntKind.wrap, IntKind.bits, IntKind.signed]; omega
theorem wrap_u64_id {n : Int} (h0 : 0 ≤ n) (h1 : n < 18446744073709551616) : IntKind.u64.wrap n = n := by
  simp [IntKind.wrap, IntKind.bits, IntKind.signed]; omega
theorem wrap_i64_id {n : Int} (h0 : -9223372036854775808 ≤ n) (h1 : n < 9223372036854775808) : IntKind.i64.wrap n = n := by
  simp [IntKind.wrap, IntKind.bits, IntKind.signed]; omega
theorem ofInt_nat (w n : Nat) : BitVec.ofInt w (n : Int) = BitVec.ofNat w n := by
  apply BitVec.eq_of_toNat_eq
  simp [BitVec.toNat_ofInt, BitVec.toNat_ofNat]
theorem or_halves {a b : Nat} (ha : a < 65536) (hb : b < 65536) : (BitVec.ofInt 32 ((b * 65536 : Nat) : Int) ||| BitVec.ofInt 32 (a : Int)).toNat = b * 65536 + a := by
  rw [ofInt_nat, ofInt_nat, BitVec.toNat_or, BitVec.toNat_ofNat, BitVec.toNat_ofNat, Nat.mod_eq_of_lt (by omega), Nat.mod_eq_of_lt (by omega)]
  have := Nat.shiftLeft_add_eq_or_of_lt (i := 16) (b := a) (by omega) b
  rw [Nat.shiftLeft_eq] at this
  exact this.symm
theorem ex_bool (b : Bool) : (∃ c, V.bool b = V.bool c) = True := eq_true ⟨b, rfl⟩
end Mir

/- The mirror, part 27: operations one behind the other; what stands behind a call is left for later. -/
namespace Mir
open Go
variable {call : CP} {a : A} {h : H} {K : A → H → Prop} {d : Option Nat} {g : Option (Nat × Bool)} {i : Nat} {w : List Nat} {l : List IOp}
def later (call : CP) (l : List IOp) (a : A) (h : H) (K : A → H → Prop) : Prop := opsE call l a h K
theorem opsE_nil : opsE call [] a h K = K a h := rfl
theorem opsE_p (k : PK) : opsE call (⟨d, none, .p k, i, w⟩ :: l) a h K = (match k.ev (Opd.ev a.t) with | some v => opsE call l { a with t := put a.t d v } h K | none => False) := by
  simp [opsE, guardOk, wantedE, stepE] <;> rfl
theorem opsE_r (k : RK) : opsE call (⟨d, none, .r k, i, w⟩ :: l) a h K = (match k.ev (Opd.ev a.t) h with | some v => opsE call l { a with t := put a.t d v } h K | none => False) := by
  simp [opsE, guardOk, wantedE, stepE] <;> rfl
theorem opsE_a (k : AK) : opsE call (⟨d, none, .a k, i, w⟩ :: l) a h K = (match k.ev (Opd.ev a.t) with | some (x, f) => ∀ b, h b = none → k.fits b → opsE call l { a with t := put a.t d (f b) } (hadd h b x) K | none => False) := by
  simp [opsE, guardOk, wantedE, stepE] <;> rfl
theorem opsE_dfr (f : Opd) (args : List Opd) : opsE call (⟨d, none, .h (.dfr f args), i, w⟩ :: l) a h K = (match f.ev a.t with
    | .fn q first cap => opsE call l { t := put a.t d .undef, d := (.fn q first cap, args.map (Opd.ev a.t)) :: a.d } h K
    | _ => False) := by
  simp [opsE, guardOk, wantedE, stepE] <;> rfl
/-- Its guard holds; it doesn't; there is nothing to look at. -/
theorem opsE_on {k : Kind} {j : Nat} {b : Bool} (e : a.t j = .bool b) : opsE call (⟨d, some (j, b), k, i, w⟩ :: l) a h K = opsE call (⟨d, none, k, i, w⟩ :: l) a h K := by
  simp [opsE, guardOk, wantedE, e] <;> rfl
theorem opsE_off {k : Kind} {j : Nat} (e : a.t j = .bool false) : opsE call (⟨d, some (j, true), k, i, w⟩ :: l) a h K = opsE call l { a with t := put a.t d (.tup []) } h K := by
  simp [opsE, guardOk, wantedE, e]
theorem opsE_off' {k : Kind} {j : Nat} (e : a.t j = .bool true) : opsE call (⟨d, some (j, false), k, i, w⟩ :: l) a h K = opsE call l { a with t := put a.t d (.tup []) } h K := by
  simp [opsE, guardOk, wantedE, e]
theorem opsE_no {k : Kind} {j : Nat} {b : Bool} (e : a.t j = .tup []) : opsE call (⟨d, some (j, b), k, i, w⟩ :: l) a h K = opsE call l { a with t := put a.t d (.tup []) } h K := by
  simp [opsE, guardOk, wantedE, e]
theorem opsE_call (f : Opd) (args : List Opd) : opsE call (⟨d, none, .h (.call f args), i, w⟩ :: l) a h K = HK.E call (Opd.ev a.t) h (fun v h' => later call l { a with t := put a.t d v } h' K) (.call f args) := by
  simp [opsE, guardOk, wantedE, stepE, later] <;> rfl
theorem opsE_app (es bytes : Nat) (x y : Opd) : opsE call (⟨d, none, .h (.app es bytes x y), i, w⟩ :: l) a h K = HK.E call (Opd.ev a.t) h (fun v h' => later call l { a with t := put a.t d v } h' K) (.app es bytes x y) := by
  simp [opsE, guardOk, wantedE, stepE, later] <;> rfl
theorem opsE_copy (es : Nat) (x y : Opd) : opsE call (⟨d, none, .h (.copy es x y), i, w⟩ :: l) a h K = HK.E call (Opd.ev a.t) h (fun v h' => later call l { a with t := put a.t d v } h' K) (.copy es x y) := by
  simp [opsE, guardOk, wantedE, stepE, later] <;> rfl
theorem opsE_mapUpd (kc : KC) (m k v : Opd) : opsE call (⟨d, none, .h (.mapUpd kc m k v), i, w⟩ :: l) a h K = HK.E call (Opd.ev a.t) h (fun v h' => later call l { a with t := put a.t d v } h' K) (.mapUpd kc m k v) := by
  simp [opsE, guardOk, wantedE, stepE, later] <;> rfl
theorem opsE_mapEntry (kc : KC) (z : V) (m k : Opd) : opsE call (⟨d, none, .h (.mapEntry kc z m k), i, w⟩ :: l) a h K = HK.E call (Opd.ev a.t) h (fun v h' => later call l { a with t := put a.t d v } h' K) (.mapEntry kc z m k) := by
  simp [opsE, guardOk, wantedE, stepE, later] <;> rfl
theorem opsE_entryStore (m s v : Opd) : opsE call (⟨d, none, .h (.entryStore m s v), i, w⟩ :: l) a h K = HK.E call (Opd.ev a.t) h (fun v h' => later call l { a with t := put a.t d v } h' K) (.entryStore m s v) := by
  simp [opsE, guardOk, wantedE, stepE, later] <;> rfl
theorem opsE_delete (kc : KC) (m k : Opd) : opsE call (⟨d, none, .h (.delete kc m k), i, w⟩ :: l) a h K = HK.E call (Opd.ev a.t) h (fun v h' => later call l { a with t := put a.t d v } h' K) (.delete kc m k) := by
  simp [opsE, guardOk, wantedE, stepE, later] <;> rfl
theorem opsE_range (m : Opd) : opsE call (⟨d, none, .h (.range m), i, w⟩ :: l) a h K = HK.E call (Opd.ev a.t) h (fun v h' => later call l { a with t := put a.t d v } h' K) (.range m) := by
  simp [opsE, guardOk, wantedE, stepE, later] <;> rfl
theorem opsE_next (x : Opd) : opsE call (⟨d, none, .h (.next x), i, w⟩ :: l) a h K = HK.E call (Opd.ev a.t) h (fun v h' => later call l { a with t := put a.t d v } h' K) (.next x) := by
  simp [opsE, guardOk, wantedE, stepE, later] <;> rfl
theorem opsE_rangeStr (x : Opd) : opsE call (⟨d, none, .h (.rangeStr x), i, w⟩ :: l) a h K = HK.E call (Opd.ev a.t) h (fun v h' => later call l { a with t := put a.t d v } h' K) (.rangeStr x) := by
  simp [opsE, guardOk, wantedE, stepE, later] <;> rfl
theorem opsE_nextStr (x : Opd) : opsE call (⟨d, none, .h (.nextStr x), i, w⟩ :: l) a h K = HK.E call (Opd.ev a.t) h (fun v h' => later call l { a with t := put a.t d v } h' K) (.nextStr x) := by
  simp [opsE, guardOk, wantedE, stepE, later] <;> rfl
theorem opsE_clone (x : Opd) : opsE call (⟨d, none, .h (.clone x), i, w⟩ :: l) a h K = HK.E call (Opd.ev a.t) h (fun v h' => later call l { a with t := put a.t d v } h' K) (.clone x) := by
  simp [opsE, guardOk, wantedE, stepE, later] <;> rfl
theorem opsE_ustr (x y : Opd) : opsE call (⟨d, none, .h (.ustr x y), i, w⟩ :: l) a h K = HK.E call (Opd.ev a.t) h (fun v h' => later call l { a with t := put a.t d v } h' K) (.ustr x y) := by
  simp [opsE, guardOk, wantedE, stepE, later] <;> rfl
theorem opsE_store (n : Nat) (x v : Opd) : opsE call (⟨d, none, .h (.store n x v), i, w⟩ :: l) a h K = HK.E call (Opd.ev a.t) h (fun v h' => opsE call l { a with t := put a.t d v } h' K) (.store n x v) := by
  simp [opsE, guardOk, wantedE, stepE, later] <;> rfl
/-- What stands behind a piece of code. -/
def seqK (call : CP) (d : IC) (Q : Ex → A → H → Prop) : Ex → A → H → Prop := andThen (fun a h => E call d a h Q) Q
section
variable {Q : Ex → A → H → Prop} {c e : IC} {j : Nat}
theorem E_seq' : E call (.seq c e) a h Q = E call c a h (seqK call e Q) := rfl
theorem seqK_nm : seqK call e Q .nm a h = E call e a h Q := rfl
theorem seqK_exit : seqK call e Q (.exit j) a h = Q (.exit j) a h := rfl
theorem seqK_ret : seqK call e Q .ret a h = Q .ret a h := rfl
end
/-- What stands behind a function's body. -/
def finK (call : CP) (res : List Res) (Q : V → H → Prop) : Ex → A → H → Prop := fun e a h' => (e = .nm ∨ e = .ret) ∧ dfrE call a.d h' fun h'' => ∃ vs h3, allSome (res.map (resOf a.t h'')) = some vs ∧ Sub h3 h'' ∧ Q (packed vs) h3
section
variable {res : List Res} {Q : V → H → Prop}
theorem finK_nm : finK call res Q .nm a h = dfrE call a.d h fun h'' => ∃ vs h3, allSome (res.map (resOf a.t h'')) = some vs ∧ Sub h3 h'' ∧ Q (packed vs) h3 := by
  simp [finK]
theorem finK_ret : finK call res Q .ret a h = dfrE call a.d h fun h'' => ∃ vs h3, allSome (res.map (resOf a.t h'')) = some vs ∧ Sub h3 h'' ∧ Q (packed vs) h3 := by
  simp [finK]
end
theorem AC.fn' {pg : Pg} {f : Nat} {g : Fn} {args : List V} {h : H} {Q : V → H → Prop} (hg : pg.fns f = some g) (hl : args.length ≤ g.n) (hE : E (AC pg) g.body ⟨start args, []⟩ h (finK (AC pg) g.res Q)) : AC pg (.fn f) args h Q := AC.fn hg hl hE
end Mir

/- The mirror, part 28: whole numbers: laws whose conditions omega decides. -/
set_option linter.unusedSimpArgs false
set_option linter.unusedVariables false
namespace Mir
open Go
variable {h h' : H}
theorem tmod_nn {a b : Int} (h : 0 ≤ a) : Int.tmod a b = a % b := Int.tmod_eq_emod_of_nonneg h
theorem tdiv_nn {a b : Int} (h : 0 ≤ a) : Int.tdiv a b = a / b := Int.tdiv_eq_ediv_of_nonneg h
theorem emod_nn {a b : Int} (h : 0 ≤ a) (g : a < b) : a % b = a := Int.emod_eq_of_lt h g
theorem bits_u8 : IntKind.u8.bits = 8 := rfl
theorem bits_u32 : IntKind.u32.bits = 32 := rfl
theorem bits_u64 : IntKind.u64.bits = 64 := rfl
theorem bits_i64 : IntKind.i64.bits = 64 := rfl
theorem bits_i32 : IntKind.i32.bits = 32 := rfl
theorem wrap_i32_id {n : Int} (h0 : -2147483648 ≤ n) (h1 : n < 2147483648) : IntKind.i32.wrap n = n := by
  simp [IntKind.wrap, IntKind.bits, IntKind.signed]; omega
theorem and_mask32 {x : Int} (k : Nat) (hk : k ≤ 32) (h0 : 0 ≤ x) (h1 : x < 4294967296) : (((BitVec.ofInt 32 x &&& BitVec.ofInt 32 ((2 ^ k - 1 : Nat) : Int)).toNat : Nat) : Int) = x % (2 ^ k : Nat) := by
  obtain ⟨n, rfl⟩ := Int.eq_ofNat_of_zero_le h0
  have h2 : 2 ^ k ≤ 2 ^ 32 := Nat.pow_le_pow_right (by decide) hk
  have h3 : 0 < 2 ^ k := Nat.pow_pos (by decide)
  rw [ofInt_nat, ofInt_nat, BitVec.toNat_and, BitVec.toNat_ofNat, BitVec.toNat_ofNat, Nat.mod_eq_of_lt (by omega), Nat.mod_eq_of_lt (by omega), Nat.and_two_pow_sub_one_eq_mod]
  rfl
theorem and_ffff {x : Int} (h0 : 0 ≤ x) (h1 : x < 4294967296) : (((BitVec.ofInt 32 x &&& BitVec.ofInt 32 65535).toNat : Nat) : Int) = x % 65536 := and_mask32 16 (by decide) h0 h1
theorem shr32_16 {x : Int} : Int.fdiv x (2 ^ min (Int.toNat 16) 32) = x / 65536 := by
  rw [show (2 : Int) ^ min (Int.toNat 16) 32 = 65536 from rfl, Int.fdiv_eq_ediv_of_nonneg _ (by decide)]
theorem shl32_16 {x : Int} : x * 2 ^ min (Int.toNat 16) 32 = x * 65536 := rfl
theorem or32_16 {a b : Int} (ha : 0 ≤ a) (ha' : a < 65536) (hb : 0 ≤ b) (hb' : b < 65536) : (((BitVec.ofInt 32 (b * 65536) ||| BitVec.ofInt 32 a).toNat : Nat) : Int) = b * 65536 + a := by
  obtain ⟨m, rfl⟩ := Int.eq_ofNat_of_zero_le ha
  obtain ⟨n, rfl⟩ := Int.eq_ofNat_of_zero_le hb
  have := or_halves (a := m) (b := n) (by omega) (by omega)
  rw [show ((n : Int) * 65536) = ((n * 65536 : Nat) : Int) from by omega]
  omega
/-- A name that holds something isn't a new one. -/
theorem ne_new {b p : Nat} {o : AObj} (hp : h p = some o) (hb : h b = none) : p ≠ b := fun e => by subst e; rw [hp] at hb; cases hb
theorem hset_ne {b i : Nat} {o : Option AObj} (e : i ≠ b) : hset h b o i = h i := by simp [hset, e]
end Mir
