import Derived.Test.YtipnnfmgecbefaaGreatDoorF1
/- The faster interpreter, 2: operations. Printed by genF2.py out of the interpreter's own text. -/
set_option linter.unusedSimpArgs false
set_option linter.unusedVariables false
noncomputable section
namespace Mir
open Go Outs
/-! Numbers and texts. -/
def B_ii (f : IntKind → Int → Int → V) (g : List UInt8 → List UInt8 → Option V) (v w : V) : Option V :=
  match v, w with
  | .int k a, .int k' b => cond (kEq k k') (some (f k a b)) none
  | .str a, .str b => g a b
  | _, _ => none
def noS (_ _ : List UInt8) : Option V := none
def B_add : V → V → Option V := B_ii (fun k a b => .int k (wr k (Int.add a b))) (fun a b => cond (Nat.ble (Nat.succ (Nat.add a.length b.length)) 4611686018427387904) (some (.str (a ++ b))) none)
def B_sub : V → V → Option V := B_ii (fun k a b => .int k (wr k (Int.sub a b))) noS
def B_mul : V → V → Option V := B_ii (fun k a b => .int k (wr k (Int.mul a b))) noS
def B_eql : V → V → Option V := B_ii (fun _ a b => .bool (iEq a b)) (fun a b => some (.bool (sEq a b)))
def B_neq : V → V → Option V := B_ii (fun _ a b => .bool (!iEq a b)) (fun a b => some (.bool !(sEq a b)))
def B_lss : V → V → Option V := B_ii (fun _ a b => .bool (iLt a b)) (fun a b => some (.bool (Op.bytesLess a b)))
def B_leq : V → V → Option V := B_ii (fun _ a b => .bool (!iLt b a)) (fun a b => some (.bool (Op.bytesLess a b || a == b)))
def B_gtr : V → V → Option V := B_ii (fun _ a b => .bool (iLt b a)) (fun a b => some (.bool !(Op.bytesLess a b || a == b)))
def B_geq : V → V → Option V := B_ii (fun _ a b => .bool (!iLt a b)) (fun a b => some (.bool !(Op.bytesLess a b)))
def binF (op : BinOp) : V → V → Option V :=
  BinOp.rec (motive := fun _ => V → V → Option V) B_add B_sub B_mul (evBin .quo) (evBin .rem) (evBin .and) (evBin .or) (evBin .xor) (evBin .shl) (evBin .shr) (evBin .andNot) B_eql B_neq B_lss B_leq B_gtr B_geq op
theorem kEq_t (k : IntKind) : kEq k k = true := kEq_iff.2 rfl
theorem cond_kEq {β : Type} (k k' : IntKind) (x y : β) : cond (kEq k k') x y = if k = k' then x else y := by
  by_cases h : k = k'
  · subst h; rw [kEq_t, if_pos rfl]; rfl
  · have : kEq k k' = false := by cases e : kEq k k'; rfl; exact absurd (kEq_iff.1 e) h
    rw [this, if_neg h]; rfl
theorem binF_eq (op : BinOp) (v w : V) : binF op v w = evBin op v w := by
  have hlt : ∀ a b : Int, (!decide (b < a)) = decide (a ≤ b) := fun a b => by rw [Bool.eq_iff_iff]; simp
  have hne : ∀ a b : Int, (!iEq a b) = (a != b) := fun a b => by rw [iEq_eq]; rfl
  cases op <;> first | rfl | (cases v <;> first | rfl | (cases w <;> first | rfl | skip))
  all_goals first
    | (show cond _ _ _ = _; rw [cond_kEq]; simp only [wr_eq, iEq_eq, iLt_eq, hlt, hne, evBin]; try rfl)
    | (show some _ = _; simp only [sEq_eq, evBin]; done)
    | skip
  rename_i a b
  show cond (Nat.ble (Nat.succ (a.length + b.length)) 4611686018427387904) _ _ = _
  simp only [evBin]
  by_cases h : a.length + b.length < 4611686018427387904
  · rw [if_pos h, Nat.ble_eq_true_of_le (Nat.succ_le_of_lt h)]; rfl
  · rw [if_neg h]
    have : Nat.ble (Nat.succ (a.length + b.length)) 4611686018427387904 = false := by
      cases e : Nat.ble (Nat.succ (a.length + b.length)) 4611686018427387904
      · rfl
      · exact absurd (ble_le e) (by omega)
    rw [this]; rfl
def nthF (l : List V) : Nat → Option V := List.rec (motive := fun _ => Nat → Option V) (fun _ => none) (fun x _ ih i => Nat.rec (motive := fun _ => Option V) (some x) (fun j _ => ih j) i) l
theorem nthF_eq : ∀ (l : List V) (i : Nat), nthF l i = l[i]?
  | [], _ => rfl
  | _ :: _, 0 => rfl
  | _ :: l, i + 1 => by rw [List.getElem?_cons_succ]; exact nthF_eq l i
def partF (off n : Nat) (agg : Bool) (cs : List V) : Option V := Bool.rec (nthF cs off) (cond (Nat.ble (Nat.add off n) cs.length) (some (.agg ((cs.drop off).take n))) none) agg
theorem partF_eq (off n : Nat) (agg : Bool) (cs : List V) : partF off n agg cs = partOf off n agg cs := by
  cases agg
  · show nthF cs off = _
    rw [nthF_eq]; rfl
  · show cond (Nat.ble (off + n) cs.length) _ _ = _
    simp only [partOf, if_true]
    by_cases h : off + n ≤ cs.length
    · rw [if_pos h, Nat.ble_eq_true_of_le h]; rfl
    · rw [if_neg h]
      have : Nat.ble (off + n) cs.length = false := by
        cases e : Nat.ble (off + n) cs.length
        · rfl
        · exact absurd (ble_le e) h
      rw [this]; rfl
def onSl (ρ : Opd → V) (es : Nat) (x : Opd) (i : Opd) : Option V := match ρ x, ρ i with
  | .sl b o es' n, .int _ j => cond (Nat.beq es es') (Int.rec (motive := fun _ => Option V) (fun m => cond (Nat.ble (Nat.succ m) n) (some (.ptr b (Nat.add o (Nat.mul m es)))) none) (fun _ => none) j) none
  | _, _ => none
theorem onSl_eq (ρ : Opd → V) (es : Nat) (x i : Opd) : onSl ρ es x i = PK.ev ρ (.idxSl es x i) := by
  simp only [onSl, PK.ev]
  generalize ρ x = v
  generalize ρ i = w
  cases v <;> cases w <;> first | rfl | skip
  rename_i b o es' n k j
  simp only
  cases e : Nat.beq es es'
  · have := beq_ne e
    simp [this]
  · have := beq_eq e; subst this
    cases j with
    | ofNat m =>
      simp only [cond_true]
      by_cases h : m < n
      · rw [Nat.ble_eq_true_of_le (Nat.succ_le_of_lt h)]; simp [h]
      · have : Nat.ble (Nat.succ m) n = false := by
          cases e : Nat.ble (Nat.succ m) n
          · rfl
          · exact absurd (ble_le e) (by omega)
        rw [this]; simp [h]
    | negSucc m => simp

/-! The light ones. -/
def P_mv (x : Opd) : (Opd → V) → Option V := fun ρ => some (ρ x)
def P_pick (c : Opd) (a : Opd) (b : Opd) : (Opd → V) → Option V := fun ρ => match ρ c with | .bool c => some (if c then ρ a else ρ b) | _ => none
def P_bin (op : BinOp) (x : Opd) (y : Opd) : (Opd → V) → Option V := fun ρ => binF op (ρ x) (ρ y)
def P_eq (c : EqC) (neg : Bool) (x : Opd) (y : Opd) : (Opd → V) → Option V := fun ρ => (evEq c (ρ x) (ρ y)).map fun b => .bool (if neg then !b else b)
def P_eqAgg (cs : List EqC) (neg : Bool) (x : Opd) (y : Opd) : (Opd → V) → Option V := fun ρ => match ρ x, ρ y with | .agg xs, .agg ys => (evEqs cs xs ys).map fun b => .bool (if neg then !b else b) | _, _ => none
def P_un (op : UnOp) (x : Opd) : (Opd → V) → Option V := fun ρ => match op, ρ x with | .neg, .int k n => some (.int k (k.wrap (0 - n))) | .not, .bool b => some (.bool !b) | .xor, .int k n => some (.int k (k.wrap ((BitVec.ofInt k.bits (if k.signed then -1 else k.max) ^^^ BitVec.ofInt k.bits n).toNat))) | _, _ => none
def P_convInt (k : IntKind) (x : Opd) : (Opd → V) → Option V := fun ρ => match ρ x with | .int _ n => some (.int k (wr k n)) | _ => none
def P_convStr (x : Opd) : (Opd → V) → Option V := fun ρ => match ρ x with | .str s => some (.str s) | _ => none
def P_subStr (x : Opd) (l : Option Opd) (h : Option Opd) : (Opd → V) → Option V := fun ρ => match ρ x with | .str s => (evBounds ρ s.length l h).map fun (i, j) => .str ((s.take j).drop i) | _ => none
def P_subSl (es : Nat) (x : Opd) (l : Option Opd) (h : Option Opd) : (Opd → V) → Option V := fun ρ => match ρ x with
    | .sl b o es' n => if es = es' then (evBounds ρ n l h).map fun (i, j) => .sl b (o + i * es) es (j - i) else none
    | .nilsl => (evBounds ρ 0 l h).map fun _ => .nilsl
    | _ => none
def P_idxStr (x : Opd) (i : Opd) : (Opd → V) → Option V := fun ρ => match ρ x, ρ i with | .str s, .int _ n => if 0 ≤ n then (s[n.toNat]?).map fun c => .int .u8 c.toNat else none | _, _ => none
def P_idxAgg (len : Nat) (es : Nat) (agg : Bool) (x : Opd) (i : Opd) : (Opd → V) → Option V := fun ρ => match ρ x, ρ i with | .agg cs, .int _ n => if 0 ≤ n ∧ n < len then partOf (n.toNat * es) es agg cs else none | _, _ => none
def P_field (off : Nat) (n : Nat) (agg : Bool) (x : Opd) : (Opd → V) → Option V := fun ρ => match ρ x with | .agg cs => partF off n agg cs | _ => none
def P_fieldAt (off : Nat) (x : Opd) : (Opd → V) → Option V := fun ρ => match ρ x with | .ptr b o => some (.ptr b (o + off)) | _ => none
def P_idxSl (es : Nat) (x : Opd) (i : Opd) : (Opd → V) → Option V := fun ρ => onSl ρ es x i
def P_idxArr (len : Nat) (es : Nat) (x : Opd) (i : Opd) : (Opd → V) → Option V := fun ρ => match ρ x, ρ i with | .ptr b o, .int _ j => if 0 ≤ j ∧ j < len then some (.ptr b (o + j.toNat * es)) else none | _, _ => none
def P_ext (x : Opd) (i : Nat) : (Opd → V) → Option V := fun ρ => match ρ x with | .tup vs => vs[i]? | _ => none
def P_mkIf (t : Nat) (x : Opd) : (Opd → V) → Option V := fun ρ => some (.iface t (ρ x))
def P_mkFn (f : Nat) (first : List Opd) (cap : List Opd) : (Opd → V) → Option V := fun ρ => some (.fn f (first.map ρ) (cap.map ρ))
def P_build (zero : List V) (parts : List (Nat × Nat × Opd)) : (Opd → V) → Option V := fun ρ => (fillIn ρ zero parts).map .agg
def P_nilchk (x : Opd) : (Opd → V) → Option V := fun ρ => match ρ x with | .nilptr | .nilif | .nilfn | .undef | .any => none | .fn f a b => some (.fn f a b) | v => some v
def P_lenStr (x : Opd) : (Opd → V) → Option V := fun ρ => match ρ x with | .str s => some (.int .i64 s.length) | _ => none
def P_lenSl (x : Opd) : (Opd → V) → Option V := fun ρ => match ρ x with | .sl _ _ _ n => some (.int .i64 n) | .nilsl => some (.int .i64 0) | _ => none
def P_lenK (n : Nat) : (Opd → V) → Option V := fun ρ => some (.int .i64 n)
def P_mnmx (mx : Bool) (x : Opd) (xs : List Opd) : (Opd → V) → Option V := fun ρ => evMms mx (ρ x) (xs.map ρ)
def P_unwrap (t : Nat) (x : Opd) : (Opd → V) → Option V := fun ρ => match ρ x with | .iface t' v => if t = t' then some v else none | _ => none
def P_eqIf (ok : List Nat) (neg : Bool) (x : Opd) (y : Opd) : (Opd → V) → Option V := fun ρ => (evIf ok (ρ x) (ρ y)).map fun b => .bool (if neg then !b else b)
def P_byteStr (txt : Bool) (x : Opd) : (Opd → V) → Option V := fun ρ => match ρ x with | .int .u8 n => some (if txt then .str [UInt8.ofNat n.toNat] else .undef) | _ => none
def P_idxByte (x : Opd) (c : Opd) : (Opd → V) → Option V := fun ρ => match ρ x, ρ c with | .str s, .int .u8 n => some (.int .i64 (idxB (UInt8.ofNat n.toNat) s)) | _, _ => none
def P_dataSl (x : Opd) : (Opd → V) → Option V := fun ρ => match ρ x with | .sl b o _ n => if 0 < n then some (.ptr b o) else none | .nilsl => some .nilptr | _ => none
def pkF (k : PK) : (Opd → V) → Option V := PK.rec (motive := fun _ => (Opd → V) → Option V) P_mv P_pick P_bin P_eq P_eqAgg P_un P_convInt P_convStr P_subStr P_subSl P_idxStr P_idxAgg P_field P_fieldAt P_idxSl P_idxArr P_ext P_mkIf P_mkFn P_build P_nilchk P_lenStr P_lenSl P_lenK P_mnmx P_unwrap P_eqIf P_byteStr P_idxByte P_dataSl k
theorem pkF_eq (k : PK) (ρ : Opd → V) : pkF k ρ = k.ev ρ := by
  cases k
  case bin op x y => exact binF_eq _ _ _
  case idxSl es x i => exact onSl_eq _ _ _ _
  case field off n agg x =>
    show (match ρ x with | .agg cs => partF off n agg cs | _ => none) = _
    simp only [PK.ev, partF_eq]; cases ρ x <;> rfl
  case convInt k x =>
    show (match ρ x with | .int _ n => some (V.int k (wr k n)) | _ => none) = _
    simp only [PK.ev, wr_eq]; cases ρ x <;> rfl
  all_goals rfl
def R_load (n : Nat) (agg : Bool) (x : Opd) : (Opd → V) → H → Option V := fun ρ h => match ρ x with | .ptr b o => (match h b with | some (.cells cs _) => partF o n agg cs | _ => none) | _ => none
def R_lookup (kc : KC) (zero : V) (ok : Bool) (m : Opd) (k : Opd) : (Opd → V) → H → Option V := fun ρ h => if keyEq kc (ρ k) (ρ k) = some true then
      match ρ m with
      | .nilmap => some (if ok then .tup [zero, .bool false] else zero)
      | .map b => match h b with
        | some (.map es _) =>
          match findK kc (ρ k) es with
          | some (some (v, _)) => some (if ok then .tup [v, .bool true] else v)
          | some none => some (if ok then .tup [zero, .bool false] else zero)
          | none => none
        | _ => none
      | _ => none
    else none
def R_lenMap (m : Opd) : (Opd → V) → H → Option V := fun ρ h => match ρ m with
    | .nilmap => some (.int .i64 0)
    | .map b => match h b with
      | some (.map es _) => some (.int .i64 es.length)
      | _ => none
    | _ => none
def R_toStr (x : Opd) : (Opd → V) → H → Option V := fun ρ h => match ρ x with
    | .nilsl => some (.str [])
    | .sl b o es n => match h b with
      | some (.cells cs _) => if es = 1 ∧ o + n ≤ cs.length then (bytesOf ((cs.drop o).take n)).map .str else none
      | _ => none
    | _ => none
def R_entry (it : Opd) : (Opd → V) → H → Option V := fun ρ h => match ρ it with
    | .ptr i 0 => match h i with
      | some (.iter (some m) _ seen stepped) => match h m with
        | some (.map es clock) =>
          match seen.getLast? with
          | some n => if clock = stepped then (findBorn n es).map fun (k, v) => .tup [k, v] else none
          | none => none
        | _ => none
      | _ => none
    | _ => none
def R_slArr (len : Nat) (es : Nat) (x : Opd) (l : Option Opd) (h_ : Option Opd) : (Opd → V) → H → Option V := fun ρ h => RK.ev ρ h (.slArr len es x l h_)
def R_uns (x : Opd) : (Opd → V) → H → Option V := fun ρ h => match ρ x with
    | .ptr b 0 => match h b with
      | some (.cells _ _) => if isW b then some (.ptr b 0) else none
      | _ => none
    | _ => none
def R_idxSub (g : Nat) (x : Opd) (y : Opd) : (Opd → V) → H → Option V := fun ρ h => match ρ x, ρ y, h g with
    | .str s, .str t, some (.cells [.int .i64 m] _) => if 2 ≤ t.length ∧ (t.length : Int) ≤ m ∧ s.length < 4294967281 then some (.int .i64 (idxS t s)) else none
    | _, _, _ => none
def rkF (k : RK) : (Opd → V) → H → Option V := RK.rec (motive := fun _ => (Opd → V) → H → Option V) R_load R_lookup R_lenMap R_toStr R_entry R_slArr R_uns R_idxSub k
theorem rkF_eq (k : RK) (ρ : Opd → V) (h : H) : rkF k ρ h = k.ev ρ h := by
  cases k
  case load n agg x =>
    show (match ρ x with | .ptr b o => (match h b with | some (.cells cs _) => partF o n agg cs | _ => none) | _ => none) = _
    simp only [RK.ev, partF_eq]
    cases ρ x <;> rfl
  all_goals rfl
def A_alloc (zero : List V) : (Opd → V) → Option (AObj × (Nat → V)) := fun ρ => some (.cells zero false, fun b => .ptr b 0)
def A_box (x : Opd) : (Opd → V) → Option (AObj × (Nat → V)) := fun ρ => if (ρ x).cells.all V.flat then some (.cells (ρ x).cells false, fun b => .ptr b 0) else none
def A_mkSl (zero : List V) (es : Nat) (len : Nat) (parts : List (Nat × Nat × Opd)) : (Opd → V) → Option (AObj × (Nat → V)) := fun ρ => (fillIn ρ (zeros zero len) parts).map fun cs => (.cells cs false, fun b => .sl b 0 es len)
def A_mkMap  : (Opd → V) → Option (AObj × (Nat → V)) := fun ρ => some (.map [] 0, fun b => .map b)
def A_make (zero : List V) (es : Nat) (bytes : Nat) (l : Opd) (c : Opd) : (Opd → V) → Option (AObj × (Nat → V)) := fun ρ => match ρ l, ρ c with
    | .int .i64 n, .int .i64 m => if 0 ≤ n ∧ n ≤ m ∧ m * bytes ≤ 1099511627776 ∧ m ≤ 1099511627776 then some (.cells (zeros zero m.toNat) false, fun b => .sl b 0 es n.toNat) else none
    | _, _ => none
def A_toBytes (x : Opd) : (Opd → V) → Option (AObj × (Nat → V)) := fun ρ => match ρ x with | .str s => some (.cells (bytesIn s) false, fun b => .sl b 0 1 s.length) | _ => none
def A_allocW (zero : List V) : (Opd → V) → Option (AObj × (Nat → V)) := fun ρ => some (.cells zero false, fun b => .ptr b 0)
def akF (k : AK) : (Opd → V) → Option (AObj × (Nat → V)) := AK.rec (motive := fun _ => (Opd → V) → Option (AObj × (Nat → V))) A_alloc A_box A_mkSl A_mkMap A_make A_toBytes A_allocW k
theorem akF_eq (k : AK) (ρ : Opd → V) : akF k ρ = k.ev ρ := by cases k <;> rfl
/-! The heavy ones, but for calls. -/
def H_store (k : Nat) (x : Opd) (v : Opd) : (Opd → V) → H → Tr (Option AObj) → Nat → Outs HO := fun ρ bh h n => match ρ x with
    | .ptr b o => cond (frozen b) .bad <| match hv bh h b with
      | some (.cells cs false) => cond (Nat.beq (ρ v).cells.length k && Nat.ble (o + k) cs.length && (ρ v).cells.all V.flat) (.one (.undef, h.put b (some (.cells (cs.take o ++ (ρ v).cells ++ cs.drop (o + k)) false)), n)) .bad
      | _ => .bad
    | _ => .bad
def H_call (f : Opd) (args : List Opd) : (Opd → V) → H → Tr (Option AObj) → Nat → Outs HO := fun _ _ _ _ => .bad
def H_app (es : Nat) (bytes : Nat) (x : Opd) (y : Opd) : (Opd → V) → H → Tr (Option AObj) → Nat → Outs HO := fun ρ bh h n => match srcCells es (hv bh h) (ρ y) with
    | none => .bad
    | some (k, new) =>
      match ρ x with
      | .nilsl => cond (Nat.beq k 0) (.one (.nilsl, h, n)) <| cond (Nat.ble (k * bytes) 1099511627776 && Nat.ble k 1099511627776)
          (.one (.sl (cond (Nat.beq bytes 1) (4 * n + 1) (4 * n)) 0 es k, h.put (cond (Nat.beq bytes 1) (4 * n + 1) (4 * n)) (some (.cells new false)), n + 1)) .bad
      | .sl b o es' len =>
        cond (Nat.beq k 0) (cond (Nat.beq es es') (.one (.sl b o es len, h, n)) .bad) <|
        cond (frozen b) .bad <|
        match hv bh h b with
        | some (.cells cs false) => cond (Nat.beq es es' && Nat.ble (o + len * es) cs.length && Nat.ble ((len + k) * bytes) 1099511627776 && Nat.ble (len + k) 1099511627776)
            (.one (.sl (cond (Nat.beq bytes 1 && Nat.beq (b % 2) 1) (4 * n + 1) (4 * n)) 0 es (len + k), (h.put b none).put (cond (Nat.beq bytes 1 && Nat.beq (b % 2) 1) (4 * n + 1) (4 * n)) (some (.cells ((cs.drop o).take (len * es) ++ new) false)), n + 1)) .bad
        | _ => .bad
      | _ => .bad
def H_copy (es : Nat) (x : Opd) (y : Opd) : (Opd → V) → H → Tr (Option AObj) → Nat → Outs HO := fun ρ bh h n => match srcCells es (hv bh h) (ρ y) with
    | none => .bad
    | some (k, new) =>
      match ρ x with
      | .nilsl => .one (.int .i64 0, h, n)
      | .sl b o es' len =>
        cond (frozen b) .bad <|
        match hv bh h b with
        | some (.cells cs false) => cond (Nat.beq es es' && Nat.ble (o + len * es) cs.length)
          (.one (.int .i64 (min k len : Nat), h.put b (some (.cells (cs.take o ++ new.take (min k len * es) ++ cs.drop (o + min k len * es)) false)), n)) .bad
        | _ => .bad
      | _ => .bad
def H_mapUpd (kc : KC) (m : Opd) (k : Opd) (v : Opd) : (Opd → V) → H → Tr (Option AObj) → Nat → Outs HO := fun ρ bh h n => match ρ m with
    | .map b => cond (frozen b) .bad <| match hv bh h b with
      | some (.map es clock) => match keyEq kc (ρ k) (ρ k) with
        | some true => match findK kc (ρ k) es with
          | some (some _) => .one (.undef, h.put b (some (.map (setK kc (ρ k) (ρ v) es) clock)), n)
          | some none => .one (.undef, h.put b (some (.map (es ++ [(ρ k, ρ v, clock)]) (clock + 1))), n)
          | none => .bad
        | _ => .bad
      | _ => .bad
    | _ => .bad
def H_mapEntry (kc : KC) (zero : V) (m : Opd) (k : Opd) : (Opd → V) → H → Tr (Option AObj) → Nat → Outs HO := fun ρ bh h n => match ρ m with
    | .map b => cond (frozen b) .bad <| match hv bh h b with
      | some (.map es clock) => match keyEq kc (ρ k) (ρ k) with
        | some true => match findK kc (ρ k) es with
          | some (some (v, u)) => .one (.tup [v, .int .i64 u], h.put b (some (.map (setK kc (ρ k) v es) clock)), n)
          | some none => cond (zero.lit 5) (.one (.tup [zero, .int .i64 clock], h.put b (some (.map (es ++ [(ρ k, zero, clock)]) (clock + 1))), n)) .bad
          | none => .bad
        | _ => .bad
      | _ => .bad
    | _ => .bad
def H_entryStore (m : Opd) (s : Opd) (v : Opd) : (Opd → V) → H → Tr (Option AObj) → Nat → Outs HO := fun ρ bh h n => match ρ m, ρ s with
    | .map b, .int .i64 (.ofNat u) => cond (frozen b) .bad <| match hv bh h b with
      | some (.map es clock) => cond (findBorn u es).isSome (.one (.undef, h.put b (some (.map (setBorn u (ρ v) es) clock)), n)) .bad
      | _ => .bad
    | _, _ => .bad
def H_delete (kc : KC) (m : Opd) (k : Opd) : (Opd → V) → H → Tr (Option AObj) → Nat → Outs HO := fun ρ bh h n => match ρ m with
    | .map b => cond (frozen b) .bad <| match hv bh h b with
      | some (.map es clock) => match keyEq kc (ρ k) (ρ k) with
        | some true => match findK kc (ρ k) es with
          | some _ => .one (.undef, h.put b (some (.map (delK kc (ρ k) es) clock)), n)
          | none => .bad
        | _ => .bad
      | _ => .bad
    | _ => .bad
def H_range (m : Opd) : (Opd → V) → H → Tr (Option AObj) → Nat → Outs HO := fun ρ bh h n => match ρ m with
    | .nilmap => .one (.ptr (4 * n) 0, h.put (4 * n) (some (.iter none 0 [] 0)), n + 1)
    | .map b => match hv bh h b with
      | some (.map _ clock) => .one (.ptr (4 * n) 0, h.put (4 * n) (some (.iter (some b) clock [] clock)), n + 1)
      | _ => .bad
    | _ => .bad
def H_next (it : Opd) : (Opd → V) → H → Tr (Option AObj) → Nat → Outs HO := fun ρ bh h n => match ρ it with
    | .ptr i 0 => match hv bh h i with
      | some (.iter none _ _ _) => .one (.tup [.bool false], h, n)
      | some (.iter (some m) since seen stepped) => cond (frozen i) .bad <| match hv bh h m with
        | some (.map es clock) => cond (!seen.isEmpty && !es.isEmpty && es.all fun e => decide (stepped ≤ e.2.2)) .bad <|
          .alts ((candidates es since seen).map fun x => match x with
            | some e => .one (.tup [.bool true, e.1, e.2.1], h.put i (some (.iter (some m) since (seen ++ [e.2.2]) clock)), n)
            | none => .one (.tup [.bool false], h, n))
        | _ => .bad
      | _ => .bad
    | _ => .bad
def H_rangeStr (s : Opd) : (Opd → V) → H → Tr (Option AObj) → Nat → Outs HO := fun ρ bh h n => match ρ s with | .str s => .one (.ptr (4 * n) 0, h.put (4 * n) (some (.sit s 0)), n + 1) | _ => .bad
def H_nextStr (it : Opd) : (Opd → V) → H → Tr (Option AObj) → Nat → Outs HO := fun ρ bh h n => match ρ it with
    | .ptr i 0 => match hv bh h i with
      | some (.sit s pos) => cond (frozen i) .bad <|
        cond (Nat.blt pos s.length) (.one (.tup [.bool true, .int .i64 pos, .int .i32 (Utf8.decode ⟨s.toArray⟩ pos).1], h.put i (some (.sit s (pos + (Utf8.decode ⟨s.toArray⟩ pos).2))), n))
        (.one (.tup [.bool false], h, n))
      | _ => .bad
    | _ => .bad
def H_clone (x : Opd) : (Opd → V) → H → Tr (Option AObj) → Nat → Outs HO := fun ρ bh h n => match ρ x with
    | .iface t (.map b) => match hv bh h b with
      | some (.map es clock) => .one (.iface t (.map (4 * n)), h.put (4 * n) (some (.map es clock)), n + 1)
      | _ => .bad
    | _ => .bad
def H_ustr (p : Opd) (k : Opd) : (Opd → V) → H → Tr (Option AObj) → Nat → Outs HO := fun ρ bh h n => match ρ k with
    | .int .i64 (.ofNat k) => cond (Nat.ble k 9223372036854775807) (match ρ p with
      | .nilptr => cond (Nat.beq k 0) (.one (.str [], h, n)) .bad
      | .ptr b o => cond (Nat.beq k 0) (.one (.str [], h, n)) <|
        cond (frozen b || Nat.beq (b % 2) 0 || Nat.ble b 1000) .bad <|
        match hv bh h b with
        | some (.cells cs false) => cond (Nat.ble (o + k) cs.length) (match bytesOf ((cs.drop o).take k) with
          | some s => .one (.str s, h.put b (some (.cells cs true)), n)
          | none => .bad) .bad
        | _ => .bad
      | _ => .bad) .bad
    | _ => .bad
def H_dfr (f : Opd) (args : List Opd) : (Opd → V) → H → Tr (Option AObj) → Nat → Outs HO := fun _ _ _ _ => .bad
def hkF (k : HK) : (Opd → V) → H → Tr (Option AObj) → Nat → Outs HO := HK.rec (motive := fun _ => (Opd → V) → H → Tr (Option AObj) → Nat → Outs HO) H_store H_call H_app H_copy H_mapUpd H_mapEntry H_entryStore H_delete H_range H_next H_rangeStr H_nextStr H_clone H_ustr H_dfr k
theorem hkF_eq (call : V → List V → Tr (Option AObj) → Nat → Outs HO) (k : HK) (ρ : Opd → V) (bh : H) (h : Tr (Option AObj)) (n : Nat) (hn : ∀ f as, k ≠ .call f as) : hkF k ρ bh h n = k.run call ρ bh h n := by
  cases k <;> first | rfl | (exact absurd rfl (hn _ _))
end Mir
end
