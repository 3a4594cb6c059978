import Derived.Test.YtipnnfmgecbefaaGreatDoorMir25
import Derived.Attr
/- The mirror, part 29: its code carried out step by step by rewriting: what stands behind is kept as data, so that nothing is gone through twice. -/
set_option linter.unusedSimpArgs false
set_option linter.unusedVariables false
namespace Mir
open Go
variable {call : CP} {a : A} {h h' : H} {K : A → H → Prop} {d : Option Nat} {g : Option (Nat × Bool)} {i j : Nat} {w : List Nat} {l : List IOp} {t : Tm} {v : V}
theorem upd_ap {d i : Nat} : upd t d v i = if i = d then v else t i := rfl
theorem put_so {d : Nat} : put t (some d) v = upd t d v := rfl
theorem put_no : put t none v = t := rfl
theorem start_ap {args : List V} {i : Nat} : start args i = (args[i]?).getD (.tup []) := rfl
theorem params_nil {vs : List V} : params t [] vs = t := by cases vs <;> rfl
theorem params_cons {p : Nat} {ps : List Nat} {vs : List V} : params t (p :: ps) (v :: vs) = params (upd t p v) ps vs := rfl
theorem A_t {t : Tm} {d : List (V × List V)} : (A.mk t d).t = t := rfl
theorem A_d {t : Tm} {d : List (V × List V)} : (A.mk t d).d = d := rfl

/-- An operation's value is known: on. -/
def goP (o : Option V) (d : Option Nat) (call : CP) (l : List IOp) (a : A) (h : H) (K : A → H → Prop) : Prop :=
  match o with | some v => opsE call l ⟨put a.t d v, a.d⟩ h K | none => False
theorem goP_some : goP (some v) d call l a h K = opsE call l ⟨put a.t d v, a.d⟩ h K := rfl
theorem goP_none : goP none d call l a h K = False := rfl
/-- New memory. -/
def goA (o : Option (AObj × (Nat → V))) (bp : Nat → Prop) (d : Option Nat) (call : CP) (l : List IOp) (a : A) (h : H) (K : A → H → Prop) : Prop :=
  match o with | some (x, f) => ∀ b, h b = none → bp b → opsE call l ⟨put a.t d (f b), a.d⟩ (hadd h b x) K | none => False
theorem goA_some {bp : Nat → Prop} {x : AObj} {f : Nat → V} : goA (some (x, f)) bp d call l a h K = ∀ b, h b = none → bp b → later call l ⟨put a.t d (f b), a.d⟩ (hadd h b x) K := rfl
theorem goA_none {bp : Nat → Prop} : goA none bp d call l a h K = False := rfl
theorem by_alloc {z : List V} {b : Nat} : AK.fits b (.alloc z) = True := rfl
theorem by_allocW {z : List V} {b : Nat} : AK.fits b (.allocW z) = isW b := rfl
theorem by_box {x : Opd} {b : Nat} : AK.fits b (.box x) = True := rfl
theorem by_mkSl {z : List V} {es len : Nat} {ps : List (Nat × Nat × Opd)} {b : Nat} : AK.fits b (.mkSl z es len ps) = True := rfl
theorem by_mkMap {b : Nat} : AK.fits b .mkMap = True := rfl
theorem by_make {z : List V} {es bytes : Nat} {l c : Opd} {b : Nat} : AK.fits b (.make z es bytes l c) = (bytes = 1 → isB b) := rfl
theorem by_toBytes {x : Opd} {b : Nat} : AK.fits b (.toBytes x) = True := rfl
/-- Memory is written. -/
def goH (o : Option (V × H)) (d : Option Nat) (call : CP) (l : List IOp) (a : A) (K : A → H → Prop) : Prop :=
  match o with | some (v, h) => opsE call l ⟨put a.t d v, a.d⟩ h K | none => False
theorem goH_some : goH (some (v, h)) d call l a K = opsE call l ⟨put a.t d v, a.d⟩ h K := rfl
theorem goH_none : goH none d call l a K = False := rfl
/-- A guard. -/
def goG (c : V) (b : Bool) (d : Option Nat) (k : Kind) (i : Nat) (w : List Nat) (l : List IOp) (call : CP) (a : A) (h : H) (K : A → H → Prop) : Prop :=
  match c with
  | .bool c => if c = b then opsE call (⟨d, none, k, i, w⟩ :: l) a h K else opsE call l ⟨put a.t d (.tup []), a.d⟩ h K
  | .tup [] => opsE call l ⟨put a.t d (.tup []), a.d⟩ h K
  | _ => False
theorem goG_tt {k : Kind} : goG (.bool true) true d k i w l call a h K = opsE call (⟨d, none, k, i, w⟩ :: l) a h K := rfl
theorem goG_ff {k : Kind} : goG (.bool false) false d k i w l call a h K = opsE call (⟨d, none, k, i, w⟩ :: l) a h K := rfl
theorem goG_tf {k : Kind} : goG (.bool true) false d k i w l call a h K = opsE call l ⟨put a.t d (.tup []), a.d⟩ h K := rfl
theorem goG_ft {k : Kind} : goG (.bool false) true d k i w l call a h K = opsE call l ⟨put a.t d (.tup []), a.d⟩ h K := rfl
theorem goG_no {k : Kind} {b : Bool} : goG (.tup []) b d k i w l call a h K = opsE call l ⟨put a.t d (.tup []), a.d⟩ h K := rfl
theorem opsE_g {k : Kind} {b : Bool} : opsE call (⟨d, some (j, b), k, i, w⟩ :: l) a h K = goG (a.t j) b d k i w l call a h K := by
  cases hv : a.t j with
  | bool c =>
    cases c <;> cases b
    · rw [opsE_on hv]; rfl
    · rw [opsE_off hv]; rfl
    · rw [opsE_off' hv]; rfl
    · rw [opsE_on hv]; rfl
  | tup vs =>
    cases vs with
    | nil => rw [opsE_no hv]; rfl
    | cons x xs => simp [opsE, guardOk, hv, goG]
  | _ => simp [opsE, guardOk, hv, goG]
/-- A guard that isn't decided: both ways. -/
theorem goG_by {k : Kind} {c b : Bool} (x : c = true → goG (.bool true) b d k i w l call a h K) (y : c = false → goG (.bool false) b d k i w l call a h K) : goG (.bool c) b d k i w l call a h K := by
  cases c
  · exact y rfl
  · exact x rfl
theorem opsE_p' (k : PK) : opsE call (⟨d, none, .p k, i, w⟩ :: l) a h K = goP (k.ev (Opd.ev a.t)) d call l a h K := by
  rw [opsE_p]; rfl
theorem opsE_r' (k : RK) : opsE call (⟨d, none, .r k, i, w⟩ :: l) a h K = goP (k.ev (Opd.ev a.t) h) d call l a h K := by
  rw [opsE_r]; rfl
theorem opsE_a' (k : AK) : opsE call (⟨d, none, .a k, i, w⟩ :: l) a h K = goA (k.ev (Opd.ev a.t)) (fun b => k.fits b) d call l a h K := by
  rw [opsE_a]; rfl
/-! ### Values, one match at a time -/
theorem ev_tmp {i : Nat} : Opd.ev t (.tmp i) = t i := (rfl)
theorem ev_c : Opd.ev t (.c v) = v := (rfl)
theorem ev_glob {g : Nat} : Opd.ev t (.glob g) = .ptr g 0 := (rfl)
section
variable {ρ : Opd → V} {x y z : Opd} {n o b : Nat} {cs : List V} {ro : Bool} {k : IntKind} {p q : Int} {s : List UInt8}
theorem pk_mv : PK.ev ρ (.mv x) = some (ρ x) := (rfl)
def pickE (c a b : V) : Option V := match c with | .bool c => some (if c then a else b) | _ => none
theorem pk_pick : PK.ev ρ (.pick x y z) = pickE (ρ x) (ρ y) (ρ z) := (rfl)
theorem pick_t {a b : V} : pickE (.bool true) a b = some a := (rfl)
theorem pick_f {a b : V} : pickE (.bool false) a b = some b := (rfl)
theorem pk_bin {op : BinOp} : PK.ev ρ (.bin op x y) = evBin op (ρ x) (ρ y) := (rfl)
theorem pk_eq {c : EqC} {ng : Bool} : PK.ev ρ (.eq c ng x y) = (evEq c (ρ x) (ρ y)).map fun b => .bool (if ng then !b else b) := (rfl)
def eqAggE (cs : List EqC) (ng : Bool) (x y : V) : Option V := match x, y with | .agg xs, .agg ys => (evEqs cs xs ys).map fun b => .bool (if ng then !b else b) | _, _ => none
theorem pk_eqAgg {c : List EqC} {ng : Bool} : PK.ev ρ (.eqAgg c ng x y) = eqAggE c ng (ρ x) (ρ y) := by
  simp only [PK.ev, eqAggE]; cases ρ x <;> cases ρ y <;> rfl
theorem eqAgg_agg {c : List EqC} {ng : Bool} {xs ys : List V} : eqAggE c ng (.agg xs) (.agg ys) = (evEqs c xs ys).map fun b => .bool (if ng then !b else b) := (rfl)
def unE (op : UnOp) (v : V) : Option V := match op, v with | .neg, .int k n => some (.int k (k.wrap (0 - n))) | .not, .bool b => some (.bool !b) | .xor, .int k n => some (.int k (k.wrap ((BitVec.ofInt k.bits (if k.signed then -1 else k.max) ^^^ BitVec.ofInt k.bits n).toNat))) | _, _ => none
theorem pk_un {op : UnOp} : PK.ev ρ (.un op x) = unE op (ρ x) := by
  simp only [PK.ev, unE]; cases op <;> cases ρ x <;> rfl
theorem un_neg : unE .neg (.int k p) = some (.int k (k.wrap (0 - p))) := (rfl)
def inotI (k : IntKind) (p : Int) : Int := k.wrap ((BitVec.ofInt k.bits (if k.signed then -1 else k.max) ^^^ BitVec.ofInt k.bits p).toNat)
theorem un_xor : unE .xor (.int k p) = some (.int k (inotI k p)) := (rfl)
theorem un_not {b : Bool} : unE .not (.bool b) = some (.bool !b) := (rfl)
def ciE (k : IntKind) (v : V) : Option V := match v with | .int _ n => some (.int k (k.wrap n)) | _ => none
theorem pk_convInt : PK.ev ρ (.convInt k x) = ciE k (ρ x) := (rfl)
theorem ci_int {k' : IntKind} : ciE k (.int k' p) = some (.int k (k.wrap p)) := (rfl)
def csE (v : V) : Option V := match v with | .str s => some (.str s) | _ => none
theorem pk_convStr : PK.ev ρ (.convStr x) = csE (ρ x) := (rfl)
theorem cs_str : csE (.str s) = some (.str s) := (rfl)
/-- Bounds. -/
def bndE (len : Nat) (l h : Option V) : Option (Nat × Nat) :=
  match (match h with | none => some len | some v => match v with | .int _ j => if 0 ≤ j ∧ j ≤ len then some j.toNat else none | _ => none) with
  | none => none
  | some j =>
    match l with
    | none => some (0, j)
    | some x => match x with | .int _ i => if 0 ≤ i ∧ i ≤ j then some (i.toNat, j) else none | _ => none
theorem evBounds_eq {len : Nat} {l h : Option Opd} : evBounds ρ len l h = bndE len (l.map ρ) (h.map ρ) := by
  cases l <;> cases h <;> rfl
theorem bnd_nn {len : Nat} : bndE len none none = some (0, len) := (rfl)
theorem bnd_nh {len : Nat} (c : 0 ≤ p ∧ p ≤ len) : bndE len none (some (.int k p)) = some (0, p.toNat) := by simp [bndE, c]
theorem bnd_ln {len : Nat} (c : 0 ≤ p ∧ p ≤ len) : bndE len (some (.int k p)) none = some (p.toNat, len) := by simp [bndE, c]
theorem bnd_lh {len : Nat} {k' : IntKind} (c : 0 ≤ p ∧ p ≤ q ∧ q ≤ len) : bndE len (some (.int k p)) (some (.int k' q)) = some (p.toNat, q.toNat) := by
  have h1 : (0 ≤ q ∧ q ≤ (len : Int)) := by omega
  have h2 : (0 ≤ p ∧ p ≤ ((q.toNat : Nat) : Int)) := by omega
  simp only [bndE]; rw [if_pos h1]; simp only; rw [if_pos h2]
def ssE (v : V) (l h : Option V) : Option V := match v with | .str s => (bndE s.length l h).map fun (i, j) => .str ((s.take j).drop i) | _ => none
theorem pk_subStr {l h : Option Opd} : PK.ev ρ (.subStr x l h) = ssE (ρ x) (l.map ρ) (h.map ρ) := by
  simp only [PK.ev, ssE, evBounds_eq]; cases ρ x <;> rfl
theorem ss_str {l h : Option V} : ssE (.str s) l h = (bndE s.length l h).map fun (i, j) => .str ((s.take j).drop i) := (rfl)
def slE (es : Nat) (v : V) (l h : Option V) : Option V := match v with
  | .sl b o es' n => if es = es' then (bndE n l h).map fun (i, j) => .sl b (o + i * es) es (j - i) else none
  | .nilsl => (bndE 0 l h).map fun _ => .nilsl
  | _ => none
theorem pk_subSl {es : Nat} {l h : Option Opd} : PK.ev ρ (.subSl es x l h) = slE es (ρ x) (l.map ρ) (h.map ρ) := by
  simp only [PK.ev, slE, evBounds_eq]; cases ρ x <;> rfl
theorem sl_sl {es : Nat} {l h : Option V} : slE es (.sl b o es n) l h = (bndE n l h).map fun (i, j) => .sl b (o + i * es) es (j - i) := by simp [slE]
theorem sl_nil {es : Nat} {l h : Option V} : slE es .nilsl l h = (bndE 0 l h).map fun _ => .nilsl := (rfl)
def isE (v i : V) : Option V := match v, i with | .str s, .int _ n => if 0 ≤ n then (s[n.toNat]?).map fun c => .int .u8 c.toNat else none | _, _ => none
theorem pk_idxStr : PK.ev ρ (.idxStr x y) = isE (ρ x) (ρ y) := by
  simp only [PK.ev, isE]; cases ρ x <;> cases ρ y <;> rfl
theorem is_str (c : 0 ≤ p) : isE (.str s) (.int k p) = (s[p.toNat]?).map fun c => .int .u8 c.toNat := by simp [isE, c]
def iaE (len es : Nat) (agg : Bool) (v i : V) : Option V := match v, i with | .agg cs, .int _ n => if 0 ≤ n ∧ n < len then partOf (n.toNat * es) es agg cs else none | _, _ => none
theorem pk_idxAgg {len es : Nat} {agg : Bool} : PK.ev ρ (.idxAgg len es agg x y) = iaE len es agg (ρ x) (ρ y) := by
  simp only [PK.ev, iaE]; cases ρ x <;> cases ρ y <;> rfl
theorem ia_agg {len es : Nat} {agg : Bool} (c : 0 ≤ p ∧ p < len) : iaE len es agg (.agg cs) (.int k p) = partOf (p.toNat * es) es agg cs := by simp [iaE, c]
def fdE (off n : Nat) (agg : Bool) (v : V) : Option V := match v with | .agg cs => partOf off n agg cs | _ => none
theorem pk_field {agg : Bool} : PK.ev ρ (.field o n agg x) = fdE o n agg (ρ x) := (rfl)
theorem fd_agg {agg : Bool} : fdE o n agg (.agg cs) = partOf o n agg cs := (rfl)
theorem part_f : partOf o n false cs = cs[o]? := by simp [partOf]
theorem part_t (c : o + n ≤ cs.length) : partOf o n true cs = some (.agg ((cs.drop o).take n)) := by simp [partOf, c]
def faE (off : Nat) (v : V) : Option V := match v with | .ptr b o => some (.ptr b (o + off)) | _ => none
theorem pk_fieldAt {off : Nat} : PK.ev ρ (.fieldAt off x) = faE off (ρ x) := (rfl)
theorem fa_ptr {off : Nat} : faE off (.ptr b o) = some (.ptr b (o + off)) := (rfl)
def ixE (es : Nat) (v i : V) : Option V := match v, i with | .sl b o es' n, .int _ j => if es = es' ∧ 0 ≤ j ∧ j < n then some (.ptr b (o + j.toNat * es)) else none | _, _ => none
theorem pk_idxSl {es : Nat} : PK.ev ρ (.idxSl es x y) = ixE es (ρ x) (ρ y) := by
  simp only [PK.ev, ixE]; cases ρ x <;> cases ρ y <;> rfl
theorem ix_sl {es : Nat} (c : 0 ≤ p ∧ p < n) : ixE es (.sl b o es n) (.int k p) = some (.ptr b (o + p.toNat * es)) := by simp [ixE, c]
def irE (len es : Nat) (v i : V) : Option V := match v, i with | .ptr b o, .int _ j => if 0 ≤ j ∧ j < len then some (.ptr b (o + j.toNat * es)) else none | _, _ => none
theorem pk_idxArr {len es : Nat} : PK.ev ρ (.idxArr len es x y) = irE len es (ρ x) (ρ y) := by
  simp only [PK.ev, irE]; cases ρ x <;> cases ρ y <;> rfl
theorem ir_ptr {len es : Nat} (c : 0 ≤ p ∧ p < len) : irE len es (.ptr b o) (.int k p) = some (.ptr b (o + p.toNat * es)) := by simp [irE, c]
def exE (v : V) (i : Nat) : Option V := match v with | .tup vs => vs[i]? | _ => none
theorem pk_ext {i : Nat} : PK.ev ρ (.ext x i) = exE (ρ x) i := (rfl)
theorem ex_tup {vs : List V} {i : Nat} : exE (.tup vs) i = vs[i]? := (rfl)
theorem pk_mkIf {ty : Nat} : PK.ev ρ (.mkIf ty x) = some (.iface ty (ρ x)) := (rfl)
theorem pk_mkFn {f : Nat} {l m : List Opd} : PK.ev ρ (.mkFn f l m) = some (.fn f (l.map ρ) (m.map ρ)) := (rfl)
theorem pk_build {zero : List V} {ps : List (Nat × Nat × Opd)} : PK.ev ρ (.build zero ps) = (fillIn ρ zero ps).map .agg := (rfl)
theorem fill_nil : fillIn ρ cs [] = some cs := (rfl)
def fillC (v : V) (o n : Nat) (ρ : Opd → V) (cs : List V) (rest : List (Nat × Nat × Opd)) : Option (List V) :=
  if v.cells.length = n ∧ o + n ≤ cs.length ∧ v.cells.all V.flat then fillIn ρ (cs.take o ++ v.cells ++ cs.drop (o + n)) rest else none
theorem fill_cons {rest : List (Nat × Nat × Opd)} : fillIn ρ cs ((o, n, x) :: rest) = fillC (ρ x) o n ρ cs rest := (rfl)
/-- A value that is one cell. -/
def V.one : V → Bool
  | .agg _ | .tup _ | .undef => false
  | _ => true
theorem flat_int : (V.int k p).flat = true := (rfl)
theorem flat_str : (V.str s).flat = true := (rfl)
theorem flat_bool {b : Bool} : (V.bool b).flat = true := (rfl)
theorem flat_ptr : (V.ptr b o).flat = true := (rfl)
theorem flat_nilptr : V.nilptr.flat = true := (rfl)
theorem flat_sl {es : Nat} : (V.sl b o es n).flat = true := (rfl)
theorem flat_nilsl : V.nilsl.flat = true := (rfl)
theorem flat_map : (V.map b).flat = true := (rfl)
theorem flat_nilmap : V.nilmap.flat = true := (rfl)
theorem flat_fn {f : Nat} {l m : List V} : (V.fn f l m).flat = true := (rfl)
theorem flat_yield {f : Nat} : (V.yield f).flat = true := (rfl)
theorem flat_nilfn : V.nilfn.flat = true := (rfl)
theorem flat_iface {ty : Nat} : (V.iface ty v).flat = true := (rfl)
theorem flat_nilif : V.nilif.flat = true := (rfl)
theorem fillC_one {rest : List (Nat × Nat × Opd)} (hv : v.flat = true) (c : o + 1 ≤ cs.length) : fillC v o 1 ρ cs rest = fillIn ρ (cs.take o ++ [v] ++ cs.drop (o + 1)) rest := by
  have e : v.cells = [v] := by cases v <;> first | rfl | cases hv
  simp [fillC, e, c, hv]
theorem fillC_agg {rest : List (Nat × Nat × Opd)} {vs : List V} (hl : vs.length = n) (c : o + n ≤ cs.length) (hv : vs.all V.flat = true) : fillC (.agg vs) o n ρ cs rest = fillIn ρ (cs.take o ++ vs ++ cs.drop (o + n)) rest := by
  simp only [fillC, V.cells, hl, c, hv, and_self, if_true]
def ncE (v : V) : Option V := match v with | .nilptr | .nilif | .nilfn | .undef | .any => none | .fn f a b => some (.fn f a b) | v => some v
theorem pk_nilchk : PK.ev ρ (.nilchk x) = ncE (ρ x) := (rfl)
theorem nc_ptr : ncE (.ptr b o) = some (.ptr b o) := (rfl)
theorem nc_fn {f : Nat} {l m : List V} : ncE (.fn f l m) = some (.fn f l m) := (rfl)
theorem nc_yield {f : Nat} : ncE (.yield f) = some (.yield f) := (rfl)
theorem nc_iface {ty : Nat} : ncE (.iface ty v) = some (.iface ty v) := (rfl)
def lsE (v : V) : Option V := match v with | .str s => some (.int .i64 s.length) | _ => none
theorem pk_lenStr : PK.ev ρ (.lenStr x) = lsE (ρ x) := (rfl)
theorem ls_str : lsE (.str s) = some (.int .i64 s.length) := (rfl)
def llE (v : V) : Option V := match v with | .sl _ _ _ n => some (.int .i64 n) | .nilsl => some (.int .i64 0) | _ => none
theorem pk_lenSl : PK.ev ρ (.lenSl x) = llE (ρ x) := (rfl)
theorem ll_sl {es : Nat} : llE (.sl b o es n) = some (.int .i64 n) := (rfl)
theorem ll_nil : llE .nilsl = some (.int .i64 0) := (rfl)
theorem pk_lenK : PK.ev ρ (.lenK n) = some (.int .i64 n) := (rfl)
theorem pk_mnmx {mx : Bool} {xs : List Opd} : PK.ev ρ (.mnmx mx x xs) = evMms mx (ρ x) (xs.map ρ) := (rfl)
theorem mm_min : evMms false (.int k p) [.int k q] = some (.int k (min p q)) := by
  simp only [evMms, evMm, if_true, Bool.false_eq_true, if_false]; rw [Int.min_def]; congr 2; split <;> split <;> omega
theorem mm_max : evMms true (.int k p) [.int k q] = some (.int k (max p q)) := by
  simp only [evMms, evMm, if_true]; rw [Int.max_def]; congr 2; split <;> split <;> omega
def uwE (ty : Nat) (v : V) : Option V := match v with | .iface t' v => if ty = t' then some v else none | _ => none
theorem pk_unwrap {ty : Nat} : PK.ev ρ (.unwrap ty x) = uwE ty (ρ x) := (rfl)
theorem uw_same {ty : Nat} : uwE ty (.iface ty v) = some v := by simp [uwE]
/-! Comparing. -/
theorem evq_int : evEq .int (.int k p) (.int k q) = some (decide (p = q)) := by simp [evEq]; rfl
theorem evq_str {s' : List UInt8} : evEq .str (.str s) (.str s') = some (decide (s = s')) := by
  simp only [evEq]; congr 1; by_cases e : s = s' <;> simp [e]
theorem evq_bool {a b : Bool} : evEq .bool (.bool a) (.bool b) = some (decide (a = b)) := by cases a <;> cases b <;> rfl
theorem evq_pnn : evEq .ptr .nilptr .nilptr = some true := (rfl)
theorem evq_pnp : evEq .ptr .nilptr (.ptr b o) = some false := (rfl)
theorem evq_ppn : evEq .ptr (.ptr b o) .nilptr = some false := (rfl)
theorem evq_ppp {o' : Nat} : evEq .ptr (.ptr b o) (.ptr b o') = some (decide (o = o')) := by
  simp only [evEq, if_true]; rfl
theorem evq_snn : evEq .sl .nilsl .nilsl = some true := (rfl)
theorem evq_sns {es : Nat} : evEq .sl .nilsl (.sl b o es n) = some false := (rfl)
theorem evq_ssn {es : Nat} : evEq .sl (.sl b o es n) .nilsl = some false := (rfl)
theorem evq_mnn : evEq .map .nilmap .nilmap = some true := (rfl)
theorem evq_mmn : evEq .map (.map b) .nilmap = some false := (rfl)
theorem evq_fnn : evEq .fn .nilfn .nilfn = some true := (rfl)
theorem evq_ffn {f : Nat} {l m : List V} : evEq .fn (.fn f l m) .nilfn = some false := (rfl)
theorem evq_fnf {f : Nat} {l m : List V} : evEq .fn .nilfn (.fn f l m) = some false := (rfl)
theorem evq_inn : evEq .iface .nilif .nilif = some true := (rfl)
theorem evq_ini {ty : Nat} : evEq .iface .nilif (.iface ty v) = some false := (rfl)
theorem evq_iin {ty : Nat} : evEq .iface (.iface ty v) .nilif = some false := (rfl)
theorem evqs_nil : evEqs [] [] [] = some true := (rfl)
theorem evqs_cons {c : EqC} {cs : List EqC} {a b : V} {as bs : List V} {u w : Bool} (h1 : evEq c a b = some u) (h2 : evEqs cs as bs = some w) : evEqs (c :: cs) (a :: as) (b :: bs) = some (u && w) := by
  simp only [evEqs, h1]; cases u <;> simp [h2]
theorem not_dec {p : Prop} [Decidable p] : (!decide p) = decide (¬ p) := (decide_not).symm
/-! Memory read. -/
def ldC (o : Option AObj) (off n : Nat) (agg : Bool) : Option V := match o with | some (.cells cs _) => partOf off n agg cs | _ => none
def ldE (v : V) (n : Nat) (agg : Bool) (h : H) : Option V := match v with | .ptr b o => ldC (h b) o n agg | _ => none
theorem rk_load {agg : Bool} : RK.ev ρ h (.load n agg x) = ldE (ρ x) n agg h := by
  simp only [RK.ev, ldE]; cases ρ x <;> rfl
theorem ld_ptr {agg : Bool} : ldE (.ptr b o) n agg h = ldC (h b) o n agg := (rfl)
theorem ldC_cells {agg : Bool} : ldC (some (.cells cs ro)) o n agg = partOf o n agg cs := (rfl)
def luC (o : Option AObj) (kc : KC) (zero : V) (ok : Bool) (k : V) : Option V := match o with
  | some (.map es _) =>
    match findK kc k es with
    | some (some (v, _)) => some (if ok then .tup [v, .bool true] else v)
    | some none => some (if ok then .tup [zero, .bool false] else zero)
    | none => none
  | _ => none
def luE (kc : KC) (zero : V) (ok : Bool) (m k : V) (h : H) : Option V :=
  if keyEq kc k k = some true then match m with
    | .nilmap => some (if ok then .tup [zero, .bool false] else zero)
    | .map b => luC (h b) kc zero ok k
    | _ => none
  else none
theorem rk_lookup {kc : KC} {zero : V} {ok : Bool} : RK.ev ρ h (.lookup kc zero ok x y) = luE kc zero ok (ρ x) (ρ y) h := by
  simp only [RK.ev, luE]; split
  · cases ρ x <;> rfl
  · rfl
theorem lu_map {kc : KC} {zero : V} {ok : Bool} (hk : keyEq kc v v = some true) : luE kc zero ok (.map b) v h = luC (h b) kc zero ok v := by simp [luE, hk]
theorem lu_nil {kc : KC} {zero : V} {ok : Bool} (hk : keyEq kc v v = some true) : luE kc zero ok .nilmap v h = some (if ok then .tup [zero, .bool false] else zero) := by simp [luE, hk]
def luF (r : Option (Option (V × Nat))) (zero : V) (ok : Bool) : Option V := match r with
    | some (some (v, _)) => some (if ok then .tup [v, .bool true] else v)
    | some none => some (if ok then .tup [zero, .bool false] else zero)
    | none => none
theorem luC_map {kc : KC} {zero : V} {ok : Bool} {es : Ents} {clock : Nat} : luC (some (.map es clock)) kc zero ok v = luF (findK kc v es) zero ok := (rfl)
theorem luF_some {zero : V} {u : V × Nat} : luF (some (some u)) zero false = some u.1 := by cases u; rfl
theorem luF_ok {zero : V} {u : V × Nat} : luF (some (some u)) zero true = some (.tup [u.1, .bool true]) := by cases u; rfl
theorem luF_none {zero : V} : luF (some none) zero false = some zero := (rfl)
theorem luF_no {zero : V} : luF (some none) zero true = some (.tup [zero, .bool false]) := (rfl)
theorem keyEq_str : keyEq (.one .str) (.str s) (.str s) = some true := by simp [keyEq, evEq]
theorem keyEq_int : keyEq (.one .int) (.int k p) (.int k p) = some true := by simp [keyEq, evEq]
def lmC (o : Option AObj) : Option V := match o with | some (.map es _) => some (.int .i64 es.length) | _ => none
def lmE (m : V) (h : H) : Option V := match m with | .nilmap => some (.int .i64 0) | .map b => lmC (h b) | _ => none
theorem rk_lenMap : RK.ev ρ h (.lenMap x) = lmE (ρ x) h := by
  simp only [RK.ev, lmE]; cases ρ x <;> rfl
theorem lm_nil : lmE .nilmap h = some (.int .i64 0) := (rfl)
theorem lm_map : lmE (.map b) h = lmC (h b) := (rfl)
theorem lmC_map {es : Ents} {clock : Nat} : lmC (some (.map es clock)) = some (.int .i64 es.length) := (rfl)
def tsC (o : Option AObj) (off es n : Nat) : Option V := match o with
  | some (.cells cs _) => if es = 1 ∧ off + n ≤ cs.length then (bytesOf ((cs.drop off).take n)).map .str else none
  | _ => none
def tsE (v : V) (h : H) : Option V := match v with | .nilsl => some (.str []) | .sl b o es n => tsC (h b) o es n | _ => none
theorem rk_toStr : RK.ev ρ h (.toStr x) = tsE (ρ x) h := by
  simp only [RK.ev, tsE]; cases ρ x <;> rfl
theorem ts_nil : tsE .nilsl h = some (.str []) := (rfl)
theorem ts_sl {es : Nat} : tsE (.sl b o es n) h = tsC (h b) o es n := (rfl)
theorem tsC_cells (c : o + n ≤ cs.length) : tsC (some (.cells cs ro)) o 1 n = (bytesOf ((cs.drop o).take n)).map .str := by simp [tsC, c]
theorem bytesOf_in : ∀ s : List UInt8, bytesOf (bytesIn s) = some s
  | [] => rfl
  | c :: s => by
    show bytesOf (.int .u8 c.toNat :: bytesIn s) = _
    simp only [bytesOf, bytesOf_in s, Int.toNat_natCast]
    congr 2
    exact UInt8.ofNat_toNat
theorem bytesIn_len (s : List UInt8) : (bytesIn s).length = s.length := by simp [bytesIn]
theorem bytesIn_get (s : List UInt8) (i : Nat) : (bytesIn s)[i]? = (s[i]?).map fun c => .int .u8 c.toNat := by simp [bytesIn]
theorem bytesIn_take (s : List UInt8) (i : Nat) : (bytesIn s).take i = bytesIn (s.take i) := by simp [bytesIn, List.map_take]
theorem bytesIn_drop (s : List UInt8) (i : Nat) : (bytesIn s).drop i = bytesIn (s.drop i) := by simp [bytesIn, List.map_drop]
theorem bytesIn_app (s s' : List UInt8) : bytesIn s ++ bytesIn s' = bytesIn (s ++ s') := by simp [bytesIn]
theorem bytesIn_flat (s : List UInt8) : (bytesIn s).all V.flat = true := by simp [bytesIn, V.flat]
/-! New memory. -/
theorem ak_alloc {zero : List V} : AK.ev ρ (.alloc zero) = some (.cells zero false, fun b => .ptr b 0) := (rfl)
def boxE (v : V) : Option (AObj × (Nat → V)) := if v.cells.all V.flat then some (.cells v.cells false, fun b => .ptr b 0) else none
theorem ak_box : AK.ev ρ (.box x) = boxE (ρ x) := (rfl)
theorem box_one (hv : v.flat = true) : boxE v = some (.cells [v] false, fun b => .ptr b 0) := by
  have e : v.cells = [v] := by cases v <;> first | rfl | cases hv
  simp [boxE, e, hv]
theorem box_agg {vs : List V} (hv : vs.all V.flat = true) : boxE (.agg vs) = some (.cells vs false, fun b => .ptr b 0) := by
  simp only [boxE, V.cells, hv, if_true]
theorem ak_mkSl {zero : List V} {es len : Nat} {ps : List (Nat × Nat × Opd)} : AK.ev ρ (.mkSl zero es len ps) = (fillIn ρ (zeros zero len) ps).map fun cs => (.cells cs false, fun b => .sl b 0 es len) := (rfl)
theorem zeros_eq {zero : List V} {n : Nat} : zeros zero n = (List.replicate n zero).flatten := (rfl)
theorem ak_mkMap : AK.ev ρ .mkMap = some (.map [] 0, fun b => .map b) := (rfl)
def mkE (zero : List V) (es bytes : Nat) (l c : V) : Option (AObj × (Nat → V)) := match l, c with
    | .int .i64 n, .int .i64 m => if 0 ≤ n ∧ n ≤ m ∧ m * bytes ≤ 1099511627776 ∧ m ≤ 1099511627776 then some (.cells (zeros zero m.toNat) false, fun b => .sl b 0 es n.toNat) else none
    | _, _ => none
theorem ak_make {zero : List V} {es bytes : Nat} : AK.ev ρ (.make zero es bytes x y) = mkE zero es bytes (ρ x) (ρ y) := by
  simp only [AK.ev, mkE]; cases ρ x <;> first | rfl | (rename_i k n; cases k <;> first | rfl | (cases ρ y <;> first | rfl | (rename_i k m; cases k <;> rfl)))
theorem mk_ints {zero : List V} {es bytes : Nat} (c : 0 ≤ p ∧ p ≤ q ∧ q * bytes ≤ 1099511627776 ∧ q ≤ 1099511627776) : mkE zero es bytes (.int .i64 p) (.int .i64 q) = some (.cells (zeros zero q.toNat) false, fun b => .sl b 0 es p.toNat) := by
  simp only [mkE]; rw [if_pos c]
def tbE (v : V) : Option (AObj × (Nat → V)) := match v with | .str s => some (.cells (bytesIn s) false, fun b => .sl b 0 1 s.length) | _ => none
theorem ak_toBytes : AK.ev ρ (.toBytes x) = tbE (ρ x) := (rfl)
theorem tb_str : tbE (.str s) = some (.cells (bytesIn s) false, fun b => .sl b 0 1 s.length) := (rfl)
end
/-! ### Writing -/
def stC (ob : Option AObj) (b off n : Nat) (h : H) (v : V) : Option (V × H) := match ob with
  | some (.cells cs false) => if v.cells.length = n ∧ off + n ≤ cs.length ∧ v.cells.all V.flat = true then some (.undef, hadd h b (.cells (cs.take off ++ v.cells ++ cs.drop (off + n)) false)) else none
  | _ => none
def stEv (n : Nat) (h : H) (x v : V) : Option (V × H) := match x with | .ptr b o => stC (h b) b o n h v | _ => none
theorem opsE_store' (n : Nat) (x v : Opd) : opsE call (⟨d, none, .h (.store n x v), i, w⟩ :: l) a h K = goH (stEv n h (x.ev a.t) (v.ev a.t)) d call l a K := by
  simp only [opsE, guardOk, wantedE, stepE, HK.E, stEv, stC, true_and, if_true]
  cases x.ev a.t <;> try rfl
  rename_i b o
  dsimp only
  cases h b with
  | none => rfl
  | some ob =>
    cases ob <;> try rfl
    rename_i cs ro
    cases ro <;> dsimp only
    · split
      · rename_i c; simp only [goH, c, true_and, and_self]
      · rename_i c; simp only [goH]; apply propext; constructor
        · intro q; exact c ⟨q.1, q.2.1, q.2.2.1⟩
        · exact False.elim
    · rfl
theorem st_ptr {n b o : Nat} : stEv n h (.ptr b o) v = stC (h b) b o n h v := (rfl)
theorem stC_one {b o : Nat} {cs : List V} (hv : v.flat = true) (c : o + 1 ≤ cs.length) : stC (some (.cells cs false)) b o 1 h v = some (.undef, hadd h b (.cells (cs.take o ++ [v] ++ cs.drop (o + 1)) false)) := by
  have e : v.cells = [v] := by cases v <;> first | rfl | cases hv
  simp [stC, e, c, hv]
theorem stC_agg {b o n : Nat} {cs vs : List V} (hl : vs.length = n) (c : o + n ≤ cs.length) (hv : vs.all V.flat = true) : stC (some (.cells cs false)) b o n h (.agg vs) = some (.undef, hadd h b (.cells (cs.take o ++ vs ++ cs.drop (o + n)) false)) := by
  simp only [stC, V.cells, hl, c, hv, and_self, if_true]
def cpC (ob : Option AObj) (es b off len n : Nat) (new : List V) (h : H) : Option (V × H) := match ob with
  | some (.cells cs false) => if off + len * es ≤ cs.length then
        some (.int .i64 (min n len : Nat), hadd h b (.cells (cs.take off ++ new.take (min n len * es) ++ cs.drop (off + min n len * es)) false)) else none
  | _ => none
def cpEv (es : Nat) (h : H) (x y : V) : Option (V × H) :=
  match srcCells es h y with
  | none => none
  | some (n, new) =>
    match x with
    | .nilsl => some (.int .i64 0, h)
    | .sl b o es' len => if es = es' then cpC (h b) es b o len n new h else none
    | _ => none
theorem opsE_copy' (es : Nat) (x y : Opd) : opsE call (⟨d, none, .h (.copy es x y), i, w⟩ :: l) a h K = goH (cpEv es h (x.ev a.t) (y.ev a.t)) d call l a K := by
  simp only [opsE, guardOk, wantedE, stepE, HK.E, cpEv, cpC, true_and, if_true]
  cases srcCells es h (y.ev a.t) with
  | none => rfl
  | some p =>
    obtain ⟨n, new⟩ := p
    dsimp only
    cases x.ev a.t <;> try rfl
    rename_i b o es' len
    dsimp only
    by_cases e : es = es'
    · subst e
      rw [if_pos rfl]
      cases h b with
      | none => rfl
      | some ob =>
        cases ob <;> try rfl
        rename_i cs ro
        cases ro <;> dsimp only
        · split
          · rename_i c; simp only [goH, c, true_and]
          · rename_i c; simp only [goH, c, false_and, and_false]
        · rfl
    · rw [if_neg e]
      cases h b with
      | none => rfl
      | some ob =>
        cases ob <;> try rfl
        rename_i cs ro
        cases ro <;> dsimp only
        · simp only [e, false_and, goH]
        · rfl
def muF (r : Option (Option (V × Nat))) (kc : KC) (b : Nat) (es : Ents) (clock : Nat) (k v : V) (h : H) : Option (V × H) := match r with
      | some (some _) => some (.undef, hadd h b (.map (setK kc k v es) clock))
      | some none => some (.undef, hadd h b (.map (es ++ [(k, v, clock)]) (clock + 1)))
      | none => none
def muC (ob : Option AObj) (kc : KC) (b : Nat) (k v : V) (h : H) : Option (V × H) := match ob with
  | some (.map es clock) => if keyEq kc k k = some true then muF (findK kc k es) kc b es clock k v h else none
  | _ => none
def muEv (kc : KC) (h : H) (m k v : V) : Option (V × H) := match m with | .map b => muC (h b) kc b k v h | _ => none
theorem opsE_mapUpd' (kc : KC) (m k v : Opd) : opsE call (⟨d, none, .h (.mapUpd kc m k v), i, w⟩ :: l) a h K = goH (muEv kc h (m.ev a.t) (k.ev a.t) (v.ev a.t)) d call l a K := by
  simp only [opsE, guardOk, wantedE, stepE, HK.E, muEv, muC, muF, true_and, if_true]
  cases m.ev a.t <;> try rfl
  rename_i b
  dsimp only
  cases h b with
  | none => rfl
  | some ob =>
    cases ob <;> try rfl
    rename_i es clock
    dsimp only
    by_cases c : keyEq kc (k.ev a.t) (k.ev a.t) = some true
    · rw [if_pos c]
      simp only [c, true_and]
      cases findK kc (k.ev a.t) es with
      | none => rfl
      | some r => cases r <;> rfl
    · rw [if_neg c]; simp only [c, false_and]; rfl
theorem mu_map {kc : KC} {b : Nat} {k : V} : muEv kc h (.map b) k v = muC (h b) kc b k v h := (rfl)
theorem muC_map {kc : KC} {b : Nat} {k : V} {es : Ents} {clock : Nat} (hk : keyEq kc k k = some true) : muC (some (.map es clock)) kc b k v h = muF (findK kc k es) kc b es clock k v h := by simp [muC, hk]
theorem muF_some {kc : KC} {b : Nat} {k : V} {es : Ents} {clock : Nat} {u : V × Nat} : muF (some (some u)) kc b es clock k v h = some (.undef, hadd h b (.map (setK kc k v es) clock)) := (rfl)
theorem muF_none {kc : KC} {b : Nat} {k : V} {es : Ents} {clock : Nat} : muF (some none) kc b es clock k v h = some (.undef, hadd h b (.map (es ++ [(k, v, clock)]) (clock + 1))) := (rfl)
def dlF (r : Option (Option (V × Nat))) (kc : KC) (b : Nat) (es : Ents) (clock : Nat) (k : V) (h : H) : Option (V × H) := match r with
      | some _ => some (.undef, hadd h b (.map (delK kc k es) clock))
      | none => none
def dlC (ob : Option AObj) (kc : KC) (b : Nat) (k : V) (h : H) : Option (V × H) := match ob with
  | some (.map es clock) => if keyEq kc k k = some true then dlF (findK kc k es) kc b es clock k h else none
  | _ => none
def dlEv (kc : KC) (h : H) (m k : V) : Option (V × H) := match m with | .map b => dlC (h b) kc b k h | _ => none
theorem opsE_delete' (kc : KC) (m k : Opd) : opsE call (⟨d, none, .h (.delete kc m k), i, w⟩ :: l) a h K = goH (dlEv kc h (m.ev a.t) (k.ev a.t)) d call l a K := by
  simp only [opsE, guardOk, wantedE, stepE, HK.E, dlEv, dlC, dlF, true_and, if_true]
  cases m.ev a.t <;> try rfl
  rename_i b
  dsimp only
  cases h b with
  | none => rfl
  | some ob =>
    cases ob <;> try rfl
    rename_i es clock
    dsimp only
    by_cases c : keyEq kc (k.ev a.t) (k.ev a.t) = some true
    · rw [if_pos c]
      simp only [c, true_and]
      cases findK kc (k.ev a.t) es <;> rfl
    · rw [if_neg c]; simp only [c, false_and]; rfl
theorem dl_map {kc : KC} {b : Nat} {k : V} : dlEv kc h (.map b) k = dlC (h b) kc b k h := (rfl)
theorem dlC_map {kc : KC} {b : Nat} {k : V} {es : Ents} {clock : Nat} (hk : keyEq kc k k = some true) : dlC (some (.map es clock)) kc b k h = dlF (findK kc k es) kc b es clock k h := by simp [dlC, hk]
theorem dlF_some {kc : KC} {b : Nat} {k : V} {es : Ents} {clock : Nat} {u : Option (V × Nat)} : dlF (some u) kc b es clock k h = some (.undef, hadd h b (.map (delK kc k es) clock)) := (rfl)
/-- A call. -/
def callE (call : CP) (f : V) (args : List V) (d : Option Nat) (l : List IOp) (a : A) (h : H) (K : A → H → Prop) : Prop :=
  callV call f args h fun v h' => opsE call l ⟨put a.t d v, a.d⟩ h' K
theorem opsE_call' (f : Opd) (args : List Opd) : opsE call (⟨d, none, .h (.call f args), i, w⟩ :: l) a h K = callE call (f.ev a.t) (args.map (Opd.ev a.t)) d l a h K := by
  rw [opsE_call]; rfl
theorem callE_fn {f : Nat} {first cap args : List V} : callE call (.fn f first cap) args d l a h K = call (.fn f) (first ++ args ++ cap) h fun v h' => later call l ⟨put a.t d v, a.d⟩ h' K := rfl
theorem callE_yield {y : Nat} {args : List V} : callE call (.yield y) args d l a h K = call (.round y) args h fun v h' => later call l ⟨put a.t d v, a.d⟩ h' K := rfl
/-- A deferred call. -/
def goD (f : V) (args : List V) (d : Option Nat) (call : CP) (l : List IOp) (a : A) (h : H) (K : A → H → Prop) : Prop :=
  match f with
  | .fn q first cap => opsE call l ⟨put a.t d .undef, (.fn q first cap, args) :: a.d⟩ h K
  | _ => False
theorem goD_fn {q : Nat} {first cap args : List V} : goD (.fn q first cap) args d call l a h K = opsE call l ⟨put a.t d .undef, (.fn q first cap, args) :: a.d⟩ h K := rfl
theorem opsE_dfr' (f : Opd) (args : List Opd) : opsE call (⟨d, none, .h (.dfr f args), i, w⟩ :: l) a h K = goD (f.ev a.t) (args.map (Opd.ev a.t)) d call l a h K := by
  rw [opsE_dfr]; rfl
/-- Regions of open order without a watch are as if told in order. -/
theorem drawE_eq (hm : Mono call) {l : List IOp} {W : Reads} {a : A} {h : H} (hl : l.all (fun o => o.watch.isEmpty) = true) : drawE call l W a h K ↔ opsE call l a h K := by
  induction l generalizing W a h with
  | nil => exact Iff.rfl
  | cons o l ih =>
    simp only [List.all_cons, Bool.and_eq_true] at hl
    have hw : o.watch = [] := List.isEmpty_iff.1 hl.1
    have hold : ∀ (W : Reads) h', W.hold o.watch h' := fun W h' x _ hx => by rw [hw] at hx; cases hx
    simp only [opsE, drawE]
    refine and_congr_right fun _ => ?_
    split
    · constructor
      · intro hE
        split at hE
        · exact stepE_mono hm (fun v a h q => (ih hl.2).1 q) hE
        · exact stepE_mono hm (fun v a h q => (ih hl.2).1 q.2) hE
        · exact stepE_mono hm (fun v a h q => (ih hl.2).1 q) hE
      · intro hE
        split
        · exact stepE_mono hm (fun v a h q => (ih hl.2).2 q) hE
        · exact stepE_mono hm (fun v a h q => ⟨hold _ _, (ih hl.2).2 q⟩) hE
        · exact stepE_mono hm (fun v a h q => (ih hl.2).2 q) hE
    · exact ih hl.2
variable {Q : Ex → A → H → Prop} {c e : IC} {pg : Pg}
theorem E_draw' {l : List IOp} (hl : l.all (fun o => o.watch.isEmpty) = true) : E (AC pg) (.draw l) a h Q = opsE (AC pg) l a h (Q .nm) := propext (drawE_eq AC.mono hl)
/-- A choice. -/
def goC (v : V) (call : CP) (c e : IC) (a : A) (h : H) (Q : Ex → A → H → Prop) : Prop :=
  match v with | .bool b => (b = true → E call c a h Q) ∧ (b = false → E call e a h Q) | _ => False
theorem E_cond' {x : Opd} : E call (.cond x c e) a h Q = goC (x.ev a.t) call c e a h Q := rfl
theorem goC_t : goC (.bool true) call c e a h Q = E call c a h Q := by simp [goC]
theorem goC_f : goC (.bool false) call c e a h Q = E call e a h Q := by simp [goC]
theorem goC_by {b : Bool} (x : b = true → goC (.bool true) call c e a h Q) (y : b = false → goC (.bool false) call c e a h Q) : goC (.bool b) call c e a h Q := by
  cases b
  · exact y rfl
  · exact x rfl
theorem atBlock_nm : atBlock i Q .nm a h = Q .nm a h := rfl
theorem atBlock_ret : atBlock i Q .ret a h = Q .ret a h := rfl
theorem atBlock_exit : atBlock i Q (.exit j) a h = if j = i then Q .nm a h else Q (.exit j) a h := rfl
theorem andThen_nm : andThen K Q .nm a h = K a h := rfl
theorem andThen_ret : andThen K Q .ret a h = Q .ret a h := rfl
theorem andThen_exit : andThen K Q (.exit j) a h = Q (.exit j) a h := rfl
/-- A function's end. -/
def retE (o : Option (List V)) (h : H) (Q : V → H → Prop) : Prop := match o with | some vs => ∃ h3, Sub h3 h ∧ Q (packed vs) h3 | none => False
def goE (call : CP) (res : List Res) (Q : V → H → Prop) (t : Tm) (ds : List (V × List V)) (h : H) : Prop :=
  dfrE call ds h fun h'' => retE (allSome (res.map (resOf t h''))) h'' Q
def laterE (call : CP) (res : List Res) (Q : V → H → Prop) (t : Tm) (ds : List (V × List V)) (h : H) : Prop := goE call res Q t ds h
section
variable {res : List Res} {Q : V → H → Prop} {vs : List V} {ds : List (V × List V)}
theorem retE_some : retE (some vs) h Q = ∃ h3, Sub h3 h ∧ Q (packed vs) h3 := rfl
theorem goE_nil : goE call res Q t [] h = retE (allSome (res.map (resOf t h))) h Q := rfl
theorem goE_cons {f : Nat} {first cap args : List V} : goE call res Q t ((.fn f first cap, args) :: ds) h = call (.fn f) (first ++ args ++ cap) h fun _ h' => laterE call res Q t ds h' := rfl
theorem finK_eq {e : Ex} (he : e = .nm ∨ e = .ret) (hm : Mono call) : finK call res Q e a h ↔ goE call res Q a.t a.d h := by
  unfold finK goE
  rw [show (e = .nm ∨ e = .ret) = True from eq_true he, true_and]
  constructor <;> refine dfrE_mono hm fun h'' q => ?_
  · obtain ⟨vs, h3, q1, q2⟩ := q
    rw [q1]; exact ⟨h3, q2⟩
  · unfold retE at q
    split at q
    · rename_i vs hv; obtain ⟨h3, q2⟩ := q; exact ⟨vs, h3, hv, q2⟩
    · exact q.elim
theorem finK_nm' : finK (AC pg) res Q .nm a h = goE (AC pg) res Q a.t a.d h := propext (finK_eq (.inl rfl) AC.mono)
theorem finK_ret' : finK (AC pg) res Q .ret a h = goE (AC pg) res Q a.t a.d h := propext (finK_eq (.inr rfl) AC.mono)
end
/-- A loop, its state told by a value. -/
theorem E.loopX {X : Type} (hm : Mono call) (I : X → A → H → Prop) (m : X → Nat) (x : X) (h0 : I x a h)
    (hs : ∀ x a h, I x a h → E call c a h (andThen (fun a' h' => ∃ x', m x' < m x ∧ I x' a' h') Q)) : E call (.loop c) a h Q := by
  simp only [E]
  intro Z hZ
  have key : ∀ k x a h, I x a h → m x < k → Z a h := by
    intro k
    induction k with
    | zero => intro x a h _ hk; omega
    | succ k ih =>
      intro x a h hi hk
      exact hZ a h (E_mono hm (andThen_mono (fun a' h' ⟨x', q1, q2⟩ => ih x' a' h' q2 (by omega)) fun _ _ _ => id) (hs x a h hi))
  exact key _ x a h h0 (Nat.lt_succ_self _)
/-- A piece of code, by what it comes to. -/
theorem E.cut (hm : Mono call) (R : Ex → A → H → Prop) (hE : E call c a h R) (hR : ∀ e a h, R e a h → Q e a h) : E call c a h Q := E_mono hm hR hE
theorem hadd_ne' {b i : Nat} {o : AObj} (e : i ≠ b) : hadd h b o i = h i := hadd_ne e
/-! Results. -/
def rsC (o : Option AObj) (off n : Nat) (agg : Bool) : Option V := match o with | some (.cells cs _) => partOf off n agg cs | _ => none
def rsE (v : V) (h : H) (n : Nat) (agg : Bool) : Option V := match v with | .ptr b o => rsC (h b) o n agg | _ => none
def rtE (v : V) : Option V := match v with | .undef => none | v => some v
theorem res_tmp {i : Nat} : resOf t h (.tmp i) = rtE (t i) := (rfl)
theorem res_cell {i n : Nat} {agg : Bool} : resOf t h (.cell i n agg) = rsE (t i) h n agg := by
  simp only [resOf, rsE]; cases t i <;> rfl
theorem rs_ptr {b o n : Nat} {agg : Bool} : rsE (.ptr b o) h n agg = rsC (h b) o n agg := (rfl)
theorem rsC_cells {cs : List V} {ro : Bool} {o n : Nat} {agg : Bool} : rsC (some (.cells cs ro)) o n agg = partOf o n agg cs := (rfl)
theorem rt_int {k : IntKind} {p : Int} : rtE (.int k p) = some (.int k p) := (rfl)
theorem rt_str {s : List UInt8} : rtE (.str s) = some (.str s) := (rfl)
theorem rt_bool {b : Bool} : rtE (.bool b) = some (.bool b) := (rfl)
theorem rt_ptr {b o : Nat} : rtE (.ptr b o) = some (.ptr b o) := (rfl)
theorem rt_nilptr : rtE .nilptr = some .nilptr := (rfl)
theorem rt_sl {b o es n : Nat} : rtE (.sl b o es n) = some (.sl b o es n) := (rfl)
theorem rt_nilsl : rtE .nilsl = some .nilsl := (rfl)
theorem rt_map {b : Nat} : rtE (.map b) = some (.map b) := (rfl)
theorem rt_nilmap : rtE .nilmap = some .nilmap := (rfl)
theorem rt_fn {f : Nat} {l m : List V} : rtE (.fn f l m) = some (.fn f l m) := (rfl)
theorem rt_nilfn : rtE .nilfn = some .nilfn := (rfl)
theorem rt_iface {ty : Nat} : rtE (.iface ty v) = some (.iface ty v) := (rfl)
theorem rt_nilif : rtE .nilif = some .nilif := (rfl)
theorem rt_agg {cs : List V} : rtE (.agg cs) = some (.agg cs) := (rfl)
theorem alls_nil : allSome [] = some [] := (rfl)
def allC (o : Option V) (l : List (Option V)) : Option (List V) := match o with | some v => (allSome l).map (v :: ·) | none => none
theorem alls_cons {o : Option V} {l : List (Option V)} : allSome (o :: l) = allC o l := by
  cases o <;> simp only [allSome, allC]
  cases allSome l <;> rfl
theorem allC_some {l : List (Option V)} : allC (some v) l = (allSome l).map (v :: ·) := (rfl)
theorem packed_1 : packed [v] = v := (rfl)
theorem packed_0 : packed [] = .tup [] := (rfl)
theorem packed_2 {u : V} {vs : List V} : packed (v :: u :: vs) = .tup (v :: u :: vs) := (rfl)
/-! What the operations give, one by one. -/
def iand (k : IntKind) (a b : Int) : Int := k.wrap ((BitVec.ofInt k.bits a &&& BitVec.ofInt k.bits b).toNat)
def ior (k : IntKind) (a b : Int) : Int := k.wrap ((BitVec.ofInt k.bits a ||| BitVec.ofInt k.bits b).toNat)
def ixor (k : IntKind) (a b : Int) : Int := k.wrap ((BitVec.ofInt k.bits a ^^^ BitVec.ofInt k.bits b).toNat)
def iandn (k : IntKind) (a b : Int) : Int := k.wrap ((BitVec.ofInt k.bits a &&& ~~~ BitVec.ofInt k.bits b).toNat)
def ishl (k : IntKind) (a b : Int) : Int := k.wrap (a * 2 ^ (min b.toNat k.bits))
def ishr (k : IntKind) (a b : Int) : Int := a.fdiv (2 ^ (min b.toNat k.bits))
section
variable {k k' : IntKind} {a b : Int} {x y : List UInt8}
theorem evb_add : evBin .add (.int k a) (.int k b) = some (.int k (k.wrap (a + b))) := by simp [evBin]
theorem evb_sub : evBin .sub (.int k a) (.int k b) = some (.int k (k.wrap (a - b))) := by simp [evBin]
theorem evb_mul : evBin .mul (.int k a) (.int k b) = some (.int k (k.wrap (a * b))) := by simp [evBin]
theorem evb_quo (hb : b ≠ 0) : evBin .quo (.int k a) (.int k b) = some (.int k (k.wrap (a.tdiv b))) := by simp [evBin, hb]
theorem evb_rem (hb : b ≠ 0) : evBin .rem (.int k a) (.int k b) = some (.int k (a.tmod b)) := by simp [evBin, hb]
theorem evb_and : evBin .and (.int k a) (.int k b) = some (.int k (iand k a b)) := by simp [evBin, iand]
theorem evb_or : evBin .or (.int k a) (.int k b) = some (.int k (ior k a b)) := by simp [evBin, ior]
theorem evb_xor : evBin .xor (.int k a) (.int k b) = some (.int k (ixor k a b)) := by simp [evBin, ixor]
theorem evb_andn : evBin .andNot (.int k a) (.int k b) = some (.int k (iandn k a b)) := by simp [evBin, iandn]
theorem evb_shl (hb : ¬ b < 0) : evBin .shl (.int k a) (.int k' b) = some (.int k (ishl k a b)) := by simp [evBin, hb, ishl]
theorem evb_shr (hb : ¬ b < 0) : evBin .shr (.int k a) (.int k' b) = some (.int k (ishr k a b)) := by simp [evBin, hb, ishr]
theorem evb_eql : evBin .eql (.int k a) (.int k b) = some (.bool (decide (a = b))) := by simp [evBin]; rfl
theorem evb_neq : evBin .neq (.int k a) (.int k b) = some (.bool (decide (a ≠ b))) := by
  simp only [evBin, if_true]; congr 2; by_cases e : a = b <;> simp [e]
theorem evb_lss : evBin .lss (.int k a) (.int k b) = some (.bool (decide (a < b))) := by simp [evBin]
theorem evb_leq : evBin .leq (.int k a) (.int k b) = some (.bool (decide (a ≤ b))) := by simp [evBin]
theorem evb_gtr : evBin .gtr (.int k a) (.int k b) = some (.bool (decide (b < a))) := by simp [evBin]
theorem evb_geq : evBin .geq (.int k a) (.int k b) = some (.bool (decide (b ≤ a))) := by simp [evBin]
theorem evb_sadd (hl : x.length + y.length < 4611686018427387904) : evBin .add (.str x) (.str y) = some (.str (x ++ y)) := by simp [evBin, hl]
theorem evb_seql : evBin .eql (.str x) (.str y) = some (.bool (decide (x = y))) := by
  simp only [evBin]; congr 2; by_cases e : x = y <;> simp [e]
theorem evb_sneq : evBin .neq (.str x) (.str y) = some (.bool (decide (x ≠ y))) := by
  simp only [evBin]; congr 2; by_cases e : x = y <;> simp [e]
theorem evb_slss : evBin .lss (.str x) (.str y) = some (.bool (Op.bytesLess x y)) := rfl
theorem evb_sleq : evBin .leq (.str x) (.str y) = some (.bool (Op.bytesLess x y || x == y)) := rfl
theorem evb_sgtr : evBin .gtr (.str x) (.str y) = some (.bool !(Op.bytesLess x y || x == y)) := rfl
theorem evb_sgeq : evBin .geq (.str x) (.str y) = some (.bool !(Op.bytesLess x y)) := rfl
theorem decide_t {p : Prop} [Decidable p] (h : p) : decide p = true := decide_eq_true h
theorem decide_f {p : Prop} [Decidable p] (h : ¬ p) : decide p = false := decide_eq_false h
theorem iand_ffff (h0 : 0 ≤ a) (h1 : a < 4294967296) : iand .u32 a 65535 = a % 65536 := by
  have := and_ffff h0 h1
  show IntKind.u32.wrap (((BitVec.ofInt 32 a &&& BitVec.ofInt 32 65535).toNat : Nat) : Int) = _
  rw [this]; exact wrap_u32_id (by omega) (by omega)
theorem ishr_u32_16 : ishr .u32 a 16 = a / 65536 := shr32_16
theorem ishl_u32_16 (h0 : 0 ≤ a) (h1 : a < 65536) : ishl .u32 a 16 = a * 65536 := by
  show IntKind.u32.wrap (a * 65536) = _
  exact wrap_u32_id (by omega) (by omega)
theorem ior_u32_16 (ha : 0 ≤ a) (ha' : a < 65536) (hb : 0 ≤ b) (hb' : b < 65536) : ior .u32 (b * 65536) a = b * 65536 + a := by
  show IntKind.u32.wrap (((BitVec.ofInt 32 (b * 65536) ||| BitVec.ofInt 32 a).toNat : Nat) : Int) = _
  rw [or32_16 ha ha' hb hb']; exact wrap_u32_id (by omega) (by omega)
end
/-- A choice that isn't decided: both ways. -/
theorem goC_if {p : Prop} [Decidable p] (x : p → goC (.bool true) call c e a h Q) (y : ¬ p → goC (.bool false) call c e a h Q) : goC (.bool (decide p)) call c e a h Q := by
  by_cases hp : p
  · rw [decide_eq_true hp]; exact x hp
  · rw [decide_eq_false hp]; exact y hp
theorem goG_if {k : Kind} {p : Prop} [Decidable p] {b : Bool} (x : p → goG (.bool true) b d k i w l call a h K) (y : ¬ p → goG (.bool false) b d k i w l call a h K) : goG (.bool (decide p)) b d k i w l call a h K := by
  by_cases hp : p
  · rw [decide_eq_true hp]; exact x hp
  · rw [decide_eq_false hp]; exact y hp
/-! The laws of the walk, under one name. -/
attribute [go_sem] un_xor
attribute [go_sem] E_skip E_ops E_draw' E_seq' seqK_nm seqK_exit seqK_ret finK_nm' finK_ret' goE_nil goE_cons retE_some E_cond' goC_t goC_f E_block E_exit E_ret atBlock_nm atBlock_ret atBlock_exit andThen_nm andThen_ret andThen_exit opsE_nil opsE_p' opsE_r' opsE_a' opsE_g opsE_store' opsE_copy' opsE_mapUpd' opsE_delete' opsE_call' opsE_dfr' goD_fn callE_fn callE_yield goP_some goP_none goA_some goA_none by_alloc by_box by_mkSl by_mkMap by_make by_toBytes goH_some goH_none goG_tt goG_ff goG_tf goG_ft goG_no upd_ap put_so put_no start_ap A_t A_d ev_tmp ev_c ev_glob pk_mv pk_pick pick_t pick_f pk_bin pk_eq pk_eqAgg eqAgg_agg pk_un un_neg un_not pk_convInt ci_int pk_convStr cs_str bnd_nn pk_subStr ss_str pk_subSl sl_sl sl_nil pk_idxStr pk_idxAgg pk_field fd_agg part_f part_t pk_fieldAt fa_ptr pk_idxSl pk_idxArr pk_ext ex_tup pk_mkIf pk_mkFn pk_build fill_nil fill_cons fillC_one fillC_agg pk_nilchk nc_ptr nc_fn nc_yield nc_iface pk_lenStr ls_str pk_lenSl ll_sl ll_nil pk_lenK pk_mnmx mm_min mm_max pk_unwrap uw_same evq_int evq_str evq_bool evq_pnn evq_pnp evq_ppn evq_ppp evq_snn evq_sns evq_ssn evq_mnn evq_mmn evq_fnn evq_ffn evq_fnf evq_inn evq_ini evq_iin evqs_nil not_dec rk_load ld_ptr ldC_cells rk_lookup lu_map lu_nil luC_map luF_some luF_ok luF_none luF_no keyEq_str keyEq_int rk_lenMap lm_nil lm_map lmC_map rk_toStr ts_nil ts_sl bytesOf_in ak_alloc ak_box box_one box_agg ak_mkSl zeros_eq ak_mkMap ak_make ak_toBytes tb_str st_ptr stC_one stC_agg mu_map muC_map muF_some muF_none dl_map dlC_map dlF_some res_tmp res_cell rs_ptr rsC_cells rt_int rt_str rt_bool rt_ptr rt_nilptr rt_sl rt_nilsl rt_map rt_nilmap rt_fn rt_nilfn rt_iface rt_nilif rt_agg alls_nil alls_cons allC_some packed_1 packed_0 packed_2 List.all_cons List.all_nil List.isEmpty_nil List.length_cons List.length_nil List.getElem?_cons_zero List.getElem?_cons_succ List.getElem?_nil Option.getD_some Option.getD_none Option.map_some Option.map_none if_true if_false true_and and_true List.map_cons List.map_nil hadd_same List.take_succ_cons List.take_zero List.drop_succ_cons List.drop_zero List.nil_append List.append_nil List.cons_append List.replicate_succ List.replicate_zero List.flatten_cons List.flatten_nil Bool.true_eq_false Bool.false_eq_true false_or or_false true_or or_true not_true_eq_false not_false_eq_true true_implies false_implies Bool.not_true Bool.not_false Int.cast_ofNat_Int Bool.and_self Bool.and_true Bool.true_and Option.bind_some hadd_twice ne_eq decide_true decide_false Nat.zero_add Nat.add_zero Nat.mul_one Nat.one_mul Nat.zero_mul evb_add evb_sub evb_mul evb_quo evb_rem evb_and evb_or evb_xor evb_andn evb_shl evb_shr evb_eql evb_neq evb_lss evb_leq evb_gtr evb_geq evb_seql evb_sneq evb_slss evb_sleq evb_sgtr evb_sgeq flat_int flat_str flat_bool flat_ptr flat_nilptr flat_sl flat_nilsl flat_map flat_nilmap flat_fn flat_yield flat_nilfn flat_iface flat_nilif Nat.le_refl tsC_cells ix_sl ir_ptr is_str bnd_nh bnd_ln bnd_lh mk_ints ia_agg List.take_length
end Mir

/- The mirror, part 30: appends, ranges and clones carried out step by step. -/
set_option linter.unusedSimpArgs false
set_option linter.unusedVariables false
namespace Mir
open Go
variable {call : CP} {a : A} {h h' : H} {K : A → H → Prop} {d : Option Nat} {i j : Nat} {w : List Nat} {l : List IOp} {t : Tm} {v : V}
/-! ### Ranging over a string -/
def goRS (x : V) (d : Option Nat) (call : CP) (l : List IOp) (a : A) (h : H) (K : A → H → Prop) : Prop :=
  match x with | .str s => ∀ b, h b = none → later call l ⟨put a.t d (.ptr b 0), a.d⟩ (hadd h b (.sit s 0)) K | _ => False
theorem opsE_rangeStr' (x : Opd) : opsE call (⟨d, none, .h (.rangeStr x), i, w⟩ :: l) a h K = goRS (x.ev a.t) d call l a h K := by
  rw [opsE_rangeStr]; rfl
theorem goRS_str {s : List UInt8} : goRS (.str s) d call l a h K = ∀ b, h b = none → later call l ⟨put a.t d (.ptr b 0), a.d⟩ (hadd h b (.sit s 0)) K := rfl
def goNSC (o : Option AObj) (b : Nat) (d : Option Nat) (call : CP) (l : List IOp) (a : A) (h : H) (K : A → H → Prop) : Prop :=
  match o with
  | some (.sit s pos) =>
    if pos < s.length then opsE call l ⟨put a.t d (.tup [.bool true, .int .i64 pos, .int .i32 (Utf8.decode ⟨s.toArray⟩ pos).1]), a.d⟩ (hadd h b (.sit s (pos + (Utf8.decode ⟨s.toArray⟩ pos).2))) K
    else opsE call l ⟨put a.t d (.tup [.bool false]), a.d⟩ h K
  | _ => False
def goNS (x : V) (d : Option Nat) (call : CP) (l : List IOp) (a : A) (h : H) (K : A → H → Prop) : Prop :=
  match x with | .ptr b 0 => goNSC (h b) b d call l a h K | _ => False
theorem opsE_nextStr' (x : Opd) : opsE call (⟨d, none, .h (.nextStr x), i, w⟩ :: l) a h K = goNS (x.ev a.t) d call l a h K := by
  rw [opsE_nextStr]
  simp only [HK.E, goNS, goNSC, later]
  generalize x.ev a.t = v
  split
  · rfl
  · rename_i hne
    split
    · exact (hne _ rfl).elim
    · rfl
theorem goNS_ptr {b : Nat} : goNS (.ptr b 0) d call l a h K = goNSC (h b) b d call l a h K := rfl
theorem goNSC_on {s : List UInt8} {pos b : Nat} (c : pos < s.length) : goNSC (some (.sit s pos)) b d call l a h K = opsE call l ⟨put a.t d (.tup [.bool true, .int .i64 pos, .int .i32 (Utf8.decode ⟨s.toArray⟩ pos).1]), a.d⟩ (hadd h b (.sit s (pos + (Utf8.decode ⟨s.toArray⟩ pos).2))) K := by
  simp only [goNSC, c, if_true]
theorem goNSC_end {s : List UInt8} {pos b : Nat} (c : ¬ pos < s.length) : goNSC (some (.sit s pos)) b d call l a h K = opsE call l ⟨put a.t d (.tup [.bool false]), a.d⟩ h K := by
  simp only [goNSC, c, if_false]
/-! ### Ranging over a map -/
def goRGC (o : Option AObj) (m : Nat) (d : Option Nat) (call : CP) (l : List IOp) (a : A) (h : H) (K : A → H → Prop) : Prop :=
  match o with | some (.map _ clock) => ∀ b, h b = none → later call l ⟨put a.t d (.ptr b 0), a.d⟩ (hadd h b (.iter (some m) clock [] clock)) K | _ => False
def goRG (x : V) (d : Option Nat) (call : CP) (l : List IOp) (a : A) (h : H) (K : A → H → Prop) : Prop :=
  match x with
  | .nilmap => ∀ b, h b = none → later call l ⟨put a.t d (.ptr b 0), a.d⟩ (hadd h b (.iter none 0 [] 0)) K
  | .map m => goRGC (h m) m d call l a h K
  | _ => False
theorem opsE_range' (x : Opd) : opsE call (⟨d, none, .h (.range x), i, w⟩ :: l) a h K = goRG (x.ev a.t) d call l a h K := by
  rw [opsE_range]
  simp only [HK.E, goRG]
  cases x.ev a.t <;> rfl
theorem goRG_nil : goRG .nilmap d call l a h K = ∀ b, h b = none → later call l ⟨put a.t d (.ptr b 0), a.d⟩ (hadd h b (.iter none 0 [] 0)) K := rfl
theorem goRG_map {m : Nat} : goRG (.map m) d call l a h K = goRGC (h m) m d call l a h K := rfl
theorem goRGC_map {m : Nat} {es : Ents} {clock : Nat} : goRGC (some (.map es clock)) m d call l a h K = ∀ b, h b = none → later call l ⟨put a.t d (.ptr b 0), a.d⟩ (hadd h b (.iter (some m) clock [] clock)) K := rfl
/-- The next entry: whichever may come. -/
def goNXM (o : Option AObj) (m since : Nat) (seen : List Nat) (stepped b : Nat) (d : Option Nat) (call : CP) (l : List IOp) (a : A) (h : H) (K : A → H → Prop) : Prop :=
  match o with
  | some (.map es clock) => (!seen.isEmpty && !es.isEmpty && es.all fun e => decide (stepped ≤ e.2.2)) = false ∧
          ∀ x ∈ candidates es since seen, match x with
            | some e => opsE call l ⟨put a.t d (.tup [.bool true, e.1, e.2.1]), a.d⟩ (hadd h b (.iter (some m) since (seen ++ [e.2.2]) clock)) K
            | none => opsE call l ⟨put a.t d (.tup [.bool false]), a.d⟩ h K
  | _ => False
def goNXC (o : Option AObj) (b : Nat) (d : Option Nat) (call : CP) (l : List IOp) (a : A) (h : H) (K : A → H → Prop) : Prop :=
  match o with
  | some (.iter none _ _ _) => opsE call l ⟨put a.t d (.tup [.bool false]), a.d⟩ h K
  | some (.iter (some m) since seen stepped) => goNXM (h m) m since seen stepped b d call l a h K
  | _ => False
def goNX (x : V) (d : Option Nat) (call : CP) (l : List IOp) (a : A) (h : H) (K : A → H → Prop) : Prop :=
  match x with | .ptr b 0 => goNXC (h b) b d call l a h K | _ => False
theorem opsE_next' (x : Opd) : opsE call (⟨d, none, .h (.next x), i, w⟩ :: l) a h K = goNX (x.ev a.t) d call l a h K := by
  rw [opsE_next]
  simp only [HK.E, later]
  generalize x.ev a.t = v
  split
  · rename_i b
    show _ = goNXC (h b) b d call l a h K
    unfold goNXC goNXM
    generalize h b = o
    rcases o with _ | ob
    · rfl
    · cases ob <;> rfl
  · rename_i hne
    unfold goNX
    split
    · rename_i b; exact (hne b rfl).elim
    · rfl
theorem goNX_ptr {b : Nat} : goNX (.ptr b 0) d call l a h K = goNXC (h b) b d call l a h K := rfl
theorem goNXC_none {b s t : Nat} {se : List Nat} : goNXC (some (.iter none s se t)) b d call l a h K = opsE call l ⟨put a.t d (.tup [.bool false]), a.d⟩ h K := rfl
theorem goNXC_some {m b s t : Nat} {se : List Nat} : goNXC (some (.iter (some m) s se t)) b d call l a h K = goNXM (h m) m s se t b d call l a h K := rfl
/-- An unchanged map's range: what was seen, what is left. -/
structure Half (es : Ents) (clock : Nat) (seen : List Nat) (done rest : Ents) : Prop where
  perm : (done ++ rest).Perm es
  seen : seen = done.map fun e => e.2.2
  nodup : (es.map fun e => e.2.2).Nodup
  old : ∀ e ∈ es, e.2.2 < clock
theorem Half.start {es : Ents} {clock : Nat} (hn : (es.map fun e => e.2.2).Nodup) (ho : ∀ e ∈ es, e.2.2 < clock) : Half es clock [] [] es := ⟨by simp, rfl, hn, ho⟩
theorem goNXM_half {es done rest : Ents} {clock m b : Nat} {seen : List Nat} (H : Half es clock seen done rest)
    (hend : rest = [] → opsE call l ⟨put a.t d (.tup [.bool false]), a.d⟩ h K)
    (hstep : ∀ e r1 r2, rest = r1 ++ e :: r2 → e ∈ es → Half es clock (seen ++ [e.2.2]) (done ++ [e]) (r1 ++ r2) → opsE call l ⟨put a.t d (.tup [.bool true, e.1, e.2.1]), a.d⟩ (hadd h b (.iter (some m) clock (seen ++ [e.2.2]) clock)) K) :
    goNXM (some (.map es clock)) m clock seen clock b d call l a h K := by
  obtain ⟨hp, hs, hn, ho⟩ := H
  refine ⟨?_, fun x hx => ?_⟩
  · cases es with
    | nil => simp
    | cons e es =>
      have : ¬ clock ≤ e.2.2 := by have := ho e (by simp); omega
      simp [this]
  · have hnd : ((done ++ rest).map fun e => e.2.2).Nodup := (hp.map _).nodup_iff.2 hn
    rw [List.map_append, List.nodup_append] at hnd
    have hin : ∀ e, e ∈ es ↔ e ∈ done ∨ e ∈ rest := fun e => by rw [← hp.mem_iff, List.mem_append]
    have hleft : ∀ e, e ∈ es.filter (fun e => !seen.contains e.2.2) ↔ e ∈ rest := by
      intro e
      rw [List.mem_filter, hin, hs]
      simp only [Bool.not_eq_true', List.contains_eq_mem, decide_eq_false_iff_not]
      constructor
      · rintro ⟨hd | hr, hc⟩
        · exact (hc (List.mem_map.2 ⟨e, hd, rfl⟩)).elim
        · exact hr
      · intro hr
        exact ⟨.inr hr, fun hm => hnd.2.2 _ hm _ (List.mem_map.2 ⟨e, hr, rfl⟩) rfl⟩
    have hsp : ∀ e ∈ rest, ∃ r1 r2, rest = r1 ++ e :: r2 := fun e he => List.append_of_mem he
    simp only [candidates] at hx
    rw [List.mem_append] at hx
    rcases hx with hx | hx
    · split at hx
      · rename_i hem
        simp only [List.mem_singleton] at hx
        subst hx
        refine hend ?_
        cases rest with
        | nil => rfl
        | cons e rest =>
          have h1 := (hleft e).2 (by simp)
          have h2 : e ∈ (es.filter (fun e => !seen.contains e.2.2)).filter (fun e => decide (e.2.2 < clock)) := List.mem_filter.2 ⟨h1, by simpa using ho e ((List.mem_filter.1 h1).1)⟩
          rw [List.isEmpty_iff] at hem
          rw [hem] at h2; cases h2
      · cases hx
    · rw [List.mem_map] at hx
      obtain ⟨e, he, rfl⟩ := hx
      have he' : e ∈ es.filter (fun e => !seen.contains e.2.2) := by
        rcases List.mem_append.1 he with he | he <;> exact List.mem_filter.2 ⟨(List.mem_filter.1 (List.mem_filter.1 he).1).1, (List.mem_filter.1 (List.mem_filter.1 he).1).2⟩
      have hr := (hleft e).1 he'
      obtain ⟨r1, r2, rfl⟩ := hsp e hr
      exact hstep e r1 r2 rfl (List.mem_filter.1 he').1 ⟨by rw [List.append_assoc]; refine List.Perm.trans ?_ hp; exact List.Perm.append_left done (List.perm_middle (a := e) (l₁ := r1) (l₂ := r2)).symm, by rw [hs]; simp, hn, ho⟩
theorem findBorn_mem {es : Ents} {e : V × V × Nat} (hn : (es.map fun e => e.2.2).Nodup) (he : e ∈ es) : findBorn e.2.2 es = some (e.1, e.2.1) := by
  induction es with
  | nil => cases he
  | cons x es ih =>
    obtain ⟨k, u, n⟩ := x
    rw [List.map_cons, List.nodup_cons] at hn
    simp only [findBorn]
    rcases List.mem_cons.1 he with rfl | he
    · simp
    · have : n ≠ e.2.2 := fun eq => hn.1 (by rw [eq]; exact List.mem_map.2 ⟨e, he, rfl⟩)
      rw [if_neg (by simpa using this)]
      exact ih hn.2 he
def enM (o : Option AObj) (stepped : Nat) (last : Option Nat) : Option V := match o with
  | some (.map es clock) => match last with
    | some n => if clock = stepped then (findBorn n es).map fun (k, v) => .tup [k, v] else none
    | none => none
  | _ => none
def enC (o : Option AObj) (h : H) : Option V := match o with
  | some (.iter (some m) _ seen stepped) => enM (h m) stepped seen.getLast?
  | _ => none
def enE (v : V) (h : H) : Option V := match v with | .ptr i 0 => enC (h i) h | _ => none
theorem rk_entry {ρ : Opd → V} {x : Opd} : RK.ev ρ h (.entry x) = enE (ρ x) h := by
  simp only [RK.ev]
  generalize ρ x = v
  split
  · rename_i b
    show _ = enC (h b) h
    unfold enC enM
    generalize h b = o
    rcases o with _ | ob
    · rfl
    · cases ob <;> rfl
  · rename_i hne
    unfold enE
    split
    · rename_i b; exact (hne b rfl).elim
    · rfl
theorem en_ptr {b : Nat} : enE (.ptr b 0) h = enC (h b) h := rfl
theorem enC_iter {m s t : Nat} {seen : List Nat} : enC (some (.iter (some m) s seen t)) h = enM (h m) t seen.getLast? := rfl
theorem enM_at {es : Ents} {clock n : Nat} : enM (some (.map es clock)) clock (some n) = (findBorn n es).map fun (k, v) => .tup [k, v] := by simp [enM]
theorem getLast_snoc {α : Type} {l : List α} {x : α} : (l ++ [x]).getLast? = some x := by simp
/-! ### Cloning a map -/
def goCLC (o : Option AObj) (ty : Nat) (d : Option Nat) (call : CP) (l : List IOp) (a : A) (h : H) (K : A → H → Prop) : Prop :=
  match o with | some (.map es clock) => ∀ b, h b = none → later call l ⟨put a.t d (.iface ty (.map b)), a.d⟩ (hadd h b (.map es clock)) K | _ => False
def goCL (x : V) (d : Option Nat) (call : CP) (l : List IOp) (a : A) (h : H) (K : A → H → Prop) : Prop :=
  match x with | .iface ty (.map m) => goCLC (h m) ty d call l a h K | _ => False
theorem opsE_clone' (x : Opd) : opsE call (⟨d, none, .h (.clone x), i, w⟩ :: l) a h K = goCL (x.ev a.t) d call l a h K := by
  rw [opsE_clone]
  simp only [HK.E, goCL]
  generalize x.ev a.t = v
  split
  · rfl
  · rename_i hne
    split
    · exact (hne _ _ rfl).elim
    · rfl
theorem goCL_map {ty m : Nat} : goCL (.iface ty (.map m)) d call l a h K = goCLC (h m) ty d call l a h K := rfl
theorem goCLC_map {ty : Nat} {es : Ents} {clock : Nat} : goCLC (some (.map es clock)) ty d call l a h K = ∀ b, h b = none → later call l ⟨put a.t d (.iface ty (.map b)), a.d⟩ (hadd h b (.map es clock)) K := rfl
/-! ### Appending -/
def srcC (o : Option AObj) (es off n : Nat) : Option (Nat × List V) := match o with
  | some (.cells cs _) => if off + n * es ≤ cs.length then some (n, (cs.drop off).take (n * es)) else none
  | _ => none
theorem src_nil {es : Nat} : srcCells es h .nilsl = some (0, []) := rfl
theorem src_str {s : List UInt8} : srcCells 1 h (.str s) = some (s.length, bytesIn s) := rfl
theorem src_sl {b o es n : Nat} : srcCells es h (.sl b o es n) = srcC (h b) es o n := by
  simp only [srcCells, srcC, true_and]
  generalize h b = o
  rcases o with _ | ob
  · rfl
  · cases ob <;> rfl
theorem srcC_cells {cs : List V} {ro : Bool} {es o n : Nat} (c : o + n * es ≤ cs.length) : srcC (some (.cells cs ro)) es o n = some (n, (cs.drop o).take (n * es)) := by simp [srcC, c]
def goApC (ob : Option AObj) (b o es len bytes n : Nat) (new : List V) (d : Option Nat) (call : CP) (l : List IOp) (a : A) (h : H) (K : A → H → Prop) : Prop :=
  match ob with
  | some (.cells cs false) => o + len * es ≤ cs.length ∧ (len + n) * bytes ≤ 1099511627776 ∧ len + n ≤ 1099511627776 ∧
      ∀ b', b' ≠ b → h b' = none → (bytes = 1 → isB b → isB b') → later call l ⟨put a.t d (.sl b' 0 es (len + n)), a.d⟩ (hadd (hset h b none) b' (.cells ((cs.drop o).take (len * es) ++ new) false)) K
  | _ => False
def goAp (src : Option (Nat × List V)) (es bytes : Nat) (x : V) (d : Option Nat) (call : CP) (l : List IOp) (a : A) (h : H) (K : A → H → Prop) : Prop :=
  match src with
  | none => False
  | some (n, new) =>
    match x with
    | .nilsl => if n = 0 then opsE call l ⟨put a.t d .nilsl, a.d⟩ h K else n * bytes ≤ 1099511627776 ∧ n ≤ 1099511627776 ∧ ∀ b', h b' = none → (bytes = 1 → isB b') → later call l ⟨put a.t d (.sl b' 0 es n), a.d⟩ (hadd h b' (.cells new false)) K
    | .sl b o es' len => if n = 0 then es = es' ∧ opsE call l ⟨put a.t d (.sl b o es len), a.d⟩ h K else es = es' ∧ goApC (h b) b o es len bytes n new d call l a h K
    | _ => False
theorem opsE_app' (es bytes : Nat) (x y : Opd) : opsE call (⟨d, none, .h (.app es bytes x y), i, w⟩ :: l) a h K = goAp (srcCells es h (y.ev a.t)) es bytes (x.ev a.t) d call l a h K := by
  rw [opsE_app]
  simp only [HK.E, goAp, goApC, later]
  cases srcCells es h (y.ev a.t) with
  | none => rfl
  | some p =>
    obtain ⟨n, new⟩ := p
    dsimp only
    cases x.ev a.t <;> try rfl
    rename_i b o es' len
    dsimp only
    split
    · rfl
    · cases h b with
      | none => simp
      | some ob =>
        cases ob <;> try simp
        rename_i cs ro
        cases ro <;> simp
theorem ap_nil0 {es bytes : Nat} {new : List V} : goAp (some (0, new)) es bytes .nilsl d call l a h K = opsE call l ⟨put a.t d .nilsl, a.d⟩ h K := by simp [goAp]
theorem ap_nil {es bytes n : Nat} {new : List V} (hn : n ≠ 0) (c : n * bytes ≤ 1099511627776 ∧ n ≤ 1099511627776) : goAp (some (n, new)) es bytes .nilsl d call l a h K = ∀ b', h b' = none → (bytes = 1 → isB b') → later call l ⟨put a.t d (.sl b' 0 es n), a.d⟩ (hadd h b' (.cells new false)) K := by
  simp [goAp, hn, c]
theorem ap_sl0 {es bytes b o len : Nat} {new : List V} : goAp (some (0, new)) es bytes (.sl b o es len) d call l a h K = opsE call l ⟨put a.t d (.sl b o es len), a.d⟩ h K := by simp [goAp]
theorem ap_sl {es bytes b o len n : Nat} {new : List V} (hn : n ≠ 0) : goAp (some (n, new)) es bytes (.sl b o es len) d call l a h K = goApC (h b) b o es len bytes n new d call l a h K := by
  simp [goAp, hn]
theorem apC_cells {cs new : List V} {b o es len bytes n : Nat} (c : o + len * es ≤ cs.length ∧ (len + n) * bytes ≤ 1099511627776 ∧ len + n ≤ 1099511627776) : goApC (some (.cells cs false)) b o es len bytes n new d call l a h K =
      ∀ b', b' ≠ b → h b' = none → (bytes = 1 → isB b → isB b') → later call l ⟨put a.t d (.sl b' 0 es (len + n)), a.d⟩ (hadd (hset h b none) b' (.cells ((cs.drop o).take (len * es) ++ new) false)) K := by
  simp [goApC, c]
/-! ### Places -/
theorem ne_fresh {b p : Nat} {o : AObj} (hp : h p = some o) (hb : h b = none) : p ≠ b := fun e => by subst e; rw [hb] at hp; cases hp
theorem hset_ne' {b i : Nat} {o : Option AObj} (e : i ≠ b) : hset h b o i = h i := by simp [hset, e]
theorem hset_same {b : Nat} {o : Option AObj} : hset h b o b = o := by simp [hset]
theorem box_eq {x : V} {vs : List V} (e : x = .agg vs) (hv : vs.all V.flat = true) : boxE x = some (.cells vs false, fun b => .ptr b 0) := by subst e; exact box_agg hv
attribute [go_sem] opsE_rangeStr' goRS_str opsE_nextStr' goNS_ptr opsE_range' goRG_nil goRG_map goRGC_map opsE_next' goNX_ptr goNXC_none goNXC_some rk_entry en_ptr enC_iter enM_at getLast_snoc opsE_clone' goCL_map goCLC_map src_nil src_str src_sl opsE_app' ap_nil0 ap_sl0 hset_same
end Mir
