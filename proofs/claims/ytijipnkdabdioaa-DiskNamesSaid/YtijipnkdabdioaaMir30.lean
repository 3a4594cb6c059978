/- The mirror, part 30: appends, ranges and clones carried out step by step. -/
import Derived.Test.YtijipnkdabdioaaMir29
set_option linter.unusedSimpArgs false
set_option linter.unusedVariables false
namespace Mir
open Go
variable {call : CP} {a : A} {h h' : H} {K : A → H → Prop} {d : Option Nat} {i j : Nat} {w : List Nat} {l : List IOp} {t : Tm} {v : V}
/-! ### Ranging over a string -/
def goRS (x : V) (d : Option Nat) (call : CP) (l : List IOp) (a : A) (h : H) (K : A → H → Prop) : Prop :=
  match x with | .str s => ∀ b, h b = none → later call l ⟨put a.t d (.ptr b 0), a.d⟩ (hadd h b (.sit s 0)) K | _ => False
theorem opsE_rangeStr' (x : Opd) : opsE call (⟨d, none, .h (.rangeStr x), i, w⟩ :: l) a h K = goRS (x.ev a.t) d call l a h K := by
  rw [opsE_rangeStr]; rfl
theorem goRS_str {s : List UInt8} : goRS (.str s) d call l a h K = ∀ b, h b = none → later call l ⟨put a.t d (.ptr b 0), a.d⟩ (hadd h b (.sit s 0)) K := rfl
def goNSC (o : Option AObj) (b : Nat) (d : Option Nat) (call : CP) (l : List IOp) (a : A) (h : H) (K : A → H → Prop) : Prop :=
  match o with
  | some (.sit s pos) =>
    if pos < s.length then opsE call l ⟨put a.t d (.tup [.bool true, .int .i64 pos, .int .i32 (Utf8.decode ⟨s.toArray⟩ pos).1]), a.d⟩ (hadd h b (.sit s (pos + (Utf8.decode ⟨s.toArray⟩ pos).2))) K
    else opsE call l ⟨put a.t d (.tup [.bool false]), a.d⟩ h K
  | _ => False
def goNS (x : V) (d : Option Nat) (call : CP) (l : List IOp) (a : A) (h : H) (K : A → H → Prop) : Prop :=
  match x with | .ptr b 0 => goNSC (h b) b d call l a h K | _ => False
theorem opsE_nextStr' (x : Opd) : opsE call (⟨d, none, .h (.nextStr x), i, w⟩ :: l) a h K = goNS (x.ev a.t) d call l a h K := by
  rw [opsE_nextStr]
  simp only [HK.E, goNS, goNSC, later]
  generalize x.ev a.t = v
  split
  · rfl
  · rename_i hne
    split
    · exact (hne _ rfl).elim
    · rfl
theorem goNS_ptr {b : Nat} : goNS (.ptr b 0) d call l a h K = goNSC (h b) b d call l a h K := rfl
theorem goNSC_on {s : List UInt8} {pos b : Nat} (c : pos < s.length) : goNSC (some (.sit s pos)) b d call l a h K = opsE call l ⟨put a.t d (.tup [.bool true, .int .i64 pos, .int .i32 (Utf8.decode ⟨s.toArray⟩ pos).1]), a.d⟩ (hadd h b (.sit s (pos + (Utf8.decode ⟨s.toArray⟩ pos).2))) K := by
  simp only [goNSC, c, if_true]
theorem goNSC_end {s : List UInt8} {pos b : Nat} (c : ¬ pos < s.length) : goNSC (some (.sit s pos)) b d call l a h K = opsE call l ⟨put a.t d (.tup [.bool false]), a.d⟩ h K := by
  simp only [goNSC, c, if_false]
/-! ### Ranging over a map -/
def goRGC (o : Option AObj) (m : Nat) (d : Option Nat) (call : CP) (l : List IOp) (a : A) (h : H) (K : A → H → Prop) : Prop :=
  match o with | some (.map _ clock) => ∀ b, h b = none → later call l ⟨put a.t d (.ptr b 0), a.d⟩ (hadd h b (.iter (some m) clock [] clock)) K | _ => False
def goRG (x : V) (d : Option Nat) (call : CP) (l : List IOp) (a : A) (h : H) (K : A → H → Prop) : Prop :=
  match x with
  | .nilmap => ∀ b, h b = none → later call l ⟨put a.t d (.ptr b 0), a.d⟩ (hadd h b (.iter none 0 [] 0)) K
  | .map m => goRGC (h m) m d call l a h K
  | _ => False
theorem opsE_range' (x : Opd) : opsE call (⟨d, none, .h (.range x), i, w⟩ :: l) a h K = goRG (x.ev a.t) d call l a h K := by
  rw [opsE_range]
  simp only [HK.E, goRG]
  cases x.ev a.t <;> rfl
theorem goRG_nil : goRG .nilmap d call l a h K = ∀ b, h b = none → later call l ⟨put a.t d (.ptr b 0), a.d⟩ (hadd h b (.iter none 0 [] 0)) K := rfl
theorem goRG_map {m : Nat} : goRG (.map m) d call l a h K = goRGC (h m) m d call l a h K := rfl
theorem goRGC_map {m : Nat} {es : Ents} {clock : Nat} : goRGC (some (.map es clock)) m d call l a h K = ∀ b, h b = none → later call l ⟨put a.t d (.ptr b 0), a.d⟩ (hadd h b (.iter (some m) clock [] clock)) K := rfl
/-- The next entry: whichever may come. -/
def goNXM (o : Option AObj) (m since : Nat) (seen : List Nat) (stepped b : Nat) (d : Option Nat) (call : CP) (l : List IOp) (a : A) (h : H) (K : A → H → Prop) : Prop :=
  match o with
  | some (.map es clock) => (!seen.isEmpty && !es.isEmpty && es.all fun e => decide (stepped ≤ e.2.2)) = false ∧
          ∀ x ∈ candidates es since seen, match x with
            | some e => opsE call l ⟨put a.t d (.tup [.bool true, e.1, e.2.1]), a.d⟩ (hadd h b (.iter (some m) since (seen ++ [e.2.2]) clock)) K
            | none => opsE call l ⟨put a.t d (.tup [.bool false]), a.d⟩ h K
  | _ => False
def goNXC (o : Option AObj) (b : Nat) (d : Option Nat) (call : CP) (l : List IOp) (a : A) (h : H) (K : A → H → Prop) : Prop :=
  match o with
  | some (.iter none _ _ _) => opsE call l ⟨put a.t d (.tup [.bool false]), a.d⟩ h K
  | some (.iter (some m) since seen stepped) => goNXM (h m) m since seen stepped b d call l a h K
  | _ => False
def goNX (x : V) (d : Option Nat) (call : CP) (l : List IOp) (a : A) (h : H) (K : A → H → Prop) : Prop :=
  match x with | .ptr b 0 => goNXC (h b) b d call l a h K | _ => False
theorem opsE_next' (x : Opd) : opsE call (⟨d, none, .h (.next x), i, w⟩ :: l) a h K = goNX (x.ev a.t) d call l a h K := by
  rw [opsE_next]
  simp only [HK.E, later]
  generalize x.ev a.t = v
  split
  · rename_i b
    show _ = goNXC (h b) b d call l a h K
    unfold goNXC goNXM
    generalize h b = o
    rcases o with _ | ob
    · rfl
    · cases ob <;> rfl
  · rename_i hne
    unfold goNX
    split
    · rename_i b; exact (hne b rfl).elim
    · rfl
theorem goNX_ptr {b : Nat} : goNX (.ptr b 0) d call l a h K = goNXC (h b) b d call l a h K := rfl
theorem goNXC_none {b s t : Nat} {se : List Nat} : goNXC (some (.iter none s se t)) b d call l a h K = opsE call l ⟨put a.t d (.tup [.bool false]), a.d⟩ h K := rfl
theorem goNXC_some {m b s t : Nat} {se : List Nat} : goNXC (some (.iter (some m) s se t)) b d call l a h K = goNXM (h m) m s se t b d call l a h K := rfl
/-- An unchanged map's range: what was seen, what is left. -/
structure Half (es : Ents) (clock : Nat) (seen : List Nat) (done rest : Ents) : Prop where
  perm : (done ++ rest).Perm es
  seen : seen = done.map fun e => e.2.2
  nodup : (es.map fun e => e.2.2).Nodup
  old : ∀ e ∈ es, e.2.2 < clock
theorem Half.start {es : Ents} {clock : Nat} (hn : (es.map fun e => e.2.2).Nodup) (ho : ∀ e ∈ es, e.2.2 < clock) : Half es clock [] [] es := ⟨by simp, rfl, hn, ho⟩
theorem goNXM_half {es done rest : Ents} {clock m b : Nat} {seen : List Nat} (H : Half es clock seen done rest)
    (hend : rest = [] → opsE call l ⟨put a.t d (.tup [.bool false]), a.d⟩ h K)
    (hstep : ∀ e r1 r2, rest = r1 ++ e :: r2 → e ∈ es → Half es clock (seen ++ [e.2.2]) (done ++ [e]) (r1 ++ r2) → opsE call l ⟨put a.t d (.tup [.bool true, e.1, e.2.1]), a.d⟩ (hadd h b (.iter (some m) clock (seen ++ [e.2.2]) clock)) K) :
    goNXM (some (.map es clock)) m clock seen clock b d call l a h K := by
  obtain ⟨hp, hs, hn, ho⟩ := H
  refine ⟨?_, fun x hx => ?_⟩
  · cases es with
    | nil => simp
    | cons e es =>
      have : ¬ clock ≤ e.2.2 := by have := ho e (by simp); omega
      simp [this]
  · have hnd : ((done ++ rest).map fun e => e.2.2).Nodup := (hp.map _).nodup_iff.2 hn
    rw [List.map_append, List.nodup_append] at hnd
    have hin : ∀ e, e ∈ es ↔ e ∈ done ∨ e ∈ rest := fun e => by rw [← hp.mem_iff, List.mem_append]
    have hleft : ∀ e, e ∈ es.filter (fun e => !seen.contains e.2.2) ↔ e ∈ rest := by
      intro e
      rw [List.mem_filter, hin, hs]
      simp only [Bool.not_eq_true', List.contains_eq_mem, decide_eq_false_iff_not]
      constructor
      · rintro ⟨hd | hr, hc⟩
        · exact (hc (List.mem_map.2 ⟨e, hd, rfl⟩)).elim
        · exact hr
      · intro hr
        exact ⟨.inr hr, fun hm => hnd.2.2 _ hm _ (List.mem_map.2 ⟨e, hr, rfl⟩) rfl⟩
    have hsp : ∀ e ∈ rest, ∃ r1 r2, rest = r1 ++ e :: r2 := fun e he => List.append_of_mem he
    simp only [candidates] at hx
    rw [List.mem_append] at hx
    rcases hx with hx | hx
    · split at hx
      · rename_i hem
        simp only [List.mem_singleton] at hx
        subst hx
        refine hend ?_
        cases rest with
        | nil => rfl
        | cons e rest =>
          have h1 := (hleft e).2 (by simp)
          have h2 : e ∈ (es.filter (fun e => !seen.contains e.2.2)).filter (fun e => decide (e.2.2 < clock)) := List.mem_filter.2 ⟨h1, by simpa using ho e ((List.mem_filter.1 h1).1)⟩
          rw [List.isEmpty_iff] at hem
          rw [hem] at h2; cases h2
      · cases hx
    · rw [List.mem_map] at hx
      obtain ⟨e, he, rfl⟩ := hx
      have he' : e ∈ es.filter (fun e => !seen.contains e.2.2) := by
        rcases List.mem_append.1 he with he | he <;> exact List.mem_filter.2 ⟨(List.mem_filter.1 (List.mem_filter.1 he).1).1, (List.mem_filter.1 (List.mem_filter.1 he).1).2⟩
      have hr := (hleft e).1 he'
      obtain ⟨r1, r2, rfl⟩ := hsp e hr
      exact hstep e r1 r2 rfl (List.mem_filter.1 he').1 ⟨by rw [List.append_assoc]; refine List.Perm.trans ?_ hp; exact List.Perm.append_left done (List.perm_middle (a := e) (l₁ := r1) (l₂ := r2)).symm, by rw [hs]; simp, hn, ho⟩
theorem findBorn_mem {es : Ents} {e : V × V × Nat} (hn : (es.map fun e => e.2.2).Nodup) (he : e ∈ es) : findBorn e.2.2 es = some (e.1, e.2.1) := by
  induction es with
  | nil => cases he
  | cons x es ih =>
    obtain ⟨k, u, n⟩ := x
    rw [List.map_cons, List.nodup_cons] at hn
    simp only [findBorn]
    rcases List.mem_cons.1 he with rfl | he
    · simp
    · have : n ≠ e.2.2 := fun eq => hn.1 (by rw [eq]; exact List.mem_map.2 ⟨e, he, rfl⟩)
      rw [if_neg (by simpa using this)]
      exact ih hn.2 he
def enM (o : Option AObj) (stepped : Nat) (last : Option Nat) : Option V := match o with
  | some (.map es clock) => match last with
    | some n => if clock = stepped then (findBorn n es).map fun (k, v) => .tup [k, v] else none
    | none => none
  | _ => none
def enC (o : Option AObj) (h : H) : Option V := match o with
  | some (.iter (some m) _ seen stepped) => enM (h m) stepped seen.getLast?
  | _ => none
def enE (v : V) (h : H) : Option V := match v with | .ptr i 0 => enC (h i) h | _ => none
theorem rk_entry {ρ : Opd → V} {x : Opd} : RK.ev ρ h (.entry x) = enE (ρ x) h := by
  simp only [RK.ev]
  generalize ρ x = v
  split
  · rename_i b
    show _ = enC (h b) h
    unfold enC enM
    generalize h b = o
    rcases o with _ | ob
    · rfl
    · cases ob <;> rfl
  · rename_i hne
    unfold enE
    split
    · rename_i b; exact (hne b rfl).elim
    · rfl
theorem en_ptr {b : Nat} : enE (.ptr b 0) h = enC (h b) h := rfl
theorem enC_iter {m s t : Nat} {seen : List Nat} : enC (some (.iter (some m) s seen t)) h = enM (h m) t seen.getLast? := rfl
theorem enM_at {es : Ents} {clock n : Nat} : enM (some (.map es clock)) clock (some n) = (findBorn n es).map fun (k, v) => .tup [k, v] := by simp [enM]
theorem getLast_snoc {α : Type} {l : List α} {x : α} : (l ++ [x]).getLast? = some x := by simp
/-! ### Cloning a map -/
def goCLC (o : Option AObj) (ty : Nat) (d : Option Nat) (call : CP) (l : List IOp) (a : A) (h : H) (K : A → H → Prop) : Prop :=
  match o with | some (.map es clock) => ∀ b, h b = none → later call l ⟨put a.t d (.iface ty (.map b)), a.d⟩ (hadd h b (.map es clock)) K | _ => False
def goCL (x : V) (d : Option Nat) (call : CP) (l : List IOp) (a : A) (h : H) (K : A → H → Prop) : Prop :=
  match x with | .iface ty (.map m) => goCLC (h m) ty d call l a h K | _ => False
theorem opsE_clone' (x : Opd) : opsE call (⟨d, none, .h (.clone x), i, w⟩ :: l) a h K = goCL (x.ev a.t) d call l a h K := by
  rw [opsE_clone]
  simp only [HK.E, goCL]
  generalize x.ev a.t = v
  split
  · rfl
  · rename_i hne
    split
    · exact (hne _ _ rfl).elim
    · rfl
theorem goCL_map {ty m : Nat} : goCL (.iface ty (.map m)) d call l a h K = goCLC (h m) ty d call l a h K := rfl
theorem goCLC_map {ty : Nat} {es : Ents} {clock : Nat} : goCLC (some (.map es clock)) ty d call l a h K = ∀ b, h b = none → later call l ⟨put a.t d (.iface ty (.map b)), a.d⟩ (hadd h b (.map es clock)) K := rfl
/-! ### Appending -/
def srcC (o : Option AObj) (es off n : Nat) : Option (Nat × List V) := match o with
  | some (.cells cs _) => if off + n * es ≤ cs.length then some (n, (cs.drop off).take (n * es)) else none
  | _ => none
theorem src_nil {es : Nat} : srcCells es h .nilsl = some (0, []) := rfl
theorem src_str {s : List UInt8} : srcCells 1 h (.str s) = some (s.length, bytesIn s) := rfl
theorem src_sl {b o es n : Nat} : srcCells es h (.sl b o es n) = srcC (h b) es o n := by
  simp only [srcCells, srcC, true_and]
  generalize h b = o
  rcases o with _ | ob
  · rfl
  · cases ob <;> rfl
theorem srcC_cells {cs : List V} {ro : Bool} {es o n : Nat} (c : o + n * es ≤ cs.length) : srcC (some (.cells cs ro)) es o n = some (n, (cs.drop o).take (n * es)) := by simp [srcC, c]
def goApC (ob : Option AObj) (b o es len bytes n : Nat) (new : List V) (d : Option Nat) (call : CP) (l : List IOp) (a : A) (h : H) (K : A → H → Prop) : Prop :=
  match ob with
  | some (.cells cs false) => o + len * es ≤ cs.length ∧ (len + n) * bytes ≤ 1099511627776 ∧ len + n ≤ 1099511627776 ∧
      ∀ b', b' ≠ b → h b' = none → later call l ⟨put a.t d (.sl b' 0 es (len + n)), a.d⟩ (hadd (hset h b none) b' (.cells ((cs.drop o).take (len * es) ++ new) false)) K
  | _ => False
def goAp (src : Option (Nat × List V)) (es bytes : Nat) (x : V) (d : Option Nat) (call : CP) (l : List IOp) (a : A) (h : H) (K : A → H → Prop) : Prop :=
  match src with
  | none => False
  | some (n, new) =>
    match x with
    | .nilsl => if n = 0 then opsE call l ⟨put a.t d .nilsl, a.d⟩ h K else n * bytes ≤ 1099511627776 ∧ n ≤ 1099511627776 ∧ ∀ b', h b' = none → later call l ⟨put a.t d (.sl b' 0 es n), a.d⟩ (hadd h b' (.cells new false)) K
    | .sl b o es' len => if n = 0 then es = es' ∧ opsE call l ⟨put a.t d (.sl b o es len), a.d⟩ h K else es = es' ∧ goApC (h b) b o es len bytes n new d call l a h K
    | _ => False
theorem opsE_app' (es bytes : Nat) (x y : Opd) : opsE call (⟨d, none, .h (.app es bytes x y), i, w⟩ :: l) a h K = goAp (srcCells es h (y.ev a.t)) es bytes (x.ev a.t) d call l a h K := by
  rw [opsE_app]
  simp only [HK.E, goAp, goApC, later]
  cases srcCells es h (y.ev a.t) with
  | none => rfl
  | some p =>
    obtain ⟨n, new⟩ := p
    dsimp only
    cases x.ev a.t <;> try rfl
    rename_i b o es' len
    dsimp only
    split
    · rfl
    · cases h b with
      | none => simp
      | some ob =>
        cases ob <;> try simp
        rename_i cs ro
        cases ro <;> simp
theorem ap_nil0 {es bytes : Nat} {new : List V} : goAp (some (0, new)) es bytes .nilsl d call l a h K = opsE call l ⟨put a.t d .nilsl, a.d⟩ h K := by simp [goAp]
theorem ap_nil {es bytes n : Nat} {new : List V} (hn : n ≠ 0) (c : n * bytes ≤ 1099511627776 ∧ n ≤ 1099511627776) : goAp (some (n, new)) es bytes .nilsl d call l a h K = ∀ b', h b' = none → later call l ⟨put a.t d (.sl b' 0 es n), a.d⟩ (hadd h b' (.cells new false)) K := by
  simp [goAp, hn, c]
theorem ap_sl0 {es bytes b o len : Nat} {new : List V} : goAp (some (0, new)) es bytes (.sl b o es len) d call l a h K = opsE call l ⟨put a.t d (.sl b o es len), a.d⟩ h K := by simp [goAp]
theorem ap_sl {es bytes b o len n : Nat} {new : List V} (hn : n ≠ 0) : goAp (some (n, new)) es bytes (.sl b o es len) d call l a h K = goApC (h b) b o es len bytes n new d call l a h K := by
  simp [goAp, hn]
theorem apC_cells {cs new : List V} {b o es len bytes n : Nat} (c : o + len * es ≤ cs.length ∧ (len + n) * bytes ≤ 1099511627776 ∧ len + n ≤ 1099511627776) : goApC (some (.cells cs false)) b o es len bytes n new d call l a h K =
      ∀ b', b' ≠ b → h b' = none → later call l ⟨put a.t d (.sl b' 0 es (len + n)), a.d⟩ (hadd (hset h b none) b' (.cells ((cs.drop o).take (len * es) ++ new) false)) K := by
  simp [goApC, c]
/-! ### Places -/
theorem ne_fresh {b p : Nat} {o : AObj} (hp : h p = some o) (hb : h b = none) : p ≠ b := fun e => by subst e; rw [hb] at hp; cases hp
theorem hset_ne' {b i : Nat} {o : Option AObj} (e : i ≠ b) : hset h b o i = h i := by simp [hset, e]
theorem hset_same {b : Nat} {o : Option AObj} : hset h b o b = o := by simp [hset]
theorem box_eq {x : V} {vs : List V} (e : x = .agg vs) (hv : vs.all V.flat = true) : boxE x = some (.cells vs false, fun b => .ptr b 0) := by subst e; exact box_agg hv
attribute [go_sem] opsE_rangeStr' goRS_str opsE_nextStr' goNS_ptr opsE_range' goRG_nil goRG_map goRGC_map opsE_next' goNX_ptr goNXC_none goNXC_some rk_entry en_ptr enC_iter enM_at getLast_snoc opsE_clone' goCL_map goCLC_map src_nil src_str src_sl opsE_app' ap_nil0 ap_sl0 hset_same
end Mir
