/- The B-machine, part 14: facts for proofs about code. -/
import Derived.Test.YthpaolkonlhjfaaAm34
import Derived.IntWalk
set_option linter.all false
namespace Go.Am

theorem wrap_id {n : Int} (h0 : -9223372036854775808 ≤ n) (h1 : n ≤ 9223372036854775807) : IntKind.i64.wrap n = n := by rw [IntKind.wrap_i64]; omega
theorem wrap_nat {n : Nat} (h : n ≤ 9223372036854775807) : IntKind.i64.wrap (n : Int) = n := wrap_id (by omega) (by omega)
theorem wrap_succ {n : Nat} (h : n < 9223372036854775807) : IntKind.i64.wrap ((n : Int) + 1) = ((n + 1 : Nat) : Int) := by rw [wrap_id] <;> omega

theorem allL_iff {f : V → Bool} : ∀ {l : List V}, allL f l = true ↔ ∀ v ∈ l, f v = true
  | [] => by simp [allL]
  | v :: l => by simp [allL, allL_iff (l := l)]

/-- A pure tree is renamed, given, to itself. -/
theorem ren_ok {H : Nat → Option Blk} {r : List Nat} : ∀ {d : Nat} {v : V}, okD d v = true → ren H r d v = some (v, [])
  | 0, v, h => by simp [okD] at h
  | d + 1, v, h => by
    have lst : ∀ (vs : List V), allL (okD d) vs = true → overL (ren H r d) vs = some (vs, []) := by
      intro vs
      induction vs with
      | nil => intro _; rfl
      | cons v vs ih =>
        intro h
        simp only [allL, Bool.and_eq_true] at h
        exact overL_mk (L1 := []) (L2 := []) (ren_ok h.1) (ih h.2)
    cases v <;> simp only [okD, Bool.false_eq_true] at h <;> simp only [ren]
    case st cs => rw [lst cs h]
    case cl f cs => rw [List.isEmpty_iff] at h; subst h; rfl
theorem overL_ren {H : Nat → Option Blk} {r : List Nat} {d : Nat} : ∀ {vs : List V}, allL (okD d) vs = true → overL (ren H r d) vs = some (vs, [])
  | [], _ => rfl
  | v :: vs, h => by
    simp only [allL, Bool.and_eq_true] at h
    exact overL_mk (L1 := []) (L2 := []) (ren_ok h.1) (overL_ren h.2)
theorem giveB_ok {H : Nat → Option Blk} : ∀ {d : Nat} {v : V}, okD d v = true → giveB d H v = some (v, [])
  | 0, v, h => by simp [okD] at h
  | d + 1, v, h => by
    have lst : ∀ (vs : List V), allL (okD d) vs = true → overL (giveB d H) vs = some (vs, []) := by
      intro vs
      induction vs with
      | nil => intro _; rfl
      | cons v vs ih =>
        intro h
        simp only [allL, Bool.and_eq_true] at h
        exact overL_mk (L1 := []) (L2 := []) (giveB_ok h.1) (ih h.2)
    have h0 := h
    cases v <;> simp only [okD, Bool.false_eq_true] at h <;> simp only [giveB]
    case st cs => rw [lst cs h]
    case cl f cs => rw [List.isEmpty_iff] at h; subst h; rfl
    case ow k es => rw [if_pos h0]
    case op v => rw [if_pos h0]
theorem overL_giveB {H : Nat → Option Blk} {d : Nat} : ∀ {vs : List V}, allL (okD d) vs = true → overL (giveB d H) vs = some (vs, [])
  | [], _ => rfl
  | v :: vs, h => by
    simp only [allL, Bool.and_eq_true] at h
    exact overL_mk (L1 := []) (L2 := []) (giveB_ok h.1) (overL_giveB h.2)

/-- A slice that fills its block, handed over. -/
theorem giveB_hs {H : Nat → Option Blk} {d b : Nat} {B : Blk} (hB : H b = some B) (h : allL (okD d) B.es = true) {n c : Nat} (hn : n = B.es.length) : giveB (d + 1) H (.hs b 0 n c) = some (.ow B.k B.es, [b]) := by
  subst hn
  simp only [giveB, hB]
  rw [if_pos (by omega)]
  simp only [List.drop_zero, List.take_length, overL_giveB h]

/-- A canonical state. -/
theorem nmS_of {L r ids : List Nat} {bs : List (Option Blk)} {s : S} {e : List (Nat × V)} (hr : dedup (L.flatMap fun t => refs 3 (s.e t)) = r) (hb : renBs s.H r r = some (bs, ids)) (hn : (ids ++ r).Nodup)
    (he : (L.map fun t => (t, match ren s.H r 3 (s.e t) with | some (v, []) => v | _ => V.un)) = e) : nmS L s = some ⟨envA e, heapA bs, r.length, false⟩ := by
  unfold nmS
  simp only [hr, hb]
  rw [if_pos hn, ← he]
  rfl
theorem renBs_nil {H : Nat → Option Blk} {r : List Nat} : renBs H r [] = some ([], []) := rfl
theorem renBs_cons {H : Nat → Option Blk} {r : List Nat} {b : Nat} {rs : List Nat} {B : Blk} {es : List V} {i j : List Nat} {bs : List (Option Blk)} (hB : H b = some B) (he : overL (ren H r DEP) B.es = some (es, i)) (hr : renBs H r rs = some (bs, j)) :
    renBs H r (b :: rs) = some (some ⟨B.k, es, B.fr⟩ :: bs, i ++ j) := by
  simp only [renBs, hB, he, Option.map_some, hr]
/-- One block of pure elements. -/
theorem renBs_one {H : Nat → Option Blk} {r : List Nat} {b : Nat} {rs : List Nat} {B : Blk} {j : List Nat} {bs : List (Option Blk)} (hB : H b = some B) (he : allL (okD DEP) B.es = true) (hr : renBs H r rs = some (bs, j)) :
    renBs H r (b :: rs) = some (some B :: bs, j) := by
  rw [renBs_cons hB (overL_ren he) hr]; rfl


section
variable {Γ : Env} {T : Nat → Option FB} {s : S} {K : V → S → Prop}
theorem wo_ms {z : V} {q : Option Nat} {l c : O} {n m : Nat} (hl : val s.e l = .i n) (hc : val s.e c = .i m) (h1 : n ≤ m) (h2 : m ≤ LIM) (hf : z.fits q = true) (k : K (.hs s.nx 0 n m) (s.new (ksz q) (List.replicate m z))) : WO Γ T (.ms z q l c) s K := by
  refine wo_of (v := .hs s.nx 0 n m) (s1 := s.new (ksz q) (List.replicate m z)) ?_ k
  simp only [opB, opA, hl, hc]
  rw [if_pos ⟨by omega, by omega, by omega, hf⟩]
  rfl
theorem wo_iah0 {q : Option Nat} {x i : O} {b m c j : Nat} {B : Blk} (hx : val s.e x = .hs b 0 m c) (hi : val s.e i = .i (j : Nat)) (hB : s.H b = some B) (h1 : j < m) (hk : B.k = ksz q) (k : K (.hp b j) s) : WO Γ T (.ia q x i) s K :=
  wo_iah hx hi hB (by omega) (by omega) hk (by simpa using k)
theorem wo_so {q : Option Nat} {p x : O} {b i : Nat} {B : Blk} (hp : val s.e p = .hp b i) (hB : s.H b = some B) (hfr : B.fr = false) (hi : i < B.es.length) (hk : B.k = ksz q) (hf : (val s.e x).fits q = true)
    (k : K .un { s with H := upd s.H b (some { B with es := B.es.set i (val s.e x) }) }) : WO Γ T (.so q p x) s K := by
  refine wo_of (v := .un) ?_ k
  simp only [opB, opA, hp, storeAt, hB]
  rw [if_pos ⟨hfr, hi, hk, hf⟩]
end


theorem fill_full {α : Type} (f : α → V) (l : List α) (z : V) : (l.take l.length).map f ++ List.replicate (l.length - l.length) z = l.map f := by simp
/-- A made slice is filled from the front. -/
theorem fill_set {α : Type} (f : α → V) (l : List α) (z : V) {i : Nat} (hi : i < l.length) : ((l.take i).map f ++ List.replicate (l.length - i) z).set i (f l[i]) = (l.take (i + 1)).map f ++ List.replicate (l.length - (i + 1)) z := by
  rw [List.set_append_right _ _ (by simp; omega)]
  have h1 : (l.take i).length = i := by simp; omega
  simp only [List.length_map, h1, Nat.sub_self]
  rw [show l.length - i = (l.length - (i + 1)) + 1 by omega, List.replicate_succ, List.set_cons_zero, List.take_succ_eq_append_getElem hi, List.map_append, List.append_assoc]
  rfl


theorem overL_app {f : V → Option (V × List Nat)} : ∀ {as bs ts us : List V} {L K : List Nat}, overL f as = some (ts, L) → overL f bs = some (us, K) → overL f (as ++ bs) = some (ts ++ us, L ++ K)
  | [], bs, ts, us, L, K, h, k => by simp only [overL, Option.some.injEq, Prod.mk.injEq] at h; obtain ⟨rfl, rfl⟩ := h; simpa using k
  | a :: as, bs, ts, us, L, K, h, k => by
    obtain ⟨t, ts', i, j, h2, h3, rfl, rfl⟩ := overL_cons h
    have := overL_mk h2 (overL_app h3 k)
    simpa using this

/-- A list of pure elements, one of which is another. -/
theorem overL_set {f : V → Option (V × List Nat)} {v t : V} {ids : List Nat} (hv : f v = some (t, ids)) : ∀ {es : List V} {i : Nat}, overL f es = some (es, []) → i < es.length → overL f (es.set i v) = some (es.set i t, ids)
  | [], i, _, hi => by simp at hi
  | e :: es, 0, h, _ => by
    obtain ⟨t', ts', a, b, h2, h3, e1, e2⟩ := overL_cons h
    obtain ⟨rfl, rfl⟩ := List.cons.inj e1
    obtain ⟨rfl, rfl⟩ := List.append_eq_nil_iff.1 e2.symm
    have := overL_mk hv h3
    simpa using this
  | e :: es, i + 1, h, hi => by
    obtain ⟨t', ts', a, b, h2, h3, e1, e2⟩ := overL_cons h
    obtain ⟨rfl, rfl⟩ := List.cons.inj e1
    obtain ⟨rfl, rfl⟩ := List.append_eq_nil_iff.1 e2.symm
    have := overL_mk h2 (overL_set hv h3 (by simpa using hi))
    simpa using this

/-- A slice that fills its block, packed. -/
theorem packB_hs {H : Nat → Option Blk} {d b : Nat} {B : Blk} (hB : H b = some B) (h : overL (packB d H) B.es = some (B.es, [])) {n c : Nat} (hn : n = B.es.length) (hc : c = n) : packB (d + 1) H (.hs b 0 n c) = some (.ow B.k B.es, [b]) := by
  subst hc; subst hn
  simp only [packB, hB, and_self, if_true, h]
theorem packB_ok {H : Nat → Option Blk} : ∀ {d : Nat} {v : V}, okD d v = true → packB d H v = some (v, [])
  | 0, v, h => by simp [okD] at h
  | d + 1, v, h => by
    have lst : ∀ (vs : List V), allL (okD d) vs = true → overL (packB d H) vs = some (vs, []) := by
      intro vs
      induction vs with
      | nil => intro _; rfl
      | cons v vs ih =>
        intro h
        simp only [allL, Bool.and_eq_true] at h
        exact overL_mk (L1 := []) (L2 := []) (packB_ok h.1) (ih h.2)
    cases v <;> simp only [okD, Bool.false_eq_true] at h <;> simp only [packB]
    case st cs => rw [lst cs h]
    case cl f cs => rw [List.isEmpty_iff] at h; subst h; rfl
theorem overL_packB {H : Nat → Option Blk} {d : Nat} : ∀ {vs : List V}, allL (okD d) vs = true → overL (packB d H) vs = some (vs, [])
  | [], _ => rfl
  | v :: vs, h => by
    simp only [allL, Bool.and_eq_true] at h
    exact overL_mk (L1 := []) (L2 := []) (packB_ok h.1) (overL_packB h.2)
theorem ren_hs {H : Nat → Option Blk} {r : List Nat} {d b : Nat} {B : Blk} (hr : posOf r b = none) (hB : H b = some B) (h : allL (okD d) B.es = true) {n c : Nat} (hn : n = B.es.length) (hc : c = n) : ren H r (d + 1) (.hs b 0 n c) = some (.ow B.k B.es, [b]) := by
  simp only [ren, hr]
  exact packB_hs hB (overL_packB h) hn hc


theorem overL_map {α : Type} {f : V → Option (V × List Nat)} {g h : α → V} : ∀ {l : List α}, (∀ x ∈ l, f (g x) = some (h x, [])) → overL f (l.map g) = some (l.map h, [])
  | [], _ => rfl
  | x :: l, hf => by
    have := overL_mk (hf x (by simp)) (overL_map (l := l) fun y hy => hf y (by simp [hy]))
    simpa using this

section
variable {Γ : Env} {T : Nat → Option FB} {s : S} {K : V → S → Prop}
/-- The call of a function value. -/
theorem wo_callv {f : Nat} {fo : O} {xs : List O} {ms : List M} {ts us vs caps : List V} {rs os : List Nat} {t v : V} {s1 s2 : S} (hf : fnOf (val s.e fo) = some (f, caps)) (hu : (xs.all fun x => !isUn (val s.e x)) = true) (hv : xs.map (val s.e) ++ caps = vs) (hm : Γ.md f = some ms)
    (hh : handB s.H ms vs = some (ts, rs, os)) (hn : os.Nodup ∧ ∀ b ∈ os, b ∉ rs)
    (hc : CALLB Γ T f ms ts = some (t, us)) (hr : (rs.isEmpty || (free DEP t && allL (free DEP) us)) = true) (hb : backLB s.H (lent ms vs) us (s.mem (kill s.H os)) = some s1) (ht : takeB DEP t s1 = some (v, s2)) (k : K v s2) :
    WO Γ T (.ca fo xs) s K := by
  refine wo_of (v := v) (s1 := s2) ?_ k
  have hfu : isUn (val s.e fo) = false := by
    cases hh : isUn (val s.e fo) with
    | false => rfl
    | true => rw [isUn_iff.1 hh] at hf; cases hf
  have h1 : ((fo :: xs).all fun x => !isUn (val s.e x)) = true := by simp only [List.all_cons, Bool.and_eq_true]; exact ⟨by rw [hfu]; rfl, hu⟩
  simp only [opB]
  rw [if_pos h1]
  have hc' : isoB Γ T (EXB Γ T) f ms ts = some (t, us) := hc
  unfold callB
  simp only [hf, hm, hv, hh]
  rw [if_pos hn, hc']
  simp only [hr, if_true, hb]
  exact ht
/-- The same, where the arguments are only read and the result shares nothing. -/
theorem wo_callr {f : Nat} {fo : O} {xs : List O} {ts vs caps : List V} {rs : List Nat} {t v : V} {s2 : S} (hf : fnOf (val s.e fo) = some (f, caps)) (hu : (xs.all fun x => !isUn (val s.e x)) = true) (hv : xs.map (val s.e) ++ caps = vs) (hm : Γ.md f = some [])
    (hh : handB s.H [] vs = some (ts, rs, [])) (hc : CALLB Γ T f [] ts = some (t, [])) (hr : (rs.isEmpty || free DEP t) = true) (ht : takeB DEP t s = some (v, s2)) (k : K v s2) : WO Γ T (.ca fo xs) s K := by
  have hl : lent ([] : List M) vs = [] := lent_ro [] vs rfl
  refine wo_callv hf hu hv hm hh ⟨List.nodup_nil, by simp⟩ hc ?_ (s1 := s) ?_ ht k
  · simpa [allL] using hr
  · rw [hl, kill_nil]; rfl
end


theorem giveB_st {H : Nat → Option Blk} {d : Nat} {cs ts : List V} {i : List Nat} (h : overL (giveB d H) cs = some (ts, i)) : giveB (d + 1) H (.st cs) = some (.st ts, i) := by simp only [giveB, h]
theorem snapB_st {H : Nat → Option Blk} {d : Nat} {cs ts : List V} {i : List Nat} (h : overL (snapB d H) cs = some (ts, i)) : snapB (d + 1) H (.st cs) = some (.st ts, i) := by simp only [snapB, h]
theorem snapB_hs {H : Nat → Option Blk} {d b : Nat} {B : Blk} {ts : List V} (hB : H b = some B) (h : overL (snapB d H) B.es = some (ts, [])) {n c : Nat} (hn : n = B.es.length) : snapB (d + 1) H (.hs b 0 n c) = some (.sl ts, [b]) := by
  subst hn
  simp only [snapB, hB]
  rw [if_pos (by omega)]
  simp only [List.drop_zero, List.take_length, h]
theorem takeB_ow {d k : Nat} {es : List V} {s : S} (h : allL (okD d) es = true) : takeB (d + 1) (.ow k es) s = some (.hs s.nx 0 es.length es.length, s.new k es) := by
  simp only [takeB]
  rw [if_pos (show okD (d + 1) (.ow k es) = true from h)]

end Go.Am
