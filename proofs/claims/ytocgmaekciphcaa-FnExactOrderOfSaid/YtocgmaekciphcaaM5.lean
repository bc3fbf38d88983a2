/-
  A machine of trees and its soundness over the model, part 5.
-/
import Derived.Test.YtocgmaekciphcaaM4
import Derived.Orders
set_option linter.all false
/- The A-machine, part 18: operations that may change places. -/
namespace Go.Am
variable {P : Program} {St Mine : Nat → Prop} {w : World}

/-- The same, with other variables. -/
def S.wi (s : S) (e : Nat → V) : S := { s with e := e }
abbrev wiR (e : Nat → V) (r : V × S) : V × S := (r.1, r.2.wi e)
abbrev wiL (e : Nat → V) (r : List V × S) : List V × S := (r.1, r.2.wi e)

theorem takeL_wi {f : V → S → Option (V × S)} {e : Nat → V} (hf : ∀ v s, f v (s.wi e) = (f v s).map (wiR e)) : ∀ (vs : List V) (s : S), takeL f vs (s.wi e) = (takeL f vs s).map (wiL e)
  | [], s => rfl
  | v :: vs, s => by
    simp only [takeL]
    rw [hf]
    cases f v s with
    | none => rfl
    | some r =>
      obtain ⟨t, s1⟩ := r
      simp only [Option.map_some]
      rw [takeL_wi hf vs s1]
      cases takeL f vs s1 <;> rfl

theorem takeIn_wi (e : Nat → V) : ∀ (d : Nat) (v : V) (s : S), takeIn d v (s.wi e) = (takeIn d v s).map (wiR e)
  | 0, _, _ => rfl
  | d + 1, v, s => by
    have hL := takeL_wi (takeIn_wi e d)
    cases v <;> simp only [takeIn]
    case st cs => rw [hL]; cases takeL (takeIn d) cs s <;> rfl
    case tu cs => rw [hL]; cases takeL (takeIn d) cs s <;> rfl
    case cl f cs => rw [hL]; cases takeL (takeIn d) cs s <;> rfl
    case ow k es => rw [hL]; cases takeL (takeIn d) es s <;> rfl
    case op v => rw [takeIn_wi e d]; cases takeIn d v s <;> rfl
    all_goals rfl

theorem backV_wi (e : Nat → V) (old : Nat → Option Blk) (v t : V) (s : S) : backV old v t (s.wi e) = (backV old v t s).map (S.wi · e) := by
  unfold backV
  split
  · split
    · split <;> rfl
    · split
      · split
        · rw [takeL_wi (takeIn_wi e DEP)]
          rename_i es _ _ _ _ _
          cases takeL (takeIn DEP) es s <;> rfl
        · rfl
      · rfl
  · split
    · split
      · rw [takeIn_wi e DEP]
        rename_i v _ _ _ _
        cases takeIn DEP v s <;> rfl
      · rfl
    · rfl
  · split <;> rfl
  all_goals rfl

theorem backVs_wi (e : Nat → V) (old : Nat → Option Blk) : ∀ (vs ts : List V) (s : S), backVs old vs ts (s.wi e) = (backVs old vs ts s).map (S.wi · e)
  | [], [], s => rfl
  | [], _ :: _, s => rfl
  | _ :: _, [], s => rfl
  | v :: vs, t :: ts, s => by
    simp only [backVs]
    rw [backV_wi]
    cases backV old v t s with
    | none => rfl
    | some s1 => simp only [Option.map_some]; rw [backVs_wi e old vs ts s1]

theorem back1_wi (e : Nat → V) (old : Nat → Option Blk) (v t : V) (s : S) : back1 old v t (s.wi e) = (back1 old v t s).map (S.wi · e) := by
  unfold back1
  split
  · exact backVs_wi e old _ _ s
  · exact backV_wi e old _ _ s

theorem backL_wi (e : Nat → V) (old : Nat → Option Blk) : ∀ (vs ts : List V) (s : S), backL old vs ts (s.wi e) = (backL old vs ts s).map (S.wi · e)
  | [], [], s => rfl
  | [], _ :: _, s => rfl
  | _ :: _, [], s => rfl
  | v :: vs, t :: ts, s => by
    simp only [backL]
    rw [back1_wi]
    cases back1 old v t s with
    | none => rfl
    | some s1 => simp only [Option.map_some]; rw [backL_wi e old vs ts s1]

theorem ite_map {α β : Type} {c : Prop} [Decidable c] {a : Option β} {b : Option α} {f : α → β} (h : a = b.map f) : (if c then a else none) = (if c then b else none).map f := by split; exact h; rfl

/-- A call does not look at the caller's variables. -/
def CaE (ca : V → List V → S → Option (V × S)) : Prop := ∀ f xs s e, ca f xs (s.wi e) = (ca f xs s).map (wiR e)

theorem callV_wi (Γ : Env) (exk : C → S → Option R) : CaE (callV Γ exk) := by
  intro fv xs s e
  unfold callV
  split
  · rfl
  · rename_i f caps _
    simp only [S.wi]
    split
    · split
      · split
        · split <;> try rfl
          all_goals (split <;> rfl)
        · rfl
      · rfl
    · split
      · rename_i ms _ _ ts rs os _
        refine ite_map ?_
        · split
          · rename_i t us _
            have key : ∀ (r : Option S), ∀ x, x = r.map (S.wi · e) → ∀ (g : Option S → Option (V × S)), (∀ s1, g (some s1) = takeIn DEP t s1) → g none = none → g x = (g r).map (wiR e) := by
              rintro r x rfl g h1 h2
              cases r with
              | none => rw [Option.map_none, h2]; rfl
              | some s1 => rw [Option.map_some, h1, h1, takeIn_wi]
            by_cases hf : free DEP t = true ∧ allL (free DEP) us = true
            · rw [if_pos hf, if_pos hf]
              exact key _ _ (backL_wi e s.H (lent ms (xs ++ caps)) us (s.mem (kill s.H os))) (fun o => match o with | some s1 => takeIn DEP t s1 | none => none) (fun _ => rfl) rfl
            · rw [if_neg hf, if_neg hf]
              exact key _ _ (backL_wi e s.H (lent ms (xs ++ caps)) us { s with H := freeze (kill s.H os) rs, fz := s.fz || !rs.isEmpty }) (fun o => match o with | some s1 => takeIn DEP t s1 | none => none) (fun _ => rfl) rfl
          · rfl
      · rfl

theorem val_wi {s : S} {e : Nat → V} {x : O} (h : ∀ t ∈ x.tm, e t = s.e t) : val e x = val s.e x := by
  cases x with
  | t n => exact h n (by simp [O.tm])
  | _ => rfl

theorem map_val_wi {s : S} {e : Nat → V} {xs : List O} (h : ∀ t ∈ xs.flatMap O.tm, e t = s.e t) : xs.map (val e) = xs.map (val s.e) :=
  List.map_congr_left fun x hx => val_wi fun t ht => h t (List.mem_flatMap.2 ⟨x, hx, ht⟩)

theorem omap_val_wi {s : S} {e : Nat → V} {x : Option O} (h : ∀ t ∈ oTm x, e t = s.e t) : x.map (val e) = x.map (val s.e) := by
  cases x with
  | none => rfl
  | some x => simp only [Option.map_some]; rw [val_wi h]

theorem appendTo_wi (s : S) (e : Nat → V) (q : Option Nat) (x : V) (src : List V) : appendTo (s.wi e) q x src = (appendTo s q x src).map (wiR e) := by
  unfold appendTo
  simp only [S.wi]
  split
  · split
    · rfl
    · split <;> rfl
  · split
    · split
      · split
        · split <;> rfl
        · split <;> rfl
      · rfl
    · rfl
  · rfl

/-- An operation looks at its operands alone. -/
theorem opA_wi {ca : V → List V → S → Option (V × S)} (hca : CaE ca) {s : S} {e : Nat → V} {a : A} (h : ∀ t ∈ a.rd, e t = s.e t) : opA ca (s.wi e) a = (opA ca s a).map (wiR e) := by
  have hw : ∀ x : O, (∀ t ∈ x.tm, t ∈ a.rd) → val e x = val s.e x := fun x hx => val_wi fun t ht => h t (hx t ht)
  cases a <;> simp only [A.rd, List.mem_append] at h hw <;> simp only [opA] <;> try simp only [show (s.wi e).e = e from rfl, show (s.wi e).H = s.H from rfl, show (s.wi e).nx = s.nx from rfl]
  case mv x => rw [hw x (by simp)]; rfl
  case pk c a b => rw [hw c (by simp +contextual), hw a (by simp +contextual), hw b (by simp +contextual)]; split <;> rfl
  case al => split <;> rfl
  case bx q x => rw [hw x (by simp)]; split <;> rfl
  case ld q x => rw [hw x (by simp)]; split; · split <;> rfl
                 rfl
  case so q p x => rw [hw p (by simp +contextual), hw x (by simp +contextual)]; split <;> rfl
  case bi op x y => rw [hw x (by simp +contextual), hw y (by simp +contextual)]; split; · simp only [Option.map_map]; rfl
                    rfl
  case be n x y => rw [hw x (by simp +contextual), hw y (by simp +contextual)]; split <;> rfl
  case un op x => rw [hw x (by simp)]; split; · simp only [Option.map_map]; rfl
                  rfl
  case cv k x => rw [hw x (by simp)]; split <;> rfl
  case fd j x => rw [hw x (by simp)]; split; · simp only [Option.map_map]; rfl
                 rfl
  case fa j x => rw [hw x (by simp)]; split
                 · rename_i cs _
                   cases cs[j]? with
                   | none => rfl
                   | some c => simp only [Option.bind_some]; split <;> rfl
                 · rfl
                 · rfl
  case ia q x i => rw [hw x (by simp +contextual), hw i (by simp +contextual)]; split
                   · split
                     · split <;> rfl
                     · rfl
                   · split
                     · split <;> rfl
                     · rfl
                   · rfl
  case ix x i => rw [hw x (by simp +contextual), hw i (by simp +contextual)]; split
                 · split <;> rfl
                 · rfl
  case ss x lo hi =>
    rw [hw x (by simp +contextual), omap_val_wi (s := s) (x := lo) (fun t ht => h t (by simp [ht])), omap_val_wi (s := s) (x := hi) (fun t ht => h t (by simp [ht]))]
    split
    · split
      · split <;> rfl
      · rfl
    · rfl
  case sc q x lo hi mx =>
    rw [hw x (by simp +contextual), omap_val_wi (s := s) (x := lo) (fun t ht => h t (by simp [ht])), omap_val_wi (s := s) (x := hi) (fun t ht => h t (by simp [ht])), omap_val_wi (s := s) (x := mx) (fun t ht => h t (by simp [ht]))]
    split
    · split
      · simp only [Option.map_map]; rfl
      · split
        · split
          · simp only [Option.map_map]; rfl
          · rfl
        · rfl
    · split
      · simp only [Option.map_map]; rfl
      · rfl
    · simp only [Option.map_map]; rfl
    · rfl
  case bs q xs => rw [map_val_wi (s := s) (e := e) (fun t ht => h t (by simpa using ht))]; split <;> rfl
  case bd z ps =>
    have hm : ∀ p ∈ ps, val e p.2 = val s.e p.2 := fun p hp => val_wi fun t ht => h t (by simpa using ⟨p.1, p.2, hp, ht⟩)
    rw [List.map_congr_left (f := fun p : Nat × O => val e p.2) (g := fun p => val s.e p.2) hm]
    have hf : ∀ (ps : List (Nat × O)) (z : List V), (∀ p ∈ ps, val e p.2 = val s.e p.2) → ps.foldl (fun cs p => cs.set p.1 (val e p.2)) z = ps.foldl (fun cs p => cs.set p.1 (val s.e p.2)) z := by
      intro ps
      induction ps with
      | nil => intro z _; rfl
      | cons p ps ih => intro z hh; simp only [List.foldl_cons]; rw [hh p (by simp), ih _ fun q hq => hh q (by simp [hq])]
    rw [hf ps z hm]
    split <;> rfl
  case ms z q l c => rw [hw l (by simp +contextual), hw c (by simp +contextual)]; split
                     · split <;> rfl
                     · rfl
  case mf f xs => rw [map_val_wi (s := s) (e := e) (fun t ht => h t (by simpa using ht))]; split <;> rfl
  case ca f xs => rw [hw f (by simp +contextual), map_val_wi (s := s) (e := e) (fun t ht => h t (by right; simpa using ht))]; exact hca _ _ s e
  case ap q x y => rw [hw x (by simp +contextual), hw y (by simp +contextual)]; split
                   · split
                     · exact appendTo_wi s e _ _ _
                     · rfl
                   · rfl
  case az q z x n => rw [hw x (by simp +contextual), hw n (by simp +contextual)]; split
                     · split
                       · exact appendTo_wi s e _ _ _
                       · rfl
                     · rfl
  case ln x => rw [hw x (by simp)]; split <;> rfl
  case ls x => rw [hw x (by simp)]; split <;> rfl
  case mm mx xs => rw [map_val_wi (s := s) (e := e) (fun t ht => h t (by simpa using ht))]; split <;> rfl
  case et x i => rw [hw x (by simp)]; split; · simp only [Option.map_map]; rfl
                 rfl
  case sb x => rw [hw x (by simp)]; split
               · split <;> rfl
               · rfl
  case cr q z x => rw [hw x (by simp)]; split
                   · rfl
                   · split
                     · split <;> rfl
                     · rfl
                   · rfl
  case cp x => rw [hw x (by simp)]; split <;> rfl
  case no => rfl

theorem opA_same {ca : V → List V → S → Option (V × S)} (hca : CaE ca) {s s1 : S} {a : A} {v : V} (h : opA ca s a = some (v, s1)) : s1.e = s.e := by
  have := opA_wi hca (s := s) (e := s.e) (a := a) (fun _ _ => rfl)
  rw [show s.wi s.e = s from rfl, h] at this
  simp only [Option.map_some, Option.some.injEq, wiR, Prod.mk.injEq, true_and] at this
  rw [this]; rfl

/-- H' has what H has. -/
def Sub (H H' : Nat → Option Blk) : Prop := ∀ b B, H b = some B → ∃ B', H' b = some B' ∧ B'.es = B.es ∧ B'.k = B.k
theorem Sub.refl (H : Nat → Option Blk) : Sub H H := fun _ B h => ⟨B, h, rfl, rfl⟩
theorem Sub.trans {H H1 H2 : Nat → Option Blk} (h : Sub H H1) (k : Sub H1 H2) : Sub H H2 := fun b B hb => by
  obtain ⟨B1, h1, e1, k1⟩ := h b B hb
  obtain ⟨B2, h2, e2, k2⟩ := k b B1 h1
  exact ⟨B2, h2, e2.trans e1, k2.trans k1⟩

/-- A pure operation looks at no memory. -/
theorem opA_pure {ca : V → List V → S → Option (V × S)} {s s1 : S} {a : A} {v : V} (hp : isPure a = true) (h : opA ca s a = some (v, s1)) : s1 = s ∧ ∀ s', s'.e = s.e → opA ca s' a = some (v, s') := by
  have fin : ∀ {f : (Nat → V) → Option V}, (∀ s, opA ca s a = (f s.e).map fun v => (v, s)) → s1 = s ∧ ∀ s', s'.e = s.e → opA ca s' a = some (v, s') := by
    intro f hf
    rw [hf] at h
    obtain ⟨u, hu, hh⟩ := Option.map_eq_some_iff.1 h
    obtain ⟨rfl, rfl⟩ := Prod.mk.inj hh
    exact ⟨rfl, fun s' he => by rw [hf, he, hu]; rfl⟩
  cases a <;> simp only [isPure, Bool.false_eq_true] at hp
  case mv x => exact fin (f := fun e => some (val e x)) fun s => rfl
  case pk c x y => exact fin (f := fun e => match val e c with | .im (.bool c) => some (if c then val e x else val e y) | _ => none) fun s => by simp only [opA]; split <;> simp_all
  case bi op x y => exact fin (f := fun e => match val e x, val e y with | .im x, .im y => (abin op x y).map .im | _, _ => none) fun s => by simp only [opA]; split <;> simp_all [Option.map_map, Function.comp_def]
  case be n x y => exact fin (f := fun e => match val e x, val e y with | .im (.bool x), .im (.bool y) => some (.b (if n then !(x == y) else x == y)) | _, _ => none) fun s => by simp only [opA]; split <;> simp_all
  case un op x => exact fin (f := fun e => match val e x with | .im x => (aun op x).map .im | _ => none) fun s => by simp only [opA]; split <;> simp_all [Option.map_map, Function.comp_def]
  case cv k x => exact fin (f := fun e => match val e x with | .im (.int _ n) => some (.im (.int k (k.wrap n))) | _ => none) fun s => by simp only [opA]; split <;> simp_all
  case fd j x => exact fin (f := fun e => match val e x with | .st cs => cs[j]? | _ => none) fun s => by simp only [opA]; split <;> simp_all
  case fa j x => exact fin (f := fun e => match val e x with | .rp (.st cs) => (cs[j]?).bind fun c => if c.okc = true then some (.rp c) else none | .hp b i => some (.hf b i j) | _ => none) fun s => by
                  simp only [opA]
                  generalize val s.e x = y
                  cases y <;> try rfl
                  rename_i u
                  cases u <;> try rfl
                  rename_i cs
                  simp only
                  cases cs[j]? with
                  | none => rfl
                  | some c => simp only [Option.bind_some]; split <;> rfl
  case ix x i =>
    exact fin (f := fun e => match asI (val e i), val e x with
      | some i, .im (.string x) => match (if 0 ≤ i then x[i.toNat]? else none) with | some b => some (.u b.toNat) | none => none
      | _, _ => none) fun s => by
        simp only [opA]
        generalize asI (val s.e i) = y
        generalize val s.e x = z
        cases y <;> cases z <;> try rfl
        rename_i i y
        cases y <;> try rfl
        rename_i y
        simp only
        generalize (if 0 ≤ i then y[i.toNat]? else none) = r
        cases r <;> rfl
  case ss x lo hi =>
    exact fin (f := fun e => match val e x with
      | .im (.string x) => match bndOf 0 (lo.map (val e)), bndOf x.size (hi.map (val e)) with
        | some l, some h => if 0 ≤ l ∧ l ≤ h ∧ h ≤ x.size then some (.s (x.extract l.toNat h.toNat)) else none
        | _, _ => none
      | _ => none) fun s => by
        simp only [opA]
        generalize val s.e x = z
        cases z <;> try rfl
        rename_i z
        cases z <;> try rfl
        rename_i z
        simp only
        generalize bndOf 0 (lo.map (val s.e)) = l
        generalize bndOf z.size (hi.map (val s.e)) = h
        cases l <;> cases h <;> try rfl
        simp only
        split <;> rfl
  case bd z ps => exact fin (f := fun e => if (ps.map fun p => val e p.2).all V.okc then some (.st (ps.foldl (fun cs p => cs.set p.1 (val e p.2)) z)) else none) fun s => by simp only [opA]; split <;> simp_all
  case mf g xs => exact fin (f := fun e => if (xs.map (val e)).all V.okc then some (.cl g (xs.map (val e))) else none) fun s => by simp only [opA]; split <;> simp_all
  case ln x => exact fin (f := fun e => match vlen (val e x) with | some n => some (.i (n : Nat)) | none => none) fun s => by simp only [opA]; split <;> simp_all
  case ls x => exact fin (f := fun e => match val e x with | .im (.string x) => some (.i x.size) | _ => none) fun s => by simp only [opA]; split <;> simp_all
  case mm mx xs =>
    exact fin (f := fun e => match xs.map (val e) with
      | [.im (.int .i64 a), .im (.int .i64 b)] => some (.i (mmx mx a b))
      | [.im (.int .i64 a), .im (.int .i64 b), .im (.int .i64 c)] => some (.i (mmx mx (mmx mx a b) c))
      | _ => none) fun s => by simp only [opA]; split <;> simp_all
  case et x i => exact fin (f := fun e => match val e x with | .tu vs => vs[i]? | _ => none) fun s => by simp only [opA]; split <;> simp_all

theorem Sub.deref {H H' : Nat → Option Blk} (h : Sub H H') {x v : V} (hd : Am.deref H x = some v) : Am.deref H' x = some v := by
  cases x <;> simp only [Am.deref] at hd ⊢ <;> try exact hd
  case hp b i =>
    obtain ⟨B, hB, h2⟩ := Option.bind_eq_some_iff.1 hd
    obtain ⟨B', h1, e, _⟩ := h b B hB
    rw [h1, Option.bind_some, e]; exact h2
  case hf b i j =>
    obtain ⟨B, hB, h2⟩ := Option.bind_eq_some_iff.1 hd
    obtain ⟨B', h1, e, _⟩ := h b B hB
    rw [h1, Option.bind_some, e]; exact h2

theorem Sub.elems {H H' : Nat → Option Blk} (h : Sub H H') {x : V} {l : List V} (hd : Am.elems H x = some l) : Am.elems H' x = some l := by
  cases x <;> simp only [Am.elems] at hd ⊢ <;> try exact hd
  case hs b off n c =>
    split at hd
    · rename_i hn; rw [if_pos hn]; exact hd
    · rename_i hn
      rw [if_neg hn]
      split at hd
      · rename_i B hB
        obtain ⟨B', h1, e, _⟩ := h b B hB
        rw [h1]; simp only [e]; exact hd
      · cases hd

/-- A quiet operation reads the same where there is more. -/
theorem opA_quiet {ca : V → List V → S → Option (V × S)} {s s1 : S} {a : A} {v : V} (hp : isQuiet a = true) (h : opA ca s a = some (v, s1)) : s1 = s ∧ ∀ s', s'.e = s.e → Sub s.H s'.H → opA ca s' a = some (v, s') := by
  by_cases hpp : isPure a = true
  · obtain ⟨h1, h2⟩ := opA_pure hpp h
    exact ⟨h1, fun s' he _ => h2 s' he⟩
  cases a <;> simp only [isQuiet, isPure, Bool.false_eq_true, not_true_eq_false] at hp hpp <;> simp only [opA] at h ⊢
  case ld q x =>
    split at h
    · rename_i y hy
      split at h
      · rename_i hf
        obtain ⟨rfl, rfl⟩ := Prod.mk.inj (Option.some.inj h)
        exact ⟨rfl, fun s' he hs => by rw [he, hs.deref hy]; simp only [hf, if_true]⟩
      · cases h
    · cases h
  case ia q x i =>
    split at h
    · rename_i z es hi hx
      refine ⟨?_, fun s' he hs => ?_⟩
      · split at h
        · split at h
          · obtain ⟨_, rfl⟩ := Prod.mk.inj (Option.some.inj h); rfl
          · cases h
        · cases h
      · rw [he, hi, hx]
        simp only
        split at h
        · split at h
          · rename_i hsz
            obtain ⟨rfl, _⟩ := Prod.mk.inj (Option.some.inj h)
            simp only [*, if_true]
          · cases h
        · cases h
    · rename_i z b off n c hi hx
      split at h
      · rename_i B hB
        split at h
        · rename_i hc
          obtain ⟨rfl, rfl⟩ := Prod.mk.inj (Option.some.inj h)
          refine ⟨rfl, fun s' he hs => ?_⟩
          obtain ⟨B', h1, _, e⟩ := hs b B hB
          rw [he, hi, hx]
          simp only [h1]
          rw [if_pos ⟨hc.1, hc.2.1, e.trans hc.2.2⟩]
        · cases h
      · cases h
    · cases h
  case sc q x lo hi mx =>
    split at h
    · rename_i b off n c hx
      split at h
      · rename_i hc0
        obtain ⟨u, hu, hh⟩ := Option.map_eq_some_iff.1 h
        obtain ⟨rfl, rfl⟩ := Prod.mk.inj hh
        refine ⟨rfl, fun s' he hs => ?_⟩
        rw [he, hx]
        simp only [hc0, if_true]
        rw [hc0] at hu
        rw [hu]; rfl
      · rename_i hc0
        split at h
        · rename_i B hB
          split at h
          · rename_i hk
            obtain ⟨u, hu, hh⟩ := Option.map_eq_some_iff.1 h
            obtain ⟨rfl, rfl⟩ := Prod.mk.inj hh
            refine ⟨rfl, fun s' he hs => ?_⟩
            obtain ⟨B', h1, _, e⟩ := hs b B hB
            rw [he, hx]
            simp only [hc0, if_false, h1, e, hk, if_true, hu, Option.map_some]
          · cases h
        · cases h
    · rename_i es hx
      split at h
      · rename_i hk
        obtain ⟨u, hu, hh⟩ := Option.map_eq_some_iff.1 h
        obtain ⟨rfl, rfl⟩ := Prod.mk.inj hh
        refine ⟨rfl, fun s' he hs => ?_⟩
        rw [he, hx]
        simp only [hk, if_true, hu, Option.map_some]
      · cases h
    · rename_i hx
      obtain ⟨u, hu, hh⟩ := Option.map_eq_some_iff.1 h
      obtain ⟨rfl, rfl⟩ := Prod.mk.inj hh
      refine ⟨rfl, fun s' he hs => ?_⟩
      rw [he, hx]
      simp only [hu, Option.map_some]
    · cases h
  case sb x =>
    split at h
    · rename_i src hx
      split at h
      · rename_i l hl
        obtain ⟨rfl, rfl⟩ := Prod.mk.inj (Option.some.inj h)
        exact ⟨rfl, fun s' he hs => by rw [he, hs.elems hx]; simp only [hl]⟩
      · cases h
    · cases h


/-! ### Operations that make memory -/

/-- Nothing lies where the next blocks come. -/
def Bd (s : S) : Prop := ∀ b, s.nx ≤ b → s.H b = none

/-- The state has grown: what was there is there, up to freezing; what was gone is gone. -/
structure Grow (s s' : S) : Prop where
  nx : s.nx ≤ s'.nx
  sub : Sub s.H s'.H
  gone : ∀ b, b < s.nx → s.H b = none → s'.H b = none
  bd : Bd s'
theorem Grow.refl {s : S} (h : Bd s) : Grow s s := ⟨Nat.le_refl _, Sub.refl _, fun _ _ h => h, h⟩
theorem Grow.trans {s s1 s2 : S} (h : Grow s s1) (k : Grow s1 s2) : Grow s s2 :=
  ⟨Nat.le_trans h.nx k.nx, h.sub.trans k.sub, fun b hb hn => k.gone b (Nat.lt_of_lt_of_le hb h.nx) (h.gone b hb hn), k.bd⟩

theorem Grow.new {s : S} (h : Bd s) (k : Nat) (es : List V) : Grow s (s.new k es) := by
  refine ⟨Nat.le_succ _, fun b B hb => ⟨B, ?_, rfl, rfl⟩, fun b hb hn => ?_, fun b hb => ?_⟩
  · have : b ≠ s.nx := by rintro rfl; rw [h _ (Nat.le_refl _)] at hb; cases hb
    simp only [S.new]; rw [upd_ne _ _ this]; exact hb
  · simp only [S.new]; rw [upd_ne _ _ (by omega)]; exact hn
  · simp only [S.new] at hb ⊢; rw [upd_ne _ _ (by omega)]; exact h b (by omega)

theorem takeL_grow {f : V → S → Option (V × S)} (hf : ∀ v s t s', Bd s → f v s = some (t, s') → Grow s s') : ∀ (vs : List V) (s : S) (ts : List V) (s' : S), Bd s → takeL f vs s = some (ts, s') → Grow s s'
  | [], s, ts, s', hb, h => by simp only [takeL, Option.some.injEq, Prod.mk.injEq] at h; obtain ⟨_, rfl⟩ := h; exact Grow.refl hb
  | v :: vs, s, ts, s', hb, h => by
    simp only [takeL] at h
    split at h
    · rename_i t s1 h1
      have g := hf _ _ _ _ hb h1
      split at h
      · rename_i ts2 s2 h2
        obtain ⟨_, rfl⟩ := Prod.mk.inj (Option.some.inj h)
        exact g.trans (takeL_grow hf vs s1 _ _ g.bd h2)
      · cases h
    · cases h

theorem takeIn_grow : ∀ (d : Nat) (v : V) (s : S) (t : V) (s' : S), Bd s → takeIn d v s = some (t, s') → Grow s s'
  | 0, _, _, _, _, _, h => by cases h
  | d + 1, v, s, t, s', hb, h => by
    have hL := takeL_grow (takeIn_grow d)
    have one : ∀ {u : V}, some (u, s) = some (t, s') → Grow s s' := by
      intro u h; obtain ⟨_, rfl⟩ := Prod.mk.inj (Option.some.inj h); exact Grow.refl hb
    cases v <;> simp only [takeIn] at h
    case st cs => split at h
                  · rename_i h1; obtain ⟨_, rfl⟩ := Prod.mk.inj (Option.some.inj h); exact hL _ _ _ _ hb h1
                  · cases h
    case tu cs => split at h
                  · rename_i h1; obtain ⟨_, rfl⟩ := Prod.mk.inj (Option.some.inj h); exact hL _ _ _ _ hb h1
                  · cases h
    case cl f cs => split at h
                    · rename_i h1; obtain ⟨_, rfl⟩ := Prod.mk.inj (Option.some.inj h); exact hL _ _ _ _ hb h1
                    · cases h
    case ow k es => split at h
                    · rename_i h1
                      obtain ⟨_, rfl⟩ := Prod.mk.inj (Option.some.inj h)
                      have g := hL _ _ _ _ hb h1
                      exact g.trans (Grow.new g.bd _ _)
                    · cases h
    case op v => split at h
                 · rename_i h1
                   obtain ⟨_, rfl⟩ := Prod.mk.inj (Option.some.inj h)
                   have g := takeIn_grow d _ _ _ _ hb h1
                   exact g.trans (Grow.new g.bd _ _)
                 · cases h
    case im => exact one h
    case sl => exact one h
    case rp => exact one h
    case e0 => exact one h
    all_goals cases h

theorem lent_ro {α : Type} : ∀ (ms : List M) (vs : List α), ms.all (fun m => m == .ro) = true → lent ms vs = []
  | _, [], _ => by simp [lent]
  | [], v :: vs, h => by
    rw [lent]
    · exact lent_ro [] vs h
  | m :: ms, v :: vs, h => by
    simp only [List.all_cons, Bool.and_eq_true, beq_iff_eq] at h
    obtain ⟨rfl, h⟩ := h
    rw [lent]
    · exact lent_ro ms vs h

theorem handL_ro (H : Nat → Option Blk) : ∀ (ms : List M) (vs ts : List V) (rs os : List Nat), ms.all (fun m => m == .ro) = true → handL H ms vs = some (ts, rs, os) → os = []
  | _, [], ts, rs, os, _, h => by simp only [handL, Option.some.injEq, Prod.mk.injEq] at h; exact h.2.2.symm
  | ms, v :: vs, ts, rs, os, hm, h => by
    have hd : ms.headD .ro = .ro := by
      cases ms with
      | nil => rfl
      | cons m ms => simp only [List.all_cons, Bool.and_eq_true, beq_iff_eq] at hm; simp [hm.1]
    have htl : ms.tail.all (fun m => m == .ro) = true := by
      cases ms with
      | nil => rfl
      | cons m ms => simp only [List.all_cons, Bool.and_eq_true] at hm; exact hm.2
    simp only [handL, hd] at h
    split at h
    · rename_i t r o h1
      obtain ⟨x, _, hx⟩ := Option.map_eq_some_iff.1 h1
      obtain ⟨_, hx⟩ := Prod.mk.inj hx
      obtain ⟨_, rfl⟩ := Prod.mk.inj hx
      split at h
      · rename_i ts2 rs2 os2 h2
        simp only [Option.some.injEq, Prod.mk.injEq] at h
        rw [← h.2.2, handL_ro H ms.tail vs _ _ _ htl h2]; rfl
      · cases h
    · cases h

theorem kill_nil (H : Nat → Option Blk) : kill H [] = H := by funext b; simp [kill]

theorem Grow.freeze {s : S} (h : Bd s) (rs : List Nat) (z : Bool) : Grow s { s with H := freeze s.H rs, fz := z } := by
  refine ⟨Nat.le_refl _, fun b B hb => ?_, fun b _ hn => ?_, fun b hb => ?_⟩
  · simp only [Am.freeze]
    split
    · rw [hb]; exact ⟨_, rfl, rfl, rfl⟩
    · exact ⟨B, hb, rfl, rfl⟩
  · simp only [Am.freeze, hn, Option.map_none]; split <;> rfl
  · simp only [Am.freeze, h b hb, Option.map_none]; split <;> rfl

theorem callV_grow {Γ : Env} {exk : C → S → Option R} {f : Nat} {caps : List V} {ms : List M} (hms : Γ.md f = some ms) (hro : ms.all (fun m => m == .ro) = true) {xs : List V} {s s' : S} {v : V} (hb : Bd s)
    (h : callV Γ exk (.cl f caps) xs s = some (v, s')) : Grow s s' := by
  unfold callV at h
  simp only [hms] at h
  split at h
  case h_2 => cases h
  rename_i ts rs os hh
  obtain rfl := handL_ro _ _ _ _ _ _ hro hh
  split at h
  case isFalse => cases h
  split at h
  case h_2 => cases h
  rename_i t us _
  rw [lent_ro _ _ hro, kill_nil] at h
  have hm : s.mem s.H = s := rfl
  rw [hm] at h
  have key : ∀ s2, Grow s s2 → (match backL s.H [] us s2 with | some s1 => takeIn DEP t s1 | none => none) = some (v, s') → Grow s s' := by
    intro s2 g hh
    cases us with
    | nil => exact g.trans (takeIn_grow _ _ _ _ _ g.bd hh)
    | cons u us => cases hh
  by_cases hf : free DEP t = true ∧ allL (free DEP) us = true
  · rw [if_pos hf] at h; exact key _ (Grow.refl hb) h
  · rw [if_neg hf] at h; exact key _ (Grow.freeze hb rs _) h

theorem opA_make {Γ : Env} {exk : C → S → Option R} {s s1 : S} {a : A} {v : V} (hp : isMake Γ.md a = true) (hb : Bd s) (h : opA (callV Γ exk) s a = some (v, s1)) : Grow s s1 := by
  have nw : ∀ {u : V} {k : Nat} {es : List V}, some (u, s.new k es) = some (v, s1) → Grow s s1 := by
    intro u k es h; obtain ⟨_, rfl⟩ := Prod.mk.inj (Option.some.inj h); exact Grow.new hb _ _
  cases a <;> simp only [isMake] at hp <;> (try cases hp; done) <;> simp only [opA] at h
  case al => split at h <;> first | exact nw h | cases h
  case bx => split at h <;> first | exact nw h | cases h
  case bs => split at h <;> first | exact nw h | cases h
  case ms =>
    split at h
    · split at h <;> first | exact nw h | cases h
    · cases h
  case ca f xs =>
    cases f with
    | k u =>
      cases u with
      | cl g caps =>
        simp only at hp
        split at hp
        · rename_i ms hms
          exact callV_grow hms hp hb h
        · cases hp
      | _ => cases hp
    | _ => cases hp

/-- A value whose blocks are among the first. -/
def Low (nx : Nat) : V → Prop
  | .hs b _ n c => (n = 0 ∧ c = 0) ∨ b < nx
  | .hp b _ | .hf b _ _ => b < nx
  | _ => True
theorem Low.mono {nx nx' : Nat} (h : nx ≤ nx') {v : V} (k : Low nx v) : Low nx' v := by
  cases v <;> simp only [Low] at k ⊢ <;> omega

theorem Grow.back {s s' : S} (g : Grow s s') {b : Nat} {B : Blk} (hl : b < s.nx) (h : s'.H b = some B) : ∃ B0, s.H b = some B0 ∧ B0.es = B.es ∧ B0.k = B.k := by
  cases hb : s.H b with
  | none => rw [g.gone b hl hb] at h; cases h
  | some B0 =>
    obtain ⟨B', h1, h2, h3⟩ := g.sub b B0 hb
    rw [h1] at h
    obtain rfl := Option.some.inj h
    exact ⟨B0, rfl, h2.symm, h3.symm⟩

/-- What a load reads behind an operation that makes memory, it read before. -/
theorem sc_back {ca : V → List V → S → Option (V × S)} {s s' s1 : S} {q : Option Nat} {t : Nat} {lo hi mx : Option O} {v : V} (hg : ∀ b B, b < s.nx → s'.H b = some B → ∃ B0, s.H b = some B0 ∧ B0.k = B.k) (hlt : Low s.nx (s.e t)) (he : s'.e = s.e)
    (h : opA ca s' (.sc q (.t t) lo hi mx) = some (v, s1)) : opA ca s (.sc q (.t t) lo hi mx) = some (v, s) := by
  simp only [opA] at h ⊢
  rw [he] at h
  have hv : val s.e (.t t) = s.e t := rfl
  rw [hv] at h ⊢
  generalize s.e t = z at *
  cases z <;> simp only at h ⊢ <;> try cases h
  case sl es =>
    split at h
    · rename_i hk
      rw [if_pos hk]
      obtain ⟨u, hu, hh⟩ := Option.map_eq_some_iff.1 h
      obtain ⟨rfl, _⟩ := Prod.mk.inj hh
      rw [hu]; rfl
    · cases h
  case e0 =>
    obtain ⟨u, hu, hh⟩ := Option.map_eq_some_iff.1 h
    obtain ⟨rfl, _⟩ := Prod.mk.inj hh
    rw [hu]; rfl
  case hs b off n c =>
    split at h
    · rename_i hc0
      rw [if_pos hc0]
      obtain ⟨u, hu, hh⟩ := Option.map_eq_some_iff.1 h
      obtain ⟨rfl, _⟩ := Prod.mk.inj hh
      rw [hu]; rfl
    · rename_i hc0
      rw [if_neg hc0]
      split at h
      · rename_i B hB
        split at h
        · rename_i hk
          have hb : b < s.nx := by
            simp only [Low] at hlt
            rcases hlt with hh | hh
            · exact absurd hh.2 hc0
            · exact hh
          obtain ⟨B0, h3, h5⟩ := hg b B hb hB
          simp only [h3]
          rw [if_pos (h5.trans hk)]
          obtain ⟨u, hu, hh⟩ := Option.map_eq_some_iff.1 h
          obtain ⟨rfl, _⟩ := Prod.mk.inj hh
          rw [hu]; rfl
        · cases h
      · cases h
theorem opA_loadT {ca : V → List V → S → Option (V × S)} {s s' s1 : S} {a : A} {v : V} (hp : isLoadT a = true) (g : Grow s s') (hl : ∀ t ∈ a.rd, Low s.nx (s.e t)) (he : s'.e = s.e)
    (h : opA ca s' a = some (v, s1)) : s1 = s' ∧ opA ca s a = some (v, s) := by
  have hq : isQuiet a = true := by cases a <;> simp_all [isLoadT, isQuiet]
  refine ⟨(opA_quiet hq h).1, ?_⟩
  cases a <;> simp only [isLoadT, Bool.false_eq_true] at hp
  case ld q x =>
    cases x <;> simp only [Bool.false_eq_true] at hp
    rename_i t
    have hlt := hl t (by simp [A.rd, O.tm])
    simp only [opA, val] at h ⊢
    rw [he] at h
    have hd : ∀ y, deref s'.H (s.e t) = some y → deref s.H (s.e t) = some y := by
      intro y hy
      generalize s.e t = z at *
      cases z <;> simp only [deref] at hy ⊢ <;> try exact hy
      all_goals
        obtain ⟨B, hB, h2⟩ := Option.bind_eq_some_iff.1 hy
        obtain ⟨B0, h3, h4, _⟩ := g.back hlt hB
        rw [h3, Option.bind_some, h4]; exact h2
    split at h
    · rename_i y hy
      rw [hd y hy]
      split at h
      · rename_i hf
        obtain ⟨rfl, _⟩ := Prod.mk.inj (Option.some.inj h)
        simp only [hf, if_true]
      · cases h
    · cases h
  case ia q x i =>
    cases x <;> simp only [Bool.false_eq_true] at hp
    rename_i t
    have hlt := hl t (by simp [A.rd, O.tm])
    simp only [opA, val] at h ⊢
    rw [he] at h
    split at h
    · rename_i z es hi hx
      try rw [hi, hx]
      try simp only
      split at h
      · split at h
        · obtain ⟨rfl, _⟩ := Prod.mk.inj (Option.some.inj h)
          simp only [*, if_true]
        · cases h
      · cases h
    · rename_i z b off n c hi hx
      try rw [hi, hx]
      rw [hx] at hlt
      try simp only
      split at h
      · rename_i B hB
        split at h
        · rename_i hc
          obtain ⟨rfl, _⟩ := Prod.mk.inj (Option.some.inj h)
          have hb : b < s.nx := by
            simp only [Low] at hlt
            have := hc.1; have := hc.2.1
            omega
          obtain ⟨B0, h3, _, h5⟩ := g.back hb hB
          simp only [h3]
          rw [if_pos ⟨hc.1, hc.2.1, h5.trans hc.2.2⟩]
        · cases h
      · cases h
    · cases h
  case sb x =>
    cases x <;> simp only [Bool.false_eq_true] at hp
    rename_i t
    have hlt := hl t (by simp [A.rd, O.tm])
    simp only [opA, val] at h ⊢
    rw [he] at h
    have hd : ∀ y, elems s'.H (s.e t) = some y → elems s.H (s.e t) = some y := by
      intro y hy
      generalize s.e t = z at *
      cases z <;> simp only [elems] at hy ⊢ <;> try exact hy
      rename_i b off n c
      split at hy
      · rename_i hn; rw [if_pos hn]; exact hy
      · rename_i hn
        rw [if_neg hn]
        split at hy
        · rename_i B hB
          obtain ⟨B0, h3, h4, _⟩ := g.back (hlt.resolve_left fun hh => hn hh.1) hB
          simp only [h3, h4]; exact hy
        · cases hy
    split at h
    · rename_i y hy
      rw [hd y hy]
      split at h
      · rename_i l hl
        obtain ⟨rfl, _⟩ := Prod.mk.inj (Option.some.inj h)
        simp only [hl]
      · cases h
    · cases h
  case sc q x lo hi mx =>
    cases x <;> simp only [Bool.false_eq_true] at hp
    rename_i t
    have hlt := hl t (by simp [A.rd, O.tm])
    exact sc_back (fun b B hb hB => by obtain ⟨B0, h3, _, h5⟩ := g.back hb hB; exact ⟨B0, h3, h5⟩) hlt he h

theorem ap_back {s s1 : S} {q : Option Nat} {x v : V} {src : List V} (hb : Bd s) (h : appendTo s q x src = some (v, s1)) : Bd s1 ∧ s.nx ≤ s1.nx ∧ ∀ b B, b < s.nx → s1.H b = some B → ∃ B0, s.H b = some B0 ∧ B0.k = B.k := by
  have new : ∀ (s0 : S) (k : Nat) (es : List V), Bd s0 → (∀ b B, b < s0.nx → (s0.new k es).H b = some B → s0.H b = some B) ∧ Bd (s0.new k es) := by
    intro s0 k es h0
    refine ⟨fun b B hlt hB => ?_, (Grow.new h0 k es).bd⟩
    simp only [S.new] at hB
    rwa [upd_ne _ _ (by omega)] at hB
  unfold appendTo at h
  simp only at h
  split at h
  · split at h
    · obtain ⟨_, rfl⟩ := Prod.mk.inj (Option.some.inj h); exact ⟨hb, Nat.le_refl _, fun b B _ hB => ⟨B, hB, rfl⟩⟩
    · split at h
      · obtain ⟨_, rfl⟩ := Prod.mk.inj (Option.some.inj h)
        obtain ⟨h1, h2⟩ := new s (ksz q) src hb
        exact ⟨h2, Nat.le_succ _, fun b B hl hB => ⟨B, h1 b B hl hB, rfl⟩⟩
      · cases h
  · rename_i b off n c
    split at h
    case h_2 => cases h
    rename_i B hB
    have hlt : b < s.nx := by
      rcases Nat.lt_or_ge b s.nx with hh | hh
      · exact hh
      · rw [hb b hh] at hB; cases hB
    split at h
    case isFalse => cases h
    split at h
    · split at h
      · obtain ⟨_, rfl⟩ := Prod.mk.inj (Option.some.inj h)
        refine ⟨fun b' hb' => ?_, Nat.le_refl _, fun b' B' _ hB' => ?_⟩
        · simp only [S.blk] at hb' ⊢; rw [upd_ne _ _ (by omega)]; exact hb b' hb'
        · simp only [S.blk] at hB'
          by_cases e : b' = b
          · subst e; rw [upd_same] at hB'; cases hB'; exact ⟨B, hB, rfl⟩
          · rw [upd_ne _ _ e] at hB'; exact ⟨B', hB', rfl⟩
      · cases h
    · split at h
      · obtain ⟨_, rfl⟩ := Prod.mk.inj (Option.some.inj h)
        have hb0 : Bd (s.blk b none) := fun b' hb' => by
          simp only [S.blk] at hb' ⊢
          by_cases e : b' = b
          · subst e; exact upd_same _ _ _
          · rw [upd_ne _ _ e]; exact hb b' hb'
        obtain ⟨h1, h2⟩ := new (s.blk b none) (ksz q) (B.es.drop off ++ src) hb0
        refine ⟨h2, Nat.le_succ _, fun b' B' hl hB' => ?_⟩
        have := h1 b' B' hl hB'
        simp only [S.blk] at this
        by_cases e : b' = b
        · subst e; rw [upd_same] at this; cases this
        · rw [upd_ne _ _ e] at this; exact ⟨B', this, rfl⟩
      · cases h
  · cases h
theorem opA_app {ca : V → List V → S → Option (V × S)} {s s1 : S} {a : A} {v : V} (hp : isApp a = true) (hb : Bd s) (h : opA ca s a = some (v, s1)) : Bd s1 ∧ s.nx ≤ s1.nx ∧ ∀ b B, b < s.nx → s1.H b = some B → ∃ B0, s.H b = some B0 ∧ B0.k = B.k := by
  cases a <;> simp only [isApp, Bool.false_eq_true] at hp
  simp only [opA] at h
  split at h
  · split at h
    · exact ap_back hb h
    · cases h
  · cases h
theorem opA_scT {ca : V → List V → S → Option (V × S)} {s s' s1 : S} {a : A} {v : V} (hp : isScT a = true) (hg : ∀ b B, b < s.nx → s'.H b = some B → ∃ B0, s.H b = some B0 ∧ B0.k = B.k) (hl : ∀ t ∈ a.rd, Low s.nx (s.e t)) (he : s'.e = s.e)
    (h : opA ca s' a = some (v, s1)) : s1 = s' ∧ opA ca s a = some (v, s) := by
  cases a <;> simp only [isScT, Bool.false_eq_true] at hp
  rename_i q x lo hi mx
  cases x <;> simp only [Bool.false_eq_true] at hp
  exact ⟨(opA_quiet rfl h).1, sc_back hg (hl _ (by simp [A.rd, O.tm])) he h⟩

end Go.Am

/- The A-machine, part 19: regions whose order is open. -/
namespace Go.Am
variable {P : Program} {St Mine : Nat → Prop} {w : World}

def putE (e : Nat → V) (d : Option Nat) (v : V) : Nat → V := match d with | some d => upd e d v | none => e
theorem put_wi (s : S) (d : Option Nat) (v : V) : s.put d v = s.wi (putE s.e d v) := by cases d <;> rfl
theorem putE_off {e : Nat → V} {d : Option Nat} {v : V} {t : Nat} (h : d ≠ some t) : putE e d v t = e t := by
  cases d with
  | none => rfl
  | some d => exact upd_ne _ _ fun hh => h (by rw [hh])
theorem putE_comm {e : Nat → V} {d d' : Option Nat} {v u : V} (h : ∀ x, d = some x → d' ≠ some x) : putE (putE e d v) d' u = putE (putE e d' u) d v := by
  cases d with
  | none => rfl
  | some d =>
    cases d' with
    | none => rfl
    | some d' =>
      have hne : d' ≠ d := fun hh => h d rfl (by rw [hh])
      funext t
      simp only [putE, upd]
      by_cases h1 : t = d
      · subst h1; rw [if_neg (Ne.symm hne)]; simp
      · by_cases h2 : t = d'
        · simp [h2, hne]
        · simp [h1, h2]

/-- What an operation leaves, with its guard. -/
def res (ca : V → List V → S → Option (V × S)) (i : I) (s : S) : Option (V × S) :=
  match guardA s.e i.g with
  | some true => opA ca s i.a
  | some false => some (.un, s)
  | none => none

theorem runI_res {ca : V → List V → S → Option (V × S)} {i : I} {l : List I} {s : S} : runI ca (i :: l) s = match res ca i s with | some (v, s1) => runI ca l (s1.put i.d v) | none => none := by
  rw [runI_cons]
  unfold res
  cases guardA s.e i.g with
  | none => rfl
  | some b => cases b <;> rfl

theorem guardA_wi {e e' : Nat → V} {i : I} (h : ∀ t ∈ i.rd, e' t = e t) : guardA e' i.g = guardA e i.g := by
  unfold guardA
  cases hg : i.g with
  | none => rfl
  | some g =>
    obtain ⟨t, w⟩ := g
    simp only
    rw [h t (by simp [I.rd, hg])]

section
variable {ca : V → List V → S → Option (V × S)}

theorem res_wi (hca : CaE ca) {i : I} {s : S} {e : Nat → V} (h : ∀ t ∈ i.rd, e t = s.e t) : res ca i (s.wi e) = (res ca i s).map (wiR e) := by
  unfold res
  rw [show (s.wi e).e = e from rfl, guardA_wi h]
  split
  · exact opA_wi hca fun t ht => h t (List.mem_append_right _ ht)
  · rfl
  · rfl

theorem res_same (hca : CaE ca) {i : I} {s s1 : S} {v : V} (h : res ca i s = some (v, s1)) : s1.e = s.e := by
  unfold res at h
  split at h
  · exact opA_same hca h
  · obtain ⟨_, rfl⟩ := Prod.mk.inj (Option.some.inj h); rfl
  · cases h

theorem res_pure {i : I} {s s1 : S} {v : V} (hp : isPure i.a = true) (h : res ca i s = some (v, s1)) : s1 = s ∧ ∀ s', s'.e = s.e → res ca i s' = some (v, s') := by
  unfold res at h
  split at h
  · rename_i hg
    obtain ⟨h1, h2⟩ := opA_pure hp h
    exact ⟨h1, fun s' he => by unfold res; rw [he, hg]; exact h2 s' he⟩
  · rename_i hg
    obtain ⟨rfl, rfl⟩ := Prod.mk.inj (Option.some.inj h)
    exact ⟨rfl, fun s' he => by unfold res; rw [he, hg]⟩
  · cases h

theorem res_quiet {i : I} {s s1 : S} {v : V} (hp : isQuiet i.a = true) (h : res ca i s = some (v, s1)) : s1 = s ∧ ∀ s', s'.e = s.e → Sub s.H s'.H → res ca i s' = some (v, s') := by
  unfold res at h
  split at h
  · rename_i hg
    obtain ⟨h1, h2⟩ := opA_quiet hp h
    exact ⟨h1, fun s' he hs => by unfold res; rw [he, hg]; exact h2 s' he hs⟩
  · rename_i hg
    obtain ⟨rfl, rfl⟩ := Prod.mk.inj (Option.some.inj h)
    exact ⟨rfl, fun s' he _ => by unfold res; rw [he, hg]⟩
  · cases h

theorem res_loadT {i : I} {s s' s1 : S} {v : V} (hp : isLoadT i.a = true) (g : Grow s s') (hl : ∀ t ∈ i.a.rd, Low s.nx (s.e t)) (he : s'.e = s.e) (h : res ca i s' = some (v, s1)) : s1 = s' ∧ res ca i s = some (v, s) := by
  unfold res at h ⊢
  rw [he] at h
  split at h
  · rename_i hg; exact opA_loadT hp g hl he h
  · obtain ⟨rfl, rfl⟩ := Prod.mk.inj (Option.some.inj h); exact ⟨rfl, rfl⟩
  · cases h
end

theorem res_make {Γ : Env} {exk : C → S → Option R} {i : I} {s s1 : S} {v : V} (hp : isMake Γ.md i.a = true) (hb : Bd s) (h : res (callV Γ exk) i s = some (v, s1)) : Grow s s1 := by
  unfold res at h
  split at h
  · exact opA_make hp hb h
  · obtain ⟨rfl, rfl⟩ := Prod.mk.inj (Option.some.inj h); exact Grow.refl hb
  · cases h

theorem apartI_spec {md : Nat → Option (List M)} {x y : I} (h : apartI md x y = true) : (∀ d, x.d = some d → d ∉ y.rd) ∧ (∀ d, x.d = some d → y.d ≠ some d) ∧ (∀ d, y.d = some d → d ∉ x.rd) ∧ apartA md x.a y.a = true := by
  unfold apartI at h
  simp only [Bool.and_eq_true] at h
  obtain ⟨⟨h1, h2⟩, h3⟩ := h
  refine ⟨fun d hd => ?_, fun d hd => ?_, fun d hd => ?_, h3⟩
  · rw [hd] at h1; simp at h1; exact h1.1
  · rw [hd] at h1; simp at h1; exact h1.2
  · rw [hd] at h2; simp at h2; exact h2

/-- What is kept of the start when an operation y is drawn ahead. -/
def Ahd (y : I) (s : S) : Prop := isPure y.a = true ∨ (Bd s ∧ (isLoadT y.a = true ∨ isScT y.a = true → ∀ t ∈ y.a.rd, Low s.nx (s.e t)))

theorem quiet_of_pure {a : A} (h : isPure a = true) : isQuiet a = true := by cases a <;> simp_all [isPure, isQuiet]
theorem quiet_of_loadT {a : A} (h : isLoadT a = true) : isQuiet a = true := by cases a <;> simp_all [isLoadT, isQuiet]

theorem quiet_of_scT {a : A} (h : isScT a = true) : isQuiet a = true := by cases a <;> simp_all [isScT, isQuiet]
theorem res_scT {ca : V → List V → S → Option (V × S)} {i : I} {s s' s1 : S} {v : V} (hp : isScT i.a = true) (hg : ∀ b B, b < s.nx → s'.H b = some B → ∃ B0, s.H b = some B0 ∧ B0.k = B.k) (hl : ∀ t ∈ i.a.rd, Low s.nx (s.e t)) (he : s'.e = s.e) (h : res ca i s' = some (v, s1)) : s1 = s' ∧ res ca i s = some (v, s) := by
  unfold res at h ⊢
  rw [he] at h
  split at h
  · rename_i hg'; exact opA_scT hp hg hl he h
  · obtain ⟨rfl, rfl⟩ := Prod.mk.inj (Option.some.inj h); exact ⟨rfl, rfl⟩
  · cases h
theorem res_app {ca : V → List V → S → Option (V × S)} {i : I} {s s1 : S} {v : V} (hp : isApp i.a = true) (hb : Bd s) (h : res ca i s = some (v, s1)) : Bd s1 ∧ s.nx ≤ s1.nx ∧ ∀ b B, b < s.nx → s1.H b = some B → ∃ B0, s.H b = some B0 ∧ B0.k = B.k := by
  unfold res at h
  split at h
  · exact opA_app hp hb h
  · obtain ⟨rfl, rfl⟩ := Prod.mk.inj (Option.some.inj h); exact ⟨hb, Nat.le_refl _, fun b B _ hB => ⟨B, hB, rfl⟩⟩
  · cases h
theorem put_put (s : S) {d d' : Option Nat} {v u : V} (h : ∀ x, d = some x → d' ≠ some x) (s1 s2 : S) (h1 : s1 = s.wi (putE s.e d v)) (h2 : s2 = s.wi (putE s.e d' u)) : s2.put d v = s1.put d' u := by
  subst h1 h2
  rw [put_wi, put_wi]
  show s.wi _ = s.wi _
  rw [show (s.wi (putE s.e d v)).e = putE s.e d v from rfl, show (s.wi (putE s.e d' u)).e = putE s.e d' u from rfl, putE_comm h]

theorem swap {Γ : Env} {exk : C → S → Option R} {x y : I} (hap : apartI Γ.md x y = true) {s s1 s2 : S} {v u : V} (ha : Ahd y s) (hx : res (callV Γ exk) x s = some (v, s1)) (hy : res (callV Γ exk) y (s1.put x.d v) = some (u, s2)) :
    ∃ s1' s2', res (callV Γ exk) y s = some (u, s1') ∧ res (callV Γ exk) x (s1'.put y.d u) = some (v, s2') ∧ s2'.put x.d v = s2.put y.d u := by
  have hca := callV_wi Γ exk
  obtain ⟨a1, a2, a3, a4⟩ := apartI_spec hap
  have ex : s1.e = s.e := res_same hca hx
  have caseX : isQuiet x.a = true → (∀ sy, res (callV Γ exk) y s = some (u, sy) → isPure x.a = true ∨ Sub s.H sy.H) →
      ∃ s1' s2', res (callV Γ exk) y s = some (u, s1') ∧ res (callV Γ exk) x (s1'.put y.d u) = some (v, s2') ∧ s2'.put x.d v = s2.put y.d u := by
    intro hq hsub
    obtain ⟨rfl, hq2⟩ := res_quiet hq hx
    rw [put_wi, res_wi hca (fun t ht => putE_off fun hh => a1 t hh ht)] at hy
    obtain ⟨⟨u', sy⟩, hsy, hh⟩ := Option.map_eq_some_iff.1 hy
    obtain ⟨rfl, rfl⟩ := Prod.mk.inj hh
    have es : sy.e = s1.e := res_same hca hsy
    have hxs : res (callV Γ exk) x sy = some (v, sy) := by
      rcases hsub sy hsy with hp | hs
      · exact (res_pure hp hx).2 sy es
      · exact hq2 sy es hs
    refine ⟨sy, sy.wi (putE sy.e y.d u'), hsy, ?_, ?_⟩
    · rw [put_wi, res_wi hca (fun t ht => by rw [putE_off fun hh => a3 t hh ht]), hxs]; rfl
    · exact put_put sy a2 _ _ (by rw [es]) rfl
  have caseY : isQuiet y.a = true → (∀ sy, res (callV Γ exk) y s1 = some (u, sy) → res (callV Γ exk) y s = some (u, s)) →
      ∃ s1' s2', res (callV Γ exk) y s = some (u, s1') ∧ res (callV Γ exk) x (s1'.put y.d u) = some (v, s2') ∧ s2'.put x.d v = s2.put y.d u := by
    intro hq hback
    obtain ⟨rfl, _⟩ := res_quiet hq hy
    rw [put_wi, res_wi hca (fun t ht => putE_off fun hh => a1 t hh ht)] at hy
    obtain ⟨⟨u', sy⟩, hsy, hh⟩ := Option.map_eq_some_iff.1 hy
    obtain ⟨rfl, _⟩ := Prod.mk.inj hh
    refine ⟨s, s1.wi (putE s.e y.d u'), hback sy hsy, ?_, ?_⟩
    · rw [put_wi, res_wi hca (fun t ht => putE_off fun hh => a3 t hh ht), hx]; rfl
    · exact put_put s1 a2 _ _ (by rw [put_wi]) (by rw [ex])
  unfold apartA at a4
  simp only [Bool.or_eq_true, Bool.and_eq_true] at a4
  rcases a4 with (((hp | hp) | ⟨hq, hq2 | hm⟩) | ⟨hm, hl⟩) | ⟨hm, hsc⟩
  · exact caseX (quiet_of_pure hp) fun _ _ => .inl hp
  · exact caseY (quiet_of_pure hp) fun sy hsy => (res_pure hp hsy).2 s ex.symm
  · exact caseX hq fun sy hsy => .inr (by obtain ⟨rfl, _⟩ := res_quiet hq2 hsy; exact Sub.refl _)
  · rcases ha with hp | ⟨hb, _⟩
    · exact caseY (quiet_of_pure hp) fun sy hsy => (res_pure hp hsy).2 s ex.symm
    · exact caseX hq fun sy hsy => .inr (res_make hm hb hsy).sub
  · rcases ha with hp | ⟨hb, hlow⟩
    · exact caseY (quiet_of_pure hp) fun sy hsy => (res_pure hp hsy).2 s ex.symm
    · exact caseY (quiet_of_loadT hl) fun sy hsy => (res_loadT hl (res_make hm hb hx) (hlow (.inl hl)) ex hsy).2
  · rcases ha with hp | ⟨hb, hlow⟩
    · exact caseY (quiet_of_pure hp) fun sy hsy => (res_pure hp hsy).2 s ex.symm
    · exact caseY (quiet_of_scT hsc) fun sy hsy => (res_scT hsc (res_app hm hb hx).2.2 (hlow (.inr hsc)) ex hsy).2

theorem Ahd.step {Γ : Env} {exk : C → S → Option R} {x y : I} (hap : apartI Γ.md x y = true) {s s1 : S} {v : V} (ha : Ahd y s) (hx : res (callV Γ exk) x s = some (v, s1)) : Ahd y (s1.put x.d v) := by
  rcases ha with hp | ⟨hb, hlow⟩
  · exact .inl hp
  obtain ⟨a1, a2, a3, a4⟩ := apartI_spec hap
  have ex : s1.e = s.e := res_same (callV_wi Γ exk) hx
  have fin : Bd s1 → s.nx ≤ s1.nx → Ahd y (s1.put x.d v) := by
    intro h1 h2
    rw [put_wi]
    refine .inr ⟨h1, fun hl t ht => ?_⟩
    show Low s1.nx (putE s1.e x.d v t)
    rw [putE_off fun hh => a1 t hh (List.mem_append_right _ ht), ex]
    exact Low.mono h2 (hlow hl t ht)
  have q : isQuiet x.a = true → Ahd y (s1.put x.d v) := fun hq => by
    obtain ⟨rfl, _⟩ := res_quiet hq hx
    exact fin hb (Nat.le_refl _)
  unfold apartA at a4
  simp only [Bool.or_eq_true, Bool.and_eq_true] at a4
  rcases a4 with (((hp | hp) | ⟨hq, _⟩) | ⟨hm, _⟩) | ⟨hm, _⟩
  · exact q (quiet_of_pure hp)
  · exact .inl hp
  · exact q hq
  · have g := res_make hm hb hx
    exact fin g.bd g.nx
  · have g := res_app hm hb hx
    exact fin g.1 g.2.1

/-- An operation that is apart from all that stand before it may come first. -/
theorem pull {Γ : Env} {exk : C → S → Option R} {y : I} {post : List I} : ∀ (pre : List I) (s s' : S), (∀ x ∈ pre, apartI Γ.md x y = true) → Ahd y s → runI (callV Γ exk) (pre ++ y :: post) s = some s' →
    ∃ u s1, res (callV Γ exk) y s = some (u, s1) ∧ runI (callV Γ exk) (pre ++ post) (s1.put y.d u) = some s'
  | [], s, s', _, _, h => by
    rw [List.nil_append, runI_res] at h
    split at h
    · rename_i v s1 h1; exact ⟨v, s1, h1, h⟩
    · cases h
  | x :: pre, s, s', hap, ha, h => by
    rw [List.cons_append, runI_res] at h
    split at h
    case h_2 => cases h
    rename_i v sx hx
    have hxy := hap x (by simp)
    obtain ⟨u, s2, hy, hr⟩ := pull pre _ s' (fun z hz => hap z (by simp [hz])) (ha.step hxy hx) h
    obtain ⟨s1', s2', g1, g2, g3⟩ := swap hxy ha hx hy
    refine ⟨u, s1', g1, ?_⟩
    rw [List.cons_append, runI_res, g2]
    simp only
    rw [g3]; exact hr


theorem mapM_get {α β : Type} {f : α → Option β} : ∀ {l : List α} {r : List β}, l.mapM f = some r → r.length = l.length ∧ ∀ (j : Nat) (x : α), l[j]? = some x → ∃ y, r[j]? = some y ∧ f x = some y
  | [], r, h => by simp at h; subst h; exact ⟨rfl, fun j x hx => by simp at hx⟩
  | x :: l, r, h => by
    simp only [List.mapM_cons, Option.bind_eq_bind, Option.pure_def] at h
    obtain ⟨y, hy, h⟩ := Option.bind_eq_some_iff.1 h
    obtain ⟨ys, hys, h⟩ := Option.bind_eq_some_iff.1 h
    obtain rfl := Option.some.inj h
    obtain ⟨h1, h2⟩ := mapM_get hys
    refine ⟨by simp [h1], fun j z hz => ?_⟩
    cases j with
    | zero => simp at hz; subst hz; exact ⟨y, rfl, hy⟩
    | succ j => exact h2 j z (by simpa using hz)

theorem low_of_rep {φ : Phi} {H : Nat → Option Blk} {nx : Nat} (q : WR φ St Mine w H nx) {v : V} {m : Value} (r : Rep φ St w v m) : Low nx v := by
  have lt : ∀ b x, φ b = some x → b < nx := fun b x hx => by
    rcases Nat.lt_or_ge b nx with h | h
    · exact h
    · rw [q.dom b h] at hx; cases hx
  cases v <;> simp only [Low]
  case hs b off n c =>
    simp only [Rep] at r
    obtain ⟨a, c', _, h1, _, h3 | ⟨β, o, k, hp, _⟩⟩ := r
    · left; omega
    · exact .inr (lt _ _ hp)
  case hp b i => simp only [Rep] at r; obtain ⟨β, o, k, hp, _⟩ := r; exact lt _ _ hp
  case hf b i j => simp only [Rep] at r; obtain ⟨β, o, k, hp, _⟩ := r; exact lt _ _ hp

theorem effB_spec {md : Nat → Option (List M)} {ops : Array Oper} {l : List I} (h : effB md ops l = true) : ∃ b : Nat → Nat → Bool, ∀ j o, ops[j]? = some o →
    (∀ e ∈ o.after, Region.binds .any e = true → e.on < j) ∧ (∀ i, b j i = true → ∃ e ∈ o.after, Region.binds .any e = true ∧ (e.on = i ∨ b e.on i = true)) ∧
    (∀ i, i < j → b j i = false → ∃ x y, l[i]? = some x ∧ l[j]? = some y ∧ apartI md x y = true) := by
  unfold effB at h
  simp only at h
  generalize befL ops.toList = b at h
  refine ⟨fun j i => (b.getD j []).contains i, fun j o ho => ?_⟩
  rw [List.all_eq_true] at h
  have hm : (o, j) ∈ ops.toList.zipIdx := by
    rw [List.mk_mem_zipIdx_iff_getElem?]
    simpa using ho
  have h1 := h _ hm
  simp only [Bool.and_eq_true] at h1
  obtain ⟨⟨h1, h2⟩, h3⟩ := h1
  refine ⟨fun e he hb => ?_, fun i hi => ?_, fun i hij hi => ?_⟩
  · have := List.all_eq_true.1 h1 e (by simpa using he)
    simpa [hb] using this
  · have := List.all_eq_true.1 h2 i (by simpa using hi)
    obtain ⟨e, he, hh⟩ := List.any_eq_true.1 this
    simp only [Bool.and_eq_true, Bool.or_eq_true, beq_iff_eq] at hh
    exact ⟨e, by simpa using he, hh.1, hh.2⟩
  · have := List.all_eq_true.1 h3 i (by simpa using hij)
    simp only [Bool.or_eq_true] at this
    simp only at hi
    rw [hi] at this
    rcases this with this | this
    · cases this
    · cases hx : l[i]? with
      | none => rw [hx] at this; cases this
      | some x =>
        cases hy : l[j]? with
        | none => rw [hx, hy] at this; cases this
        | some y => rw [hx, hy] at this; exact ⟨x, y, rfl, rfl, this⟩

theorem At.ahd {φ0 φ : Phi} {St0 : Nat → Prop} {w0 : World} {s0 s : S} {a0 a : Act} (h : At φ0 φ St0 St Mine w0 w s0 s a0 a) (y : I) : Ahd y s :=
  .inr ⟨fun b hb => h.g.wr.bnd b hb, fun _ t _ => low_of_rep h.g.wr (h.env t)⟩

theorem draw_sound {Γ : Env} (hΓ : EnvOK P Γ) {k : Nat} (hk : ExOK P Γ k) {ops : Array Oper} {is : List I} (hc : ops.toList.mapM (compI P ops) = some is) (he : effB Γ.md ops is = true)
    {φ0 : Phi} {St0 : Nat → Prop} {w0 : World} {s0 : S} {a0 : Act} {s' : S} (hd : ∀ i ∈ is, ∀ d, i.d = some d → d < a0.tmps.size) :
    ∀ (n : Nat) (listed : Array Bool) (U : List Nat) (s : S) (φ : Phi) (St : Nat → Prop) (w : World) (a : Act), listed.size = ops.size → (∀ j, j ∈ U ↔ j < ops.size ∧ listed.getD j true = false) → U.Pairwise (· < ·) → U.length ≤ n →
      (∀ j i (b : Nat → Nat → Bool), (∀ j o, ops[j]? = some o → (∀ i, b j i = true → ∃ e ∈ o.after, Region.binds .any e = true ∧ (e.on = i ∨ b e.on i = true))) → j < ops.size → listed.getD j true = true → b j i = true → i < ops.size → listed.getD i true = true) →
      runI (callV Γ (ex Γ k)) (U.filterMap (is[·]?)) s = some s' → At φ0 φ St0 St Mine w0 w s0 s a0 a → wpAny P .any ops (Post φ0 St0 Mine w0 s0 a0 (.n s')) n listed a w := by
  obtain ⟨hlen, hget⟩ := mapM_get hc
  obtain ⟨b, hb⟩ := effB_spec he
  have hbs : ∀ j o, ops[j]? = some o → (∀ i, b j i = true → ∃ e ∈ o.after, Region.binds .any e = true ∧ (e.on = i ∨ b e.on i = true)) := fun j o ho => (hb j o ho).2.1
  have listedT : ∀ {listed : Array Bool} {j : Nat}, listed.size = ops.size → listed.getD j false = true → listed.getD j true = true := by
    intro listed j hsz h
    cases hx : listed[j]? with
    | none => simp [hx] at h
    | some x => simpa [hx] using h
  have listedF : ∀ {listed : Array Bool} {j : Nat}, listed.size = ops.size → j < ops.size → listed.getD j true = true → listed.getD j false = true := by
    intro listed j hsz hj h
    cases hx : listed[j]? with
    | none => rw [Array.getElem?_eq_none_iff] at hx; omega
    | some x => simpa [hx] using h
  intro n
  induction n with
  | zero =>
    intro listed U s φ St w a hsz hU hp hl hdn hr hat
    obtain rfl : U = [] := List.length_eq_zero_iff.1 (by omega)
    simp only [List.filterMap_nil, runI, Option.some.injEq] at hr
    subst hr
    refine ⟨?_, hat.post⟩
    rw [List.eq_nil_iff_forall_not_mem]
    intro j hj
    obtain ⟨h0, o, ho, _⟩ := mem_ready.1 hj
    have := (hU j).2 ⟨(Array.getElem?_eq_some_iff.1 ho).1, h0⟩
    simp at this
  | succ n ih =>
    intro listed U s φ St w a hsz hU hp hl hdn hr hat
    refine ⟨fun hnil => ?_, fun i hi => ?_⟩
    · cases U with
      | nil =>
        simp only [List.filterMap_nil, runI, Option.some.injEq] at hr
        subst hr
        exact hat.post
      | cons j U =>
        exfalso
        obtain ⟨hj, hj0⟩ := (hU j).1 (by simp)
        have ho : ops[j]? = some ops[j] := Array.getElem?_eq_getElem hj
        have : j ∈ Region.ready .any ops listed := mem_ready.2 ⟨hj0, _, ho, fun e he hbd => by
          have hlt := (hb j _ ho).1 e he hbd
          refine listedF hsz (by omega) ?_
          cases hx : listed.getD e.on true with
          | true => rfl
          | false =>
            have := (hU e.on).2 ⟨by omega, hx⟩
            rcases List.mem_cons.1 this with h | h
            · omega
            · have := (List.pairwise_cons.1 hp).1 _ h; omega⟩
        rw [hnil] at this; cases this
    · obtain ⟨h0, o, ho, hall⟩ := mem_ready.1 hi
      have hiN : i < ops.size := (Array.getElem?_eq_some_iff.1 ho).1
      obtain ⟨pre, post, rfl⟩ := List.append_of_mem ((hU i).2 ⟨hiN, h0⟩)
      obtain ⟨y, hy, hcy⟩ := hget i o (by simpa using ho)
      have hmem : y ∈ is := List.mem_of_getElem? hy
      rw [List.filterMap_append, List.filterMap_cons, hy] at hr
      simp only at hr
      have hpre : ∀ p ∈ pre, p < i := fun p hp' => (List.pairwise_append.1 hp).2.2 p hp' i (by simp)
      have hap : ∀ x ∈ pre.filterMap (is[·]?), apartI Γ.md x y = true := by
        intro x hx
        obtain ⟨p, hp', hxp⟩ := List.mem_filterMap.1 hx
        obtain ⟨hpN, hpl⟩ := (hU p).1 (by simp [hp'])
        have hbf : b i p = false := by
          cases hbt : b i p with
          | false => rfl
          | true =>
            exfalso
            obtain ⟨e, he1, he2, he3⟩ := hbs i o ho p hbt
            have hel := hall e he1 he2
            have heN : e.on < ops.size := by have := (hb i o ho).1 e he1 he2; omega
            rcases he3 with rfl | he3
            · rw [listedT hsz hel] at hpl; cases hpl
            · rw [hdn e.on p b hbs heN (listedT hsz hel) he3 hpN] at hpl; cases hpl
        obtain ⟨x', y', hx', hy', hap⟩ := (hb i o ho).2.2 p (hpre p hp') hbf
        rw [hxp] at hx'; obtain rfl := Option.some.inj hx'
        rw [hy] at hy'; obtain rfl := Option.some.inj hy'
        exact hap
      obtain ⟨u, s1, hres, hr'⟩ := pull _ s s' hap (hat.ahd y) hr
      unfold wpOp
      rw [ho]
      simp only
      have hstep := hat.step (Q := Post φ0 St0 Mine w0 s0 a0 (.n s')) (K := wpAny P .any ops (Post φ0 St0 Mine w0 s0 a0 (.n s')) n (listed.setIfInBounds i true)) hΓ hk hcy (hd y hmem) (s1 := s1.put y.d u) (by
        unfold res at hres
        split at hres
        · exact .inl ⟨‹_›, u, s1, hres, rfl⟩
        · obtain ⟨rfl, rfl⟩ := Prod.mk.inj (Option.some.inj hres)
          exact .inr ⟨‹_›, rfl⟩
        · cases hres) (fun φ' St' w' a' hat' => by
        refine ih _ (pre ++ post) _ φ' St' w' a' (by simp [hsz]) (fun j => ?_) ?_ ?_ ?_ (by rw [List.filterMap_append]; exact hr') hat'
        · by_cases hji : j = i
          · subst hji
            have h1 : j ∉ pre ++ post := by
              intro hm
              rcases List.mem_append.1 hm with hm | hm
              · exact absurd (hpre j hm) (by omega)
              · have := (List.pairwise_cons.1 (List.pairwise_append.1 hp).2.1).1 j hm; omega
            have h2 : (listed.setIfInBounds j true).getD j true = true := by simp
            simp only [h1, h2, false_iff, not_and, Bool.true_eq_false, not_false_eq_true, implies_true]
          · rw [getD_set_ne true (Ne.symm hji)]
            rw [← hU j]
            simp [hji]
        · have := hp.sublist (l₁ := pre ++ post) (List.Sublist.append (List.Sublist.refl _) (List.sublist_cons_self _ _))
          exact this
        · simp only [List.length_append, List.length_cons] at hl ⊢; omega
        · intro j p bb hbb hj hjl hbj hpN
          by_cases hji : j = i
          · subst hji
            obtain ⟨e, he1, he2, he3⟩ := hbb j o ho p hbj
            have hel := hall e he1 he2
            have heN : e.on < ops.size := by have := (hb j o ho).1 e he1 he2; omega
            refine listedT (by simp [hsz]) (getD_set_true (listedF hsz hpN ?_))
            rcases he3 with rfl | he3
            · exact listedT hsz hel
            · exact hdn e.on p bb hbb heN (listedT hsz hel) he3 hpN
          · rw [getD_set_ne true (Ne.symm hji)] at hjl
            exact listedT (by simp [hsz]) (getD_set_true (listedF hsz hpN (hdn j p bb hbb hj hjl hbj hpN))))
      split
      · rename_i hw; rw [if_pos hw] at hstep; exact .inl hstep
      · rename_i hw; rw [if_neg hw] at hstep; exact hstep

end Go.Am

/- The A-machine, part 20: all code; the machine is sound. -/
namespace Go.Am
variable {P : Program} {St Mine : Nat → Prop} {w : World}

theorem At.of {φ : Phi} {s : S} {a : Act} (q : WR φ St Mine w s.H s.nx) (env : EnvR φ St w s.e a.tmps) : At φ φ St St Mine w w s s a a := ⟨Goes.refl q, env, rfl, rfl⟩

/-- What comes of code that starts where other code has come. -/
theorem At.chain {φ0 φ : Phi} {St0 : Nat → Prop} {w0 : World} {s0 s : S} {a0 a : Act} (h : At φ0 φ St0 St Mine w0 w s0 s a0 a) {r : R} {e : Exit} {a' : Act} {w' : World} (p : Post φ St Mine w s a r e a' w') : Post φ0 St0 Mine w0 s0 a0 r e a' w' := by
  unfold Post at p ⊢
  split
  · obtain ⟨φ', St', g, h1, h2, h3⟩ := p
    exact ⟨φ', St', h.g.trans g, h1, h2.trans h.sz, h3.trans h.df⟩
  · obtain ⟨φ', St', g, h1, h2, h3⟩ := p
    exact ⟨φ', St', h.g.trans g, h1, h2.trans h.sz, h3.trans h.df⟩
  · obtain ⟨hi, φ', St', g, h1, h2, h3⟩ := p
    exact ⟨hi, φ', St', h.g.trans g, h1, h2.trans h.sz, h3.trans h.df⟩
  · split at p <;> first | exact p.elim | simp_all

theorem Post.at {φ : Phi} {s s' : S} {a a' : Act} {w' : World} (p : Post φ St Mine w s a (.n s') .normal a' w') : ∃ φ' St', At φ φ' St St' Mine w w' s s' a a' := by
  obtain ⟨φ', St', g, h1, h2, h3⟩ := p
  exact ⟨φ', St', g, h1, h2, h3⟩

theorem Post.normal {φ : Phi} {s s' : S} {a a' : Act} {w' : World} {e : Exit} (p : Post φ St Mine w s a (.n s') e a' w') : e = .normal := by
  cases e <;> first | rfl | exact p.elim

/-- The loop, by rounds. -/
def LpOK (P : Program) (Γ : Env) (k : Nat) : Prop :=
  ∀ (c : Code) (s : S) (r : R) (φ : Phi) (St Mine : Nat → Prop) (w : World) (a : Act), ex Γ k (.lp (compC P Γ.md c)) s = some r → dstsOk a.tmps.size (compC P Γ.md c) = true →
    WR φ St Mine w s.H s.nx → EnvR φ St w s.e a.tmps → Code.rounds P c (Post φ St Mine w s a r) k a w

theorem rounds_mono {c : Code} {Q Q' : Exit → Act → World → Prop} (h : ∀ e a w, Q e a w → Q' e a w) : ∀ (n : Nat) (a : Act) (w : World), Code.rounds P c Q n a w → Code.rounds P c Q' n a w
  | 0, _, _, hh => hh
  | n + 1, a, w, hh => by
    rw [rounds_succ] at hh ⊢
    refine wp_mono hh fun e a w he => ?_
    cases e with
    | normal => exact rounds_mono h n a w he
    | _ => exact h _ _ _ he

theorem filterMap_range' {α : Type} : ∀ (l pre : List α), (List.range' pre.length l.length).filterMap ((pre ++ l)[·]?) = l
  | [], _ => rfl
  | x :: l, pre => by
    have := filterMap_range' l (pre ++ [x])
    simp only [List.append_assoc, List.singleton_append, List.length_append, List.length_singleton] at this
    rw [List.length_cons, List.range'_succ, List.filterMap_cons]
    simp only [List.getElem?_append_right (Nat.le_refl _), Nat.sub_self, List.getElem?_cons_zero]
    rw [this]
theorem filterMap_range {α : Type} (l : List α) : (List.range l.length).filterMap (l[·]?) = l := by
  rw [List.range_eq_range']
  exact filterMap_range' l []

theorem ex_sound {Γ : Env} (hΓ : EnvOK P Γ) : ∀ k, ExOK P Γ k ∧ LpOK P Γ k
  | 0 => ⟨by intro c s r φ St Mine w a h; simp [ex] at h, by intro c s r φ St Mine w a h; simp [ex] at h⟩
  | k + 1 => by
    obtain ⟨ih, ihl⟩ := ex_sound hΓ k
    have lp : LpOK P Γ (k + 1) := by
      intro c s r φ St Mine w a h hd q env
      simp only [ex] at h
      rw [rounds_succ]
      split at h
      · rename_i s1 h1
        refine wp_mono (ih c s _ φ St Mine w a h1 hd q env) fun e a' w' p => ?_
        obtain rfl := p.normal
        obtain ⟨φ', St', hat⟩ := p.at
        refine rounds_mono (fun e a2 w2 => hat.chain) _ _ _ (ihl c s1 r φ' St' Mine w' a' h (by rw [hat.sz]; exact hd) hat.g.wr hat.env)
      · rename_i hr
        refine wp_mono (ih c s _ φ St Mine w a h hd q env) fun e a' w' p => ?_
        cases e with
        | normal =>
          cases r with
          | n s1 => exact absurd h (hr s1)
          | x i s1 => exact p.elim
          | r s1 => exact p.elim
        | _ => exact p
    refine ⟨fun c s r φ St Mine w a h hd q env => ?_, lp⟩
    cases c with
    | skip =>
      simp only [compC, ex, Option.some.injEq] at h
      subst h
      exact wp_skip (At.of q env).post
    | region id ops draw =>
      simp only [compC] at h hd
      split at h
      case h_2 => cases h
      rename_i is his
      rw [his] at hd
      simp only at hd
      have fin : ∀ c', c' = C.rg is → ex Γ (k + 1) c' s = some r → ∃ s1, r = .n s1 ∧ runI (callV Γ (ex Γ k)) is s = some s1 := by
        rintro c' rfl h
        simp only [ex] at h
        split at h
        · rename_i s1 hr
          exact ⟨s1, (Option.some.inj h).symm, hr⟩
        · cases h
      cases draw with
      | false =>
        simp only [Bool.false_eq_true, if_false] at h hd
        obtain ⟨s1, rfl, hr⟩ := fin _ rfl h
        refine wp_region_list (list_sound hΓ ih _ is s s1 φ St w a his hr (fun i hi d hdd => ?_) (At.of q env))
        have := List.all_eq_true.1 hd i hi
        rw [hdd] at this
        simpa using this
      | true =>
        simp only [if_true] at h hd
        split at h
        case isFalse => cases h
        rename_i heff
        rw [if_pos heff] at hd
        obtain ⟨s1, rfl, hr⟩ := fin _ rfl h
        have hd' : ∀ i ∈ is, ∀ d, i.d = some d → d < a.tmps.size := fun i hi d hdd => by
          have := List.all_eq_true.1 hd i hi
          rw [hdd] at this
          simpa using this
        have hlen : is.length = ops.size := by simpa using (mapM_get his).1
        refine wp_region_any hΓ.mixed (draw_sound hΓ ih his heff hd' ops.size _ (List.range ops.size) s φ St _ a (by simp) (fun j => ?_) List.pairwise_lt_range (by simp) ?_ ?_ ?_)
        · rw [List.mem_range]
          constructor
          · intro hj; refine ⟨hj, ?_⟩
            simp [hj]
          · exact fun h => h.1
        · intro j i b _ hj hl
          exfalso
          simp [hj] at hl
        · have := filterMap_range is
          rw [hlen] at this
          rw [this]; exact hr
        · exact ⟨⟨q.drawn, Ext.refl _ _, Nat.le_refl _, fun _ h => h, stp_drawn, fun h => h, fun _ _ h => h⟩, fun t => (env t).drawn, rfl, rfl⟩
    | seq x y =>
      simp only [compC, ex] at h
      simp only [compC, dstsOk, Bool.and_eq_true] at hd
      split at h
      · rename_i s1 h1
        refine wp_seq (wp_mono (ih x s _ φ St Mine w a h1 hd.1 q env) fun e a' w' p => ?_)
        obtain rfl := p.normal
        obtain ⟨φ', St', hat⟩ := p.at
        exact wp_mono (ih y s1 r φ' St' Mine w' a' h (by rw [hat.sz]; exact hd.2) hat.g.wr hat.env) fun e a2 w2 => hat.chain
      · rename_i hr
        refine wp_seq (wp_mono (ih x s _ φ St Mine w a h hd.1 q env) fun e a' w' p => ?_)
        cases e with
        | normal =>
          cases r with
          | n s1 => exact absurd h (hr s1)
          | x i s1 => exact p.elim
          | r s1 => exact p.elim
        | _ => exact p
    | cond o x y =>
      simp only [compC] at h hd
      split at h
      case h_2 => cases h
      rename_i o' ho
      rw [ho] at hd
      simp only [dstsOk, Bool.and_eq_true] at hd
      simp only [ex] at h
      have hro := rep_toO env ho
      split at h
      · rename_i hv
        rw [hv] at hro
        simp only [Rep] at hro
        exact wp_cond_true hro (ih x s r φ St Mine w a h hd.1 q env)
      · rename_i hv
        rw [hv] at hro
        simp only [Rep] at hro
        exact wp_cond_false hro (ih y s r φ St Mine w a h hd.2 q env)
      · cases h
    | block id x =>
      simp only [compC, ex] at h
      simp only [compC, dstsOk] at hd
      refine wp_block ?_
      split at h
      · rename_i j s1 h1
        refine wp_mono (ih x s _ φ St Mine w a h1 hd q env) fun e a' w' p => ?_
        cases e with
        | exit i =>
          obtain ⟨rfl, φ', St', p⟩ := p
          simp only [Exit.inBlock]
          split at h
          · rename_i hj
            obtain rfl := Option.some.inj h
            rw [if_pos hj]; exact ⟨φ', St', p⟩
          · rename_i hj
            obtain rfl := Option.some.inj h
            rw [if_neg hj]; exact ⟨rfl, φ', St', p⟩
        | _ => exact p.elim
      · rename_i hr
        refine wp_mono (ih x s _ φ St Mine w a h hd q env) fun e a' w' p => ?_
        cases e with
        | exit i =>
          cases r with
          | x j s1 => exact absurd h (hr j s1)
          | n s1 => exact p.elim
          | r s1 => exact p.elim
        | _ => exact p
    | loop x =>
      simp only [compC] at h
      simp only [compC, dstsOk] at hd
      exact wp_loop_rounds (k + 1) (lp x s r φ St Mine w a h hd q env)
    | exit id =>
      simp only [compC, ex, Option.some.injEq] at h
      subst h
      exact wp_exit ⟨rfl, φ, St, Goes.refl q, env, rfl, rfl⟩
    | ret =>
      simp only [compC, ex, Option.some.injEq] at h
      subst h
      exact wp_ret ⟨φ, St, Goes.refl q, env, rfl, rfl⟩
    | _ => simp only [compC, ex] at h; cases h

/-- What a call comes to on trees, it comes to in the machine. -/
theorem iso_ok {Γ : Env} (hΓ : EnvOK P Γ) {k f : Nat} {ms : List M} (hmd : Γ.md f = some ms) {args : List V} {res : V} {us : List V} (h : isoCall Γ (ex Γ k) f ms args = some (res, us)) : IsoOK P f ms args res us :=
  (iso_sound hΓ (ex_sound hΓ k).1 hmd h).1

end Go.Am

/- The A-machine, part 21: the evaluation without fuel. -/
namespace Go.Am

/-- What e1 says, e2 says. -/
def Le (e1 e2 : C → S → Option R) : Prop := ∀ c s r, e1 c s = some r → e2 c s = some r

theorem isoCall_one {Γ : Env} {e : C → S → Option R} {f : Nat} {ms : List M} {args : List V} {x : V × List V} (h : isoCall Γ e f ms args = some x) :
    ∃ q : Option (C × S × R), (∀ c s r, q = some (c, s, r) → e c s = some r) ∧ ∀ e' : C → S → Option R, (∀ c s r, q = some (c, s, r) → e' c s = some r) → isoCall Γ e' f ms args = some x := by
  unfold isoCall at h ⊢
  cases hpr : Γ.pr f with
  | some p =>
    rw [hpr] at h
    exact ⟨none, fun _ _ _ hh => by simp at hh, fun e' _ => h⟩
  | none =>
    rw [hpr] at h
    simp only at h ⊢
    cases hT : Γ.T f with
    | none => rw [hT] at h; cases h
    | some F =>
      rw [hT] at h
      simp only at h ⊢
      split at h
      case isFalse => cases h
      rename_i hl
      cases ht : takeL (takeIn DEP) args { e := fun _ => .un, H := fun _ => none, nx := 0 } with
      | none => rw [ht] at h; cases h
      | some y =>
        obtain ⟨vals, s0⟩ := y
        rw [ht] at h
        simp only at h
        cases hq : e F.body { e := envOf vals, H := s0.H, nx := s0.nx } with
        | none => rw [hq] at h; cases h
        | some r =>
          refine ⟨some (F.body, { e := envOf vals, H := s0.H, nx := s0.nx }, r), fun c s r' hh => ?_, fun e' he' => ?_⟩
          · cases hh; exact hq
          · rw [if_pos hl]
            simp only
            rw [he' _ _ _ rfl]
            rw [hq] at h
            exact h

theorem callV_one {Γ : Env} {e : C → S → Option R} {fv : V} {args : List V} {s : S} {x : V × S} (h : callV Γ e fv args s = some x) :
    ∃ q : Option (C × S × R), (∀ c s r, q = some (c, s, r) → e c s = some r) ∧ ∀ e' : C → S → Option R, (∀ c s r, q = some (c, s, r) → e' c s = some r) → callV Γ e' fv args s = some x := by
  rw [callV_eq] at h
  simp only [callV_eq]
  cases hf : fnOf fv with
  | none => rw [hf] at h; cases h
  | some y =>
    obtain ⟨f, caps⟩ := y
    rw [hf] at h
    simp only at h ⊢
    cases hm : Γ.md f with
    | none =>
      rw [hm] at h
      simp only at h ⊢
      cases hT : Γ.T f with
      | none => rw [hT] at h; cases h
      | some F =>
        rw [hT] at h
        simp only at h ⊢
        split at h
        case isFalse => cases h
        rename_i hl
        cases hq : e F.body { s with e := envOf (args ++ caps) } with
        | none => rw [hq] at h; cases h
        | some r =>
          refine ⟨some (F.body, { s with e := envOf (args ++ caps) }, r), fun c s r' hh => ?_, fun e' he' => ?_⟩
          · cases hh; exact hq
          · rw [if_pos hl]
            rw [he' _ _ _ rfl]
            rw [hq] at h
            exact h
    | some ms =>
      rw [hm] at h
      simp only at h ⊢
      cases hh : handL s.H ms (args ++ caps) with
      | none => rw [hh] at h; cases h
      | some y =>
        obtain ⟨ts, rs, os⟩ := y
        rw [hh] at h
        simp only at h ⊢
        split at h
        case isFalse => cases h
        rename_i hc
        cases hi : isoCall Γ e f ms ts with
        | none => rw [hi] at h; cases h
        | some z =>
          obtain ⟨q, h1, h2⟩ := isoCall_one hi
          refine ⟨q, h1, fun e' he' => ?_⟩
          rw [if_pos hc, h2 e' he']
          rw [hi] at h
          exact h

theorem callV_le {Γ : Env} {e1 e2 : C → S → Option R} (h : Le e1 e2) {fv : V} {args : List V} {s : S} {x : V × S} (hx : callV Γ e1 fv args s = some x) : callV Γ e2 fv args s = some x := by
  obtain ⟨q, h1, h2⟩ := callV_one hx
  exact h2 e2 fun c s r hq => h _ _ _ (h1 c s r hq)

theorem opA_le {Γ : Env} {e1 e2 : C → S → Option R} (h : Le e1 e2) {s : S} {a : A} {x : V × S} (hx : opA (callV Γ e1) s a = some x) : opA (callV Γ e2) s a = some x := by
  by_cases hca : ∃ f xs, a = .ca f xs
  · obtain ⟨f, xs, rfl⟩ := hca
    exact callV_le h hx
  · rw [opA_noca (ca' := callV Γ e1)]
    · exact hx
    · exact fun f xs hh => hca ⟨f, xs, hh⟩

theorem runI_le {Γ : Env} {e1 e2 : C → S → Option R} (h : Le e1 e2) : ∀ {l : List I} {s s' : S}, runI (callV Γ e1) l s = some s' → runI (callV Γ e2) l s = some s'
  | [], s, s', hx => hx
  | i :: l, s, s', hx => by
    rw [runI_cons] at hx ⊢
    split at hx
    · rename_i hg
      try rw [hg]
      try simp only
      split at hx
      · rename_i v s1 hv
        rw [opA_le h hv]
        exact runI_le h hx
      · cases hx
    · rename_i hg
      try rw [hg]
      exact runI_le h hx
    · cases hx

section
variable (Γ : Env) (k : Nat)
theorem ex_rg (l : List I) (s : S) : ex Γ (k + 1) (.rg l) s = match runI (callV Γ (ex Γ k)) l s with | some s1 => some (.n s1) | none => none := rfl
theorem ex_seq (a b : C) (s : S) : ex Γ (k + 1) (.seq a b) s = match ex Γ k a s with | some (.n s1) => ex Γ k b s1 | r => r := rfl
theorem ex_cond (o : O) (a b : C) (s : S) : ex Γ (k + 1) (.cond o a b) s = match val s.e o with | .im (.bool true) => ex Γ k a s | .im (.bool false) => ex Γ k b s | _ => none := rfl
theorem ex_blk (id : Nat) (a : C) (s : S) : ex Γ (k + 1) (.blk id a) s = match ex Γ k a s with | some (.x j s1) => if j = id then some (.n s1) else some (.x j s1) | r => r := rfl
theorem ex_lp (a : C) (s : S) : ex Γ (k + 1) (.lp a) s = match ex Γ k a s with | some (.n s1) => ex Γ k (.lp a) s1 | r => r := rfl
end

theorem ex_le_succ (Γ : Env) : ∀ k, Le (ex Γ k) (ex Γ (k + 1))
  | 0 => fun c s r h => by simp [ex] at h
  | k + 1 => by
    have ih := ex_le_succ Γ k
    intro c s r h
    cases c with
    | skip => exact h
    | rg l =>
      rw [ex_rg] at h ⊢
      split at h
      · rename_i s1 h1; rw [runI_le ih h1]; exact h
      · cases h
    | seq a b =>
      rw [ex_seq] at h ⊢
      cases ha : ex Γ k a s with
      | none => rw [ha] at h; cases h
      | some r1 =>
        rw [ha] at h
        rw [ih _ _ _ ha]
        cases r1 with
        | n s1 => exact ih _ _ _ h
        | x j s1 => exact h
        | r s1 => exact h
    | cond o a b =>
      rw [ex_cond] at h ⊢
      split at h
      · rename_i hv; try rw [hv]
        exact ih _ _ _ h
      · rename_i hv; try rw [hv]
        exact ih _ _ _ h
      · cases h
    | blk id a =>
      rw [ex_blk] at h ⊢
      cases ha : ex Γ k a s with
      | none => rw [ha] at h; cases h
      | some r1 =>
        rw [ha] at h
        rw [ih _ _ _ ha]
        exact h
    | lp a =>
      rw [ex_lp] at h ⊢
      cases ha : ex Γ k a s with
      | none => rw [ha] at h; cases h
      | some r1 =>
        rw [ha] at h
        rw [ih _ _ _ ha]
        cases r1 with
        | n s1 => exact ih _ _ _ h
        | x j s1 => exact h
        | r s1 => exact h
    | ex id => exact h
    | ret => exact h
    | no => simp [ex] at h

theorem ex_le (Γ : Env) {k n : Nat} (h : k ≤ n) : Le (ex Γ k) (ex Γ n) := by
  induction h with
  | refl => exact fun _ _ _ h => h
  | step _ ih => exact fun c s r hr => ex_le_succ Γ _ _ _ _ (ih c s r hr)

open Classical in
/-- The evaluation, with as much fuel as it takes. -/
noncomputable def EX (Γ : Env) (c : C) (s : S) : Option R := if h : ∃ k r, ex Γ k c s = some r then some (Classical.choose (Classical.choose_spec h)) else none

theorem EX_iff {Γ : Env} {c : C} {s : S} {r : R} : EX Γ c s = some r ↔ ∃ k, ex Γ k c s = some r := by
  classical
  unfold EX
  constructor
  · intro h
    split at h
    · rename_i hh
      refine ⟨Classical.choose hh, ?_⟩
      rw [← Option.some.inj h]
      exact Classical.choose_spec (Classical.choose_spec hh)
    · cases h
  · rintro ⟨k, hk⟩
    have hh : ∃ k r, ex Γ k c s = some r := ⟨k, r, hk⟩
    rw [dif_pos hh]
    have h1 := Classical.choose_spec (Classical.choose_spec hh)
    have h2 := ex_le Γ (Nat.le_max_left k (Classical.choose hh)) _ _ _ hk
    have h3 := ex_le Γ (Nat.le_max_right k (Classical.choose hh)) _ _ _ h1
    rw [h2] at h3
    exact h3.symm

theorem le_EX (Γ : Env) (k : Nat) : Le (ex Γ k) (EX Γ) := fun _ _ _ h => EX_iff.2 ⟨k, h⟩

theorem callV_fin {Γ : Env} {fv : V} {args : List V} {s : S} {x : V × S} (h : callV Γ (EX Γ) fv args s = some x) : ∃ k, callV Γ (ex Γ k) fv args s = some x := by
  obtain ⟨q, h1, h2⟩ := callV_one h
  cases q with
  | none => exact ⟨0, h2 _ fun _ _ _ hh => by simp at hh⟩
  | some y =>
    obtain ⟨c, s0, r⟩ := y
    obtain ⟨k, hk⟩ := EX_iff.1 (h1 c s0 r rfl)
    refine ⟨k, h2 _ fun c' s' r' hh => ?_⟩
    cases hh; exact hk

theorem isoCall_fin {Γ : Env} {f : Nat} {ms : List M} {args : List V} {x : V × List V} (h : isoCall Γ (EX Γ) f ms args = some x) : ∃ k, isoCall Γ (ex Γ k) f ms args = some x := by
  obtain ⟨q, h1, h2⟩ := isoCall_one h
  cases q with
  | none => exact ⟨0, h2 _ fun _ _ _ hh => by simp at hh⟩
  | some y =>
    obtain ⟨c, s0, r⟩ := y
    obtain ⟨k, hk⟩ := EX_iff.1 (h1 c s0 r rfl)
    refine ⟨k, h2 _ fun c' s' r' hh => ?_⟩
    cases hh; exact hk

theorem runI_fin {Γ : Env} : ∀ {l : List I} {s s' : S}, runI (callV Γ (EX Γ)) l s = some s' → ∃ k, runI (callV Γ (ex Γ k)) l s = some s'
  | [], s, s', h => ⟨0, h⟩
  | i :: l, s, s', h => by
    obtain ⟨s1, hx, h⟩ := runI_step h
    obtain ⟨k2, h2⟩ := runI_fin h
    rcases hx with ⟨hg, v, s2, hv, rfl⟩ | ⟨hg, rfl⟩
    · have : ∃ k1, opA (callV Γ (ex Γ k1)) s i.a = some (v, s2) := by
        by_cases hca : ∃ f xs, i.a = .ca f xs
        · obtain ⟨f, xs, e⟩ := hca
          rw [e] at hv ⊢
          exact callV_fin hv
        · refine ⟨0, ?_⟩
          rw [opA_noca (ca' := callV Γ (EX Γ))]
          · exact hv
          · exact fun f xs hh => hca ⟨f, xs, hh⟩
      obtain ⟨k1, h1⟩ := this
      refine ⟨max k1 k2, ?_⟩
      rw [runI_cons, hg]
      simp only
      rw [opA_le (ex_le Γ (Nat.le_max_left _ _)) h1]
      exact runI_le (ex_le Γ (Nat.le_max_right _ _)) h2
    · refine ⟨k2, ?_⟩
      rw [runI_cons, hg]
      exact h2

theorem opt_ext {α : Type} {x y : Option α} (h1 : ∀ r, x = some r → y = some r) (h2 : ∀ r, y = some r → x = some r) : x = y := by
  cases x with
  | some r => exact (h1 r rfl).symm
  | none =>
    cases y with
    | none => rfl
    | some r => exact h2 r rfl

/-! The equations. -/
theorem EX_skip (Γ : Env) (s : S) : EX Γ .skip s = some (.n s) := EX_iff.2 ⟨1, rfl⟩
theorem EX_ret (Γ : Env) (s : S) : EX Γ .ret s = some (.r s) := EX_iff.2 ⟨1, rfl⟩
theorem EX_ex (Γ : Env) (id : Nat) (s : S) : EX Γ (.ex id) s = some (.x id s) := EX_iff.2 ⟨1, rfl⟩
theorem EX_rg (Γ : Env) (l : List I) (s : S) : EX Γ (.rg l) s = (runI (callV Γ (EX Γ)) l s).map .n := by
  refine opt_ext (fun r h => ?_) fun r h => ?_
  · obtain ⟨k, hk⟩ := EX_iff.1 h
    cases k with
    | zero => simp [ex] at hk
    | succ k =>
      simp only [ex] at hk
      split at hk
      · rename_i s1 h1
        rw [runI_le (le_EX Γ k) h1]; exact hk
      · cases hk
  · obtain ⟨s1, h1, rfl⟩ := Option.map_eq_some_iff.1 h
    obtain ⟨k, hk⟩ := runI_fin h1
    exact EX_iff.2 ⟨k + 1, by simp only [ex]; rw [hk]⟩
theorem EX_seq (Γ : Env) (a b : C) (s : S) : EX Γ (.seq a b) s = match EX Γ a s with | some (.n s1) => EX Γ b s1 | r => r := by
  refine opt_ext (fun r h => ?_) fun r h => ?_
  · obtain ⟨k, hk⟩ := EX_iff.1 h
    cases k with
    | zero => simp [ex] at hk
    | succ k =>
      simp only [ex] at hk
      cases ha : ex Γ k a s with
      | none => rw [ha] at hk; cases hk
      | some r1 =>
        rw [ha] at hk
        rw [le_EX Γ k _ _ _ ha]
        cases r1 with
        | n s1 => exact le_EX Γ k _ _ _ hk
        | x j s1 => exact hk
        | r s1 => exact hk
  · cases ha : EX Γ a s with
    | none => rw [ha] at h; cases h
    | some r1 =>
      rw [ha] at h
      obtain ⟨k1, h1⟩ := EX_iff.1 ha
      cases r1 with
      | n s1 =>
        obtain ⟨k2, h2⟩ := EX_iff.1 h
        refine EX_iff.2 ⟨max k1 k2 + 1, ?_⟩
        simp only [ex]
        rw [ex_le Γ (Nat.le_max_left _ _) _ _ _ h1]
        exact ex_le Γ (Nat.le_max_right _ _) _ _ _ h2
      | x j s1 => refine EX_iff.2 ⟨k1 + 1, ?_⟩; simp only [ex]; rw [h1]; exact h
      | r s1 => refine EX_iff.2 ⟨k1 + 1, ?_⟩; simp only [ex]; rw [h1]; exact h
theorem EX_cond (Γ : Env) (o : O) (a b : C) (s : S) : EX Γ (.cond o a b) s = match val s.e o with | .im (.bool true) => EX Γ a s | .im (.bool false) => EX Γ b s | _ => none := by
  refine opt_ext (fun r h => ?_) fun r h => ?_
  · obtain ⟨k, hk⟩ := EX_iff.1 h
    cases k with
    | zero => simp [ex] at hk
    | succ k =>
      simp only [ex] at hk
      split at hk
      · rename_i hv; try rw [hv]
        exact le_EX Γ k _ _ _ hk
      · rename_i hv; try rw [hv]
        exact le_EX Γ k _ _ _ hk
      · cases hk
  · split at h
    · rename_i hv
      obtain ⟨k, hk⟩ := EX_iff.1 h
      exact EX_iff.2 ⟨k + 1, by simp only [ex]; rw [hv]; exact hk⟩
    · rename_i hv
      obtain ⟨k, hk⟩ := EX_iff.1 h
      exact EX_iff.2 ⟨k + 1, by simp only [ex]; rw [hv]; exact hk⟩
    · cases h
theorem EX_blk (Γ : Env) (id : Nat) (a : C) (s : S) : EX Γ (.blk id a) s = match EX Γ a s with | some (.x j s1) => if j = id then some (.n s1) else some (.x j s1) | r => r := by
  refine opt_ext (fun r h => ?_) fun r h => ?_
  · obtain ⟨k, hk⟩ := EX_iff.1 h
    cases k with
    | zero => simp [ex] at hk
    | succ k =>
      simp only [ex] at hk
      cases ha : ex Γ k a s with
      | none => rw [ha] at hk; cases hk
      | some r1 => rw [ha] at hk; rw [le_EX Γ k _ _ _ ha]; exact hk
  · cases ha : EX Γ a s with
    | none => rw [ha] at h; cases h
    | some r1 =>
      rw [ha] at h
      obtain ⟨k1, h1⟩ := EX_iff.1 ha
      exact EX_iff.2 ⟨k1 + 1, by simp only [ex]; rw [h1]; exact h⟩
theorem EX_lp (Γ : Env) (a : C) (s : S) : EX Γ (.lp a) s = match EX Γ a s with | some (.n s1) => EX Γ (.lp a) s1 | r => r := by
  refine opt_ext (fun r h => ?_) fun r h => ?_
  · obtain ⟨k, hk⟩ := EX_iff.1 h
    cases k with
    | zero => simp [ex] at hk
    | succ k =>
      simp only [ex] at hk
      cases ha : ex Γ k a s with
      | none => rw [ha] at hk; cases hk
      | some r1 =>
        rw [ha] at hk
        rw [le_EX Γ k _ _ _ ha]
        cases r1 with
        | n s1 => exact le_EX Γ k _ _ _ hk
        | x j s1 => exact hk
        | r s1 => exact hk
  · cases ha : EX Γ a s with
    | none => rw [ha] at h; cases h
    | some r1 =>
      rw [ha] at h
      obtain ⟨k1, h1⟩ := EX_iff.1 ha
      cases r1 with
      | n s1 =>
        obtain ⟨k2, h2⟩ := EX_iff.1 h
        refine EX_iff.2 ⟨max k1 k2 + 1, ?_⟩
        simp only [ex]
        rw [ex_le Γ (Nat.le_max_left _ _) _ _ _ h1]
        exact ex_le Γ (Nat.le_max_right _ _) _ _ _ h2
      | x j s1 => refine EX_iff.2 ⟨k1 + 1, ?_⟩; simp only [ex]; rw [h1]; exact h
      | r s1 => refine EX_iff.2 ⟨k1 + 1, ?_⟩; simp only [ex]; rw [h1]; exact h

noncomputable abbrev CV (Γ : Env) := callV Γ (EX Γ)
/-- The call of a function on trees. -/
noncomputable def CALL (Γ : Env) (f : Nat) (ms : List M) (args : List V) : Option (V × List V) := isoCall Γ (EX Γ) f ms args

theorem CALL_ok {P : Program} {Γ : Env} (hΓ : EnvOK P Γ) {f : Nat} {ms : List M} (hmd : Γ.md f = some ms) {args : List V} {res : V} {us : List V} (h : CALL Γ f ms args = some (res, us)) : IsoOK P f ms args res us := by
  obtain ⟨k, hk⟩ := isoCall_fin h
  exact iso_ok hΓ hmd hk

end Go.Am

/- The B-machine, part 1: the A-machine with packed memory and canonical states. -/
namespace Go.Am

/-- Handing over, of slices and boxes that fill their blocks. -/
def giveX : Nat → (Nat → Option Blk) → V → Option (V × List Nat)
  | 0, _, _ => none
  | d + 1, H, v =>
    match v with
    | .im x => some (.im x, [])
    | .st cs => match overL (giveX d H) cs with | some (ts, i) => some (.st ts, i) | none => none
    | .cl f cs => if cs = [] then some (.cl f [], []) else none
    | .sl es => some (.sl es, [])
    | .rp v => some (.rp v, [])
    | .e0 => some (.e0, [])
    | .hs b off n c =>
      match H b with
      | some B =>
        if off = 0 ∧ n = B.es.length ∧ c = n then
          match overL (giveX d H) B.es with | some (ts, i) => some (.ow B.k ts, b :: i) | none => none
        else none
      | none => none
    | .hp b i =>
      match H b with
      | some B =>
        if i = 0 then
          match B.es with
          | [e] => match giveX d H e with | some (t, j) => if B.k = t.size then some (.op t, b :: j) else none | none => none
          | _ => none
        else none
      | none => none
    | .tu _ | .hf _ _ _ | .ow _ _ | .op _ => none

/-- A pure tree of at most this depth. -/
def okD : Nat → V → Bool
  | 0, _ => false
  | d + 1, v =>
    match v with
    | .im _ | .sl _ | .rp _ | .e0 => true
    | .st cs | .ow _ cs => allL (okD d) cs
    | .cl _ cs => cs.isEmpty
    | .op v => okD d v
    | _ => false

def pkd : V → Bool
  | .ow _ _ | .op _ => true
  | _ => false

/-- A pure tree as it is read. -/
def roT : Nat → V → Option V
  | 0, _ => none
  | d + 1, v =>
    let go : List V → Option (List V) := fun cs => match overL (fun c => (roT d c).map fun t => (t, [])) cs with | some (ts, _) => some ts | none => none
    match v with
    | .im x => some (.im x)
    | .st cs => (go cs).map .st
    | .cl f cs => (go cs).map (.cl f)
    | .sl es => some (.sl es)
    | .rp v => some (.rp v)
    | .e0 => some (.sl [])
    | .ow _ es => (go es).map .sl
    | .op v => (roT d v).map .rp
    | _ => none

def snapB : Nat → (Nat → Option Blk) → V → Option (V × List Nat)
  | 0, _, _ => none
  | d + 1, H, v =>
    match v with
    | .im x => some (.im x, [])
    | .st cs => match overL (snapB d H) cs with | some (ts, i) => some (.st ts, i) | none => none
    | .cl f cs => match overL (snapB d H) cs with | some (ts, i) => some (.cl f ts, i) | none => none
    | .sl es => some (.sl es, [])
    | .rp v => some (.rp v, [])
    | .e0 => some (.sl [], [])
    | .hs b off n _ =>
      match H b with
      | some B =>
        if off + n ≤ B.es.length then
          match overL (snapB d H) ((B.es.drop off).take n) with | some (ts, i) => some (.sl ts, b :: i) | none => none
        else none
      | none => none
    | .hp b i =>
      match H b with
      | some B => match B.es[i]? with
        | some v => match snapB d H v with | some (t, j) => some (.rp t, b :: j) | none => none
        | none => none
      | none => none
    | .ow k es => (roT (d + 1) (.ow k es)).map fun t => (t, [])
    | .op v => (roT (d + 1) (.op v)).map fun t => (t, [])
    | .tu _ | .hf _ _ _ => none

def giveB : Nat → (Nat → Option Blk) → V → Option (V × List Nat)
  | 0, _, _ => none
  | d + 1, H, v =>
    match v with
    | .im x => some (.im x, [])
    | .st cs => match overL (giveB d H) cs with | some (ts, i) => some (.st ts, i) | none => none
    | .tu cs => match cs with
      | [] => none
      | c :: cs => match overL (giveB d H) (c :: cs) with | some (ts, i) => some (.tu ts, i) | none => none
    | .cl f cs => if cs = [] then some (.cl f [], []) else none
    | .sl es => some (.sl es, [])
    | .rp v => some (.rp v, [])
    | .e0 => some (.e0, [])
    | .hs b off n _ =>
      match H b with
      | some B =>
        if off + n ≤ B.es.length then
          match overL (giveB d H) ((B.es.drop off).take n) with | some (ts, i) => some (.ow B.k ts, b :: i) | none => none
        else none
      | none => none
    | .hp b i =>
      match H b with
      | some B =>
        if i = 0 then
          match B.es with
          | [e] => match giveB d H e with | some (t, j) => some (.op t, b :: j) | none => none
          | _ => none
        else none
      | none => none
    | .ow k es => if okD (d + 1) (.ow k es) then some (.ow k es, []) else none
    | .op v => if okD (d + 1) (.op v) then some (.op v, []) else none
    | .hf _ _ _ => none

/-- A value lent: an empty slice goes as one that is only read. -/
def lendB1 (H : Nat → Option Blk) : V → Option (V × List Nat)
  | .hs b off n c => if n = 0 then some (.sl [], []) else giveB 8 H (.hs b off n c)
  | v => giveB 8 H v
def lendB (H : Nat → Option Blk) : V → Option (V × List Nat)
  | .st cs => match overL (lendB1 H) cs with | some (ts, i) => some (.st ts, i) | none => none
  | v => lendB1 H v

/-- A place of which nothing is known any more. -/
abbrev V.dd : V := .tu []

/-- Taken over, the top alone. -/
def takeB : Nat → V → S → Option (V × S)
  | 0, _, _ => none
  | d + 1, v, s =>
    match v with
    | .im x => some (.im x, s)
    | .st cs => match takeL (takeB d) cs s with | some (vs, s1) => some (.st vs, s1) | none => none
    | .tu cs => match takeL (takeB d) cs s with | some (vs, s1) => some (.tu vs, s1) | none => none
    | .cl f cs => match takeL (takeB d) cs s with | some (vs, s1) => some (.cl f vs, s1) | none => none
    | .sl es => some (.sl es, s)
    | .rp v => some (.rp v, s)
    | .e0 => some (.e0, s)
    | .ow k es => if okD (d + 1) (.ow k es) then some (.hs s.nx 0 es.length es.length, s.new k es) else none
    | .op v => if okD (d + 1) (.op v) then some (.hp s.nx 0, s.new v.size [v]) else none
    | .hs .. | .hp .. | .hf .. => none

/-- A packed value is given a block of its own. -/
def unp1 : V → S → Option (V × S)
  | .ow k es, s => some (.hs s.nx 0 es.length es.length, s.new k es)
  | .op v, s => some (.hp s.nx 0, s.new v.size [v])
  | v, s => some (v, s)
def unp (v : V) (s : S) : Option (V × S) :=
  match v with
  | .st cs => match takeL unp1 cs s with | some (vs, s1) => some (.st vs, s1) | none => none
  | v => unp1 v s

def V.pkc (v : V) : Bool := v.okc || pkd v
/-- What a pointer points to, packed or not. -/
def derefB (H : Nat → Option Blk) : V → Option V
  | .rp v => some v
  | .hp b i => (H b).bind fun B => B.es[i]?
  | .hf b i j => (H b).bind fun B => match B.es[i]? with | some (.st cs) => (cs[j]?).bind fun c => if c.pkc then some c else none | _ => none
  | _ => none
def putB (H : Nat → Option Blk) (p x : V) : Nat → Option Blk :=
  match p with
  | .hp b i => match H b with | some B => upd H b (some { B with es := B.es.set i x }) | none => H
  | .hf b i j => match H b with
    | some B => match B.es[i]? with | some (.st cs) => upd H b (some { B with es := B.es.set i (.st (cs.set j x)) }) | _ => H
    | none => H
  | _ => H
def V.fitsB : Option Nat → V → Bool
  | some n, .st cs => cs.length == n && cs.all V.pkc
  | none, v => v.pkc
  | _, _ => false

def isUn : V → Bool
  | .tu [] => true
  | _ => false

def A.os : A → List O
  | .mv _ | .pk .. | .al .. | .no => []
  | .bx _ x | .ld _ x | .un _ x | .cv _ x | .fd _ x | .fa _ x | .ln x | .ls x | .et x _ | .sb x | .cr _ _ x | .cp x => [x]
  | .so _ a b | .bi _ a b | .be _ a b | .ia _ a b | .ix a b | .ms _ _ a b | .ap _ a b | .az _ _ a b => [a, b]
  | .ss x lo hi => x :: (lo.toList ++ hi.toList)
  | .sc _ x lo hi mx => x :: (lo.toList ++ hi.toList ++ mx.toList)
  | .bs _ xs | .mf _ xs | .mm _ xs => xs
  | .bd _ ps => ps.map fun p => p.2
  | .ca f xs => f :: xs

/-- A value without memory. -/
def pln : V → Bool
  | .im _ | .e0 => true
  | .st cs => cs.all fun c => match c with | .im _ | .e0 => true | _ => false
  | _ => false
def A.zok : A → Bool
  | .al z _ | .ms z _ _ _ | .az _ z _ _ | .cr _ z _ => pln z
  | .bd z _ => z.all fun c => match c with | .im _ | .e0 => true | _ => false
  | _ => true

def O.kok : O → Bool
  | .k v => match v with | .im _ | .e0 | .cl _ [] => true | _ => false
  | _ => true
def A.oks : A → List O
  | .mv x => [x]
  | .pk c a b => [c, a, b]
  | a => a.os
/-- The constants of an operation name no memory. -/
def A.sok (a : A) : Bool := a.zok && a.oks.all O.kok

def ldB (s : S) (q : Option Nat) (p : V) : Option (V × S) :=
  match derefB s.H p with
  | some y =>
    if y.fits q then some (y, s) else
    if y.fitsB q then
      match unp y s with
      | some (v, s1) => some (v, { s1 with H := putB s1.H p v })
      | none => none
    else none
  | none => none

def opB (ca : V → List V → S → Option (V × S)) (s : S) (a : A) : Option (V × S) :=
  match a with
  | .ld q x => ldB s q (val s.e x)
  | .ca f xs => if (f :: xs).all fun x => !isUn (val s.e x) then ca (val s.e f) (xs.map (val s.e)) s else none
  | a => opA ca s a

def runB (ca : V → List V → S → Option (V × S)) : List I → S → Option S
  | [], s => some s
  | o :: l, s =>
    match guardA s.e o.g with
    | some true => match opB ca s o.a with | some (v, s1) => runB ca l (s1.put o.d v) | none => none
    | some false => runB ca l (s.put o.d .un)
    | none => none

/-! ### Code -/
inductive CB where
  | skip
  | rg (l : List I)
  | seq (a b : CB)
  | cond (c : O) (a b : CB)
  | blk (id : Nat) (a : CB)
  | lp (a : CB)
  | ex (id : Nat)
  | ret
  | no
  | nm (L : List Nat) (a : CB)
  | dp (x i : Nat) (a : CB)
  deriving Inhabited

def CB.er : CB → C
  | .skip => .skip
  | .rg l => .rg l
  | .seq a b => .seq a.er b.er
  | .cond c a b => .cond c a.er b.er
  | .blk id a => .blk id a.er
  | .lp a => .lp a.er
  | .ex id => .ex id
  | .ret => .ret
  | .no => .no
  | .nm _ a => a.er
  | .dp _ _ a => a.er

/-- All constants of the code are plain. -/
def CB.sok : CB → Bool
  | .rg l => l.all fun i => i.a.sok
  | .seq a b => a.sok && b.sok
  | .cond c a b => c.kok && a.sok && b.sok
  | .blk _ a | .lp a | .nm _ a | .dp _ _ a => a.sok
  | _ => true
/-- These variables stay as they are. -/
def CB.keeps (n : List Nat) : CB → Bool
  | .rg l => l.all fun i => match i.d with | some d => !n.contains d | none => true
  | .seq a b | .cond _ a b => a.keeps n && b.keeps n
  | .blk _ a | .lp a | .nm _ a | .dp _ _ a => a.keeps n
  | _ => true

structure FB where
  np : Nat
  nt : Nat
  res : List (Nat × Option (Option Nat))
  body : CB
  deriving Inhabited
def FB.er (x : FB) : F := ⟨x.np, x.nt, x.res, x.body.er⟩

/-! ### Canonical states -/
/-- Packing: as 'giveX', what is packed stays. -/
def packB : Nat → (Nat → Option Blk) → V → Option (V × List Nat)
  | 0, _, _ => none
  | d + 1, H, v =>
    match v with
    | .im x => some (.im x, [])
    | .st cs => match overL (packB d H) cs with | some (ts, i) => some (.st ts, i) | none => none
    | .cl f cs => if cs = [] then some (.cl f [], []) else none
    | .sl es => some (.sl es, [])
    | .rp v => some (.rp v, [])
    | .e0 => some (.e0, [])
    | .hs b off n c =>
      match H b with
      | some B =>
        if off = 0 ∧ n = B.es.length ∧ c = n then
          match overL (packB d H) B.es with | some (ts, i) => some (.ow B.k ts, b :: i) | none => none
        else none
      | none => none
    | .hp b i =>
      match H b with
      | some B =>
        if i = 0 then
          match B.es with
          | [e] => match packB d H e with | some (t, j) => if B.k = t.size then some (.op t, b :: j) else none | none => none
          | _ => none
        else none
      | none => none
    | .ow k es => some (.ow k es, [])
    | .op v => some (.op v, [])
    | .tu _ | .hf _ _ _ => none

/-- The blocks that a value names. -/
def refs : Nat → V → List Nat
  | 0, _ => []
  | d + 1, v =>
    match v with
    | .hs b _ _ _ | .hp b _ | .hf b _ _ => [b]
    | .st cs | .tu cs | .cl _ cs => cs.flatMap (refs d)
    | _ => []
def dedup : List Nat → List Nat
  | [] => []
  | a :: l => if l.contains a then dedup l else a :: dedup l
def posOf (r : List Nat) (b : Nat) : Option Nat :=
  match r with
  | [] => none
  | a :: l => if b = a then some 0 else (posOf l b).map (· + 1)
/-- A value, its blocks numbered anew; what lies in other blocks is packed. -/
def ren (H : Nat → Option Blk) (r : List Nat) : Nat → V → Option (V × List Nat)
  | 0, _ => none
  | d + 1, v =>
    match v with
    | .hs b off n c => match posOf r b with
      | some j => some (.hs j off n c, [])
      | none => packB (d + 1) H (.hs b off n c)
    | .hp b i => match posOf r b with
      | some j => some (.hp j i, [])
      | none => packB (d + 1) H (.hp b i)
    | .hf b i j => match posOf r b with
      | some b' => some (.hf b' i j, [])
      | none => none
    | .st cs => match overL (ren H r d) cs with | some (ts, i) => some (.st ts, i) | none => none
    | .tu cs => match overL (ren H r d) cs with | some (ts, i) => some (.tu ts, i) | none => none
    | .cl f cs => match overL (ren H r d) cs with | some (ts, []) => some (.cl f ts, []) | _ => none
    | v => some (v, [])
def renBs (H : Nat → Option Blk) (r : List Nat) : List Nat → Option (List (Option Blk) × List Nat)
  | [] => some ([], [])
  | b :: bs =>
    match (match H b with
      | none => some (none, [])
      | some B => (overL (ren H r DEP) B.es).map fun x => (some { B with es := x.1 }, x.2)) with
    | some (x, i) => match renBs H r bs with | some (xs, j) => some (x :: xs, i ++ j) | none => none
    | none => none
/-- Variables, and blocks, out of a list. -/
def envA : List (Nat × V) → Nat → V
  | [], _ => V.dd
  | (k, v) :: l, t => if k = t then v else envA l t
def heapA (bs : List (Option Blk)) : Nat → Option Blk := fun j => (bs[j]?).bind id
def nmS (L : List Nat) (s : S) : Option S :=
  let r := dedup (L.flatMap fun t => refs 3 (s.e t))
  match renBs s.H r r with
  | some (bs, ids) =>
    if (ids ++ r).Nodup then
      some { e := envA (L.map fun t => (t, match ren s.H r 3 (s.e t) with | some (v, []) => v | _ => V.dd)), H := heapA bs, nx := r.length }
    else none
  | none => none

/-- The first elements of a list are forgotten. -/
def dpS (x i : Nat) (s : S) : Option S :=
  match s.e x, s.e i with
  | .hs b 0 _ _, .im (.int _ k) =>
    match s.H b with
    | some B => if k.toNat ≤ B.es.length then some (s.blk b (some { B with es := List.replicate k.toNat V.dd ++ B.es.drop k.toNat })) else none
    | none => none
  | _, _ => none

/-! ### Calls -/
def handB (H : Nat → Option Blk) : List M → List V → Option (List V × List Nat × List Nat)
  | _, [] => some ([], [], [])
  | ms, v :: vs =>
    match (match ms.headD .ro with
      | .ro => (snapB DEP H v).map fun x => (x.1, x.2, ([] : List Nat))
      | .tk => (giveB DEP H v).map fun x => (x.1, ([] : List Nat), x.2)
      | .io => (lendB H v).map fun x => (x.1, ([] : List Nat), x.2)) with
    | some (t, r, o) =>
      match handB H ms.tail vs with
      | some (ts, rs, os) => some (t :: ts, r ++ rs, o ++ os)
      | none => none
    | none => none

def backVB (old : Nat → Option Blk) : V → V → S → Option S
  | .hs b off n _, .ow k es, s =>
    if es = [] then (if n = 0 then some s else none) else
    match old b with
    | some B => if off = 0 ∧ n = B.es.length ∧ es.length = n ∧ k = B.k ∧ allL (okD DEP) es = true then some (s.blk b (some { k := k, es := es })) else none
    | none => none
  | .hp b i, .op v, s =>
    match old b with
    | some B => if i = 0 ∧ B.k = v.size ∧ okD DEP v = true then some (s.blk b (some { k := v.size, es := [v] })) else none
    | none => none
  | .hs _ _ n _, .sl es, s => if n = 0 ∧ es = [] then some s else none
  | .im _, .im _, s | .e0, .e0, s | .sl _, .sl _, s | .rp _, .rp _, s => some s
  | _, _, _ => none
def backVsB (old : Nat → Option Blk) : List V → List V → S → Option S
  | [], [], s => some s
  | v :: vs, t :: ts, s => match backVB old v t s with | some s1 => backVsB old vs ts s1 | none => none
  | _, _, _ => none
def back1B (old : Nat → Option Blk) : V → V → S → Option S
  | .st vs, .st ts, s => backVsB old vs ts s
  | v, t, s => backVB old v t s
def backLB (old : Nat → Option Blk) : List V → List V → S → Option S
  | [], [], s => some s
  | v :: vs, t :: ts, s => match back1B old v t s with | some s1 => backLB old vs ts s1 | none => none
  | _, _, _ => none

def own1 : V → List Nat
  | .hp b _ | .hf b _ _ => [b]
  | _ => []
/-- A result, and the block that it is read out of. -/
def resVB (s : S) : Nat × Option (Option Nat) → Option (V × List Nat)
  | (t, none) => if isUn (s.e t) then none else some (s.e t, [])
  | (t, some q) => match derefB s.H (s.e t) with | some v => if v.fitsB q then some (v, own1 (s.e t)) else none | none => none
def resLB (s : S) : List (Nat × Option (Option Nat)) → Option (List V × List Nat)
  | [] => some ([], [])
  | x :: xs => match resVB s x, resLB s xs with | some (v, o), some (vs, os) => some (v :: vs, o ++ os) | _, _ => none
def resOfB (s : S) (l : List (Nat × Option (Option Nat))) : Option (V × List Nat) :=
  match resLB s l with
  | some ([v], o) => some (v, o)
  | some (vs, o) => some (.tu vs, o)
  | none => none

def CB.nonm : CB → Bool
  | .seq a b | .cond _ a b => a.nonm && b.nonm
  | .blk _ a | .lp a | .dp _ _ a => a.nonm
  | .nm _ _ => false
  | _ => true

/-- What was lent, as it lies in the variables now. -/
def lentB (np : Nat) (ms : List M) (e : Nat → V) : List V := lent ms ((List.range np).map e)

def isoB (Γ : Env) (T : Nat → Option FB) (exk : CB → S → Option R) (f : Nat) (ms : List M) (args : List V) : Option (V × List V) :=
  match Γ.pr f with
  | some p => p args
  | none =>
    match T f with
    | some x =>
      if args.length = x.np then
        match takeL (takeB DEP) args { e := fun _ => .un, H := fun _ => none, nx := 0 } with
        | some (vals, s0) =>
          match exk x.body { e := envOf vals, H := s0.H, nx := s0.nx } with
          | some (.n s) | some (.r s) =>
            match resOfB s x.res with
            | some (v, o) =>
              match giveB DEP s.H v, overL (giveB DEP s.H) (lentB x.np ms s.e) with
              | some (t, i), some (ts, j) => if (o ++ i ++ j).Nodup ∧ ((lentB x.np ms s.e).isEmpty || (x.body.keeps (lent ms (List.range x.np)) && (lentB x.np ms s.e).all fun v => !isUn v)) = true then some (t, ts) else none
              | _, _ => none
            | none => none
          | _ => none
        | none => none
      else none
    | none => none

def callB (Γ : Env) (T : Nat → Option FB) (exk : CB → S → Option R) (fv : V) (args : List V) (s : S) : Option (V × S) :=
  match fnOf fv with
  | none => none
  | some (f, caps) =>
    match Γ.md f with
    | none =>
      match T f with
      | some x =>
        if (args ++ caps).length = x.np ∧ x.body.nonm = true then
          match exk x.body { s with e := envOf (args ++ caps) } with
          | some (.n s1) | some (.r s1) =>
            match resOfB s1 x.res with
            | some (v, []) => some (v, { s with H := s1.H, nx := s1.nx, fz := s1.fz })
            | _ => none
          | _ => none
        else none
      | none => none
    | some ms =>
      match handB s.H ms (args ++ caps) with
      | some (ts, rs, os) =>
        if os.Nodup ∧ ∀ b ∈ os, b ∉ rs then
          match isoB Γ T exk f ms ts with
          | some (t, us) =>
            if rs.isEmpty || (free DEP t && allL (free DEP) us) then
              match backLB s.H (lent ms (args ++ caps)) us (s.mem (kill s.H os)) with
              | some s1 => takeB DEP t s1
              | none => none
            else none
          | none => none
        else none
      | none => none

def exB (Γ : Env) (T : Nat → Option FB) : Nat → CB → S → Option R
  | 0, _, _ => none
  | k + 1, c, s =>
    match c with
    | .skip => some (.n s)
    | .rg l => match runB (callB Γ T (exB Γ T k)) l s with | some s1 => some (.n s1) | none => none
    | .seq a b => match exB Γ T k a s with
      | some (.n s1) => exB Γ T k b s1
      | r => r
    | .cond o a b => match val s.e o with
      | .im (.bool true) => exB Γ T k a s
      | .im (.bool false) => exB Γ T k b s
      | _ => none
    | .blk id a => match exB Γ T k a s with
      | some (.x j s1) => if j = id then some (.n s1) else some (.x j s1)
      | r => r
    | .lp a => match exB Γ T k a s with
      | some (.n s1) => exB Γ T k (.lp a) s1
      | r => r
    | .ex id => some (.x id s)
    | .ret => some (.r s)
    | .no => none
    | .nm L a => match nmS L s with | some s1 => exB Γ T k a s1 | none => none
    | .dp x i a => match dpS x i s with | some s1 => exB Γ T k a s1 | none => none

end Go.Am
