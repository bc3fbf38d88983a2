/- The A-machine, part 18: operations that may change places. -/
import Derived.Test.YthpaolkonlhjfaaAm17
import Derived.Orders
set_option linter.all false
namespace Go.Am
variable {P : Program} {St Mine : Nat → Prop} {w : World}

/-- The same, with other variables. -/
def S.wi (s : S) (e : Nat → V) : S := { s with e := e }
abbrev wiR (e : Nat → V) (r : V × S) : V × S := (r.1, r.2.wi e)
abbrev wiL (e : Nat → V) (r : List V × S) : List V × S := (r.1, r.2.wi e)

theorem takeL_wi {f : V → S → Option (V × S)} {e : Nat → V} (hf : ∀ v s, f v (s.wi e) = (f v s).map (wiR e)) : ∀ (vs : List V) (s : S), takeL f vs (s.wi e) = (takeL f vs s).map (wiL e)
  | [], s => rfl
  | v :: vs, s => by
    simp only [takeL]
    rw [hf]
    cases f v s with
    | none => rfl
    | some r =>
      obtain ⟨t, s1⟩ := r
      simp only [Option.map_some]
      rw [takeL_wi hf vs s1]
      cases takeL f vs s1 <;> rfl

theorem takeIn_wi (e : Nat → V) : ∀ (d : Nat) (v : V) (s : S), takeIn d v (s.wi e) = (takeIn d v s).map (wiR e)
  | 0, _, _ => rfl
  | d + 1, v, s => by
    have hL := takeL_wi (takeIn_wi e d)
    cases v <;> simp only [takeIn]
    case st cs => rw [hL]; cases takeL (takeIn d) cs s <;> rfl
    case tu cs => rw [hL]; cases takeL (takeIn d) cs s <;> rfl
    case cl f cs => rw [hL]; cases takeL (takeIn d) cs s <;> rfl
    case ow k es => rw [hL]; cases takeL (takeIn d) es s <;> rfl
    case op v => rw [takeIn_wi e d]; cases takeIn d v s <;> rfl
    all_goals rfl

theorem backV_wi (e : Nat → V) (old : Nat → Option Blk) (v t : V) (s : S) : backV old v t (s.wi e) = (backV old v t s).map (S.wi · e) := by
  unfold backV
  split
  · split
    · split <;> rfl
    · split
      · split
        · rw [takeL_wi (takeIn_wi e DEP)]
          rename_i es _ _ _ _ _
          cases takeL (takeIn DEP) es s <;> rfl
        · rfl
      · rfl
  · split
    · split
      · rw [takeIn_wi e DEP]
        rename_i v _ _ _ _
        cases takeIn DEP v s <;> rfl
      · rfl
    · rfl
  · split <;> rfl
  all_goals rfl

theorem backVs_wi (e : Nat → V) (old : Nat → Option Blk) : ∀ (vs ts : List V) (s : S), backVs old vs ts (s.wi e) = (backVs old vs ts s).map (S.wi · e)
  | [], [], s => rfl
  | [], _ :: _, s => rfl
  | _ :: _, [], s => rfl
  | v :: vs, t :: ts, s => by
    simp only [backVs]
    rw [backV_wi]
    cases backV old v t s with
    | none => rfl
    | some s1 => simp only [Option.map_some]; rw [backVs_wi e old vs ts s1]

theorem back1_wi (e : Nat → V) (old : Nat → Option Blk) (v t : V) (s : S) : back1 old v t (s.wi e) = (back1 old v t s).map (S.wi · e) := by
  unfold back1
  split
  · exact backVs_wi e old _ _ s
  · exact backV_wi e old _ _ s

theorem backL_wi (e : Nat → V) (old : Nat → Option Blk) : ∀ (vs ts : List V) (s : S), backL old vs ts (s.wi e) = (backL old vs ts s).map (S.wi · e)
  | [], [], s => rfl
  | [], _ :: _, s => rfl
  | _ :: _, [], s => rfl
  | v :: vs, t :: ts, s => by
    simp only [backL]
    rw [back1_wi]
    cases back1 old v t s with
    | none => rfl
    | some s1 => simp only [Option.map_some]; rw [backL_wi e old vs ts s1]

theorem ite_map {α β : Type} {c : Prop} [Decidable c] {a : Option β} {b : Option α} {f : α → β} (h : a = b.map f) : (if c then a else none) = (if c then b else none).map f := by split; exact h; rfl

/-- A call does not look at the caller's variables. -/
def CaE (ca : V → List V → S → Option (V × S)) : Prop := ∀ f xs s e, ca f xs (s.wi e) = (ca f xs s).map (wiR e)

theorem callV_wi (Γ : Env) (exk : C → S → Option R) : CaE (callV Γ exk) := by
  intro fv xs s e
  unfold callV
  split
  · rfl
  · rename_i f caps _
    simp only [S.wi]
    split
    · split
      · split
        · split <;> try rfl
          all_goals (split <;> rfl)
        · rfl
      · rfl
    · split
      · rename_i ms _ _ ts rs os _
        refine ite_map ?_
        · split
          · rename_i t us _
            have key : ∀ (r : Option S), ∀ x, x = r.map (S.wi · e) → ∀ (g : Option S → Option (V × S)), (∀ s1, g (some s1) = takeIn DEP t s1) → g none = none → g x = (g r).map (wiR e) := by
              rintro r x rfl g h1 h2
              cases r with
              | none => rw [Option.map_none, h2]; rfl
              | some s1 => rw [Option.map_some, h1, h1, takeIn_wi]
            by_cases hf : free DEP t = true ∧ allL (free DEP) us = true
            · rw [if_pos hf, if_pos hf]
              exact key _ _ (backL_wi e s.H (lent ms (xs ++ caps)) us (s.mem (kill s.H os))) (fun o => match o with | some s1 => takeIn DEP t s1 | none => none) (fun _ => rfl) rfl
            · rw [if_neg hf, if_neg hf]
              exact key _ _ (backL_wi e s.H (lent ms (xs ++ caps)) us { s with H := freeze (kill s.H os) rs, fz := s.fz || !rs.isEmpty }) (fun o => match o with | some s1 => takeIn DEP t s1 | none => none) (fun _ => rfl) rfl
          · rfl
      · rfl

theorem val_wi {s : S} {e : Nat → V} {x : O} (h : ∀ t ∈ x.tm, e t = s.e t) : val e x = val s.e x := by
  cases x with
  | t n => exact h n (by simp [O.tm])
  | _ => rfl

theorem map_val_wi {s : S} {e : Nat → V} {xs : List O} (h : ∀ t ∈ xs.flatMap O.tm, e t = s.e t) : xs.map (val e) = xs.map (val s.e) :=
  List.map_congr_left fun x hx => val_wi fun t ht => h t (List.mem_flatMap.2 ⟨x, hx, ht⟩)

theorem omap_val_wi {s : S} {e : Nat → V} {x : Option O} (h : ∀ t ∈ oTm x, e t = s.e t) : x.map (val e) = x.map (val s.e) := by
  cases x with
  | none => rfl
  | some x => simp only [Option.map_some]; rw [val_wi h]

theorem appendTo_wi (s : S) (e : Nat → V) (q : Option Nat) (x : V) (src : List V) : appendTo (s.wi e) q x src = (appendTo s q x src).map (wiR e) := by
  unfold appendTo
  simp only [S.wi]
  split
  · split
    · rfl
    · split <;> rfl
  · split
    · split
      · split
        · split <;> rfl
        · split <;> rfl
      · rfl
    · rfl
  · rfl

/-- An operation looks at its operands alone. -/
theorem opA_wi {ca : V → List V → S → Option (V × S)} (hca : CaE ca) {s : S} {e : Nat → V} {a : A} (h : ∀ t ∈ a.rd, e t = s.e t) : opA ca (s.wi e) a = (opA ca s a).map (wiR e) := by
  have hw : ∀ x : O, (∀ t ∈ x.tm, t ∈ a.rd) → val e x = val s.e x := fun x hx => val_wi fun t ht => h t (hx t ht)
  cases a <;> simp only [A.rd, List.mem_append] at h hw <;> simp only [opA] <;> try simp only [show (s.wi e).e = e from rfl, show (s.wi e).H = s.H from rfl, show (s.wi e).nx = s.nx from rfl]
  case mv x => rw [hw x (by simp)]; rfl
  case pk c a b => rw [hw c (by simp +contextual), hw a (by simp +contextual), hw b (by simp +contextual)]; split <;> rfl
  case al => split <;> rfl
  case bx q x => rw [hw x (by simp)]; split <;> rfl
  case ld q x => rw [hw x (by simp)]; split; · split <;> rfl
                 rfl
  case so q p x => rw [hw p (by simp +contextual), hw x (by simp +contextual)]; split <;> rfl
  case bi op x y => rw [hw x (by simp +contextual), hw y (by simp +contextual)]; split; · simp only [Option.map_map]; rfl
                    rfl
  case be n x y => rw [hw x (by simp +contextual), hw y (by simp +contextual)]; split <;> rfl
  case un op x => rw [hw x (by simp)]; split; · simp only [Option.map_map]; rfl
                  rfl
  case cv k x => rw [hw x (by simp)]; split <;> rfl
  case fd j x => rw [hw x (by simp)]; split; · simp only [Option.map_map]; rfl
                 rfl
  case fa j x => rw [hw x (by simp)]; split
                 · rename_i cs _
                   cases cs[j]? with
                   | none => rfl
                   | some c => simp only [Option.bind_some]; split <;> rfl
                 · rfl
                 · rfl
  case ia q x i => rw [hw x (by simp +contextual), hw i (by simp +contextual)]; split
                   · split
                     · split <;> rfl
                     · rfl
                   · split
                     · split <;> rfl
                     · rfl
                   · rfl
  case ix x i => rw [hw x (by simp +contextual), hw i (by simp +contextual)]; split
                 · split <;> rfl
                 · rfl
  case ss x lo hi =>
    rw [hw x (by simp +contextual), omap_val_wi (s := s) (x := lo) (fun t ht => h t (by simp [ht])), omap_val_wi (s := s) (x := hi) (fun t ht => h t (by simp [ht]))]
    split
    · split
      · split <;> rfl
      · rfl
    · rfl
  case sc q x lo hi mx =>
    rw [hw x (by simp +contextual), omap_val_wi (s := s) (x := lo) (fun t ht => h t (by simp [ht])), omap_val_wi (s := s) (x := hi) (fun t ht => h t (by simp [ht])), omap_val_wi (s := s) (x := mx) (fun t ht => h t (by simp [ht]))]
    split
    · split
      · simp only [Option.map_map]; rfl
      · split
        · split
          · simp only [Option.map_map]; rfl
          · rfl
        · rfl
    · split
      · simp only [Option.map_map]; rfl
      · rfl
    · simp only [Option.map_map]; rfl
    · rfl
  case bs q xs => rw [map_val_wi (s := s) (e := e) (fun t ht => h t (by simpa using ht))]; split <;> rfl
  case bd z ps =>
    have hm : ∀ p ∈ ps, val e p.2 = val s.e p.2 := fun p hp => val_wi fun t ht => h t (by simpa using ⟨p.1, p.2, hp, ht⟩)
    rw [List.map_congr_left (f := fun p : Nat × O => val e p.2) (g := fun p => val s.e p.2) hm]
    have hf : ∀ (ps : List (Nat × O)) (z : List V), (∀ p ∈ ps, val e p.2 = val s.e p.2) → ps.foldl (fun cs p => cs.set p.1 (val e p.2)) z = ps.foldl (fun cs p => cs.set p.1 (val s.e p.2)) z := by
      intro ps
      induction ps with
      | nil => intro z _; rfl
      | cons p ps ih => intro z hh; simp only [List.foldl_cons]; rw [hh p (by simp), ih _ fun q hq => hh q (by simp [hq])]
    rw [hf ps z hm]
    split <;> rfl
  case ms z q l c => rw [hw l (by simp +contextual), hw c (by simp +contextual)]; split
                     · split <;> rfl
                     · rfl
  case mf f xs => rw [map_val_wi (s := s) (e := e) (fun t ht => h t (by simpa using ht))]; split <;> rfl
  case ca f xs => rw [hw f (by simp +contextual), map_val_wi (s := s) (e := e) (fun t ht => h t (by right; simpa using ht))]; exact hca _ _ s e
  case ap q x y => rw [hw x (by simp +contextual), hw y (by simp +contextual)]; split
                   · split
                     · exact appendTo_wi s e _ _ _
                     · rfl
                   · rfl
  case az q z x n => rw [hw x (by simp +contextual), hw n (by simp +contextual)]; split
                     · split
                       · exact appendTo_wi s e _ _ _
                       · rfl
                     · rfl
  case ln x => rw [hw x (by simp)]; split <;> rfl
  case ls x => rw [hw x (by simp)]; split <;> rfl
  case mm mx xs => rw [map_val_wi (s := s) (e := e) (fun t ht => h t (by simpa using ht))]; split <;> rfl
  case et x i => rw [hw x (by simp)]; split; · simp only [Option.map_map]; rfl
                 rfl
  case sb x => rw [hw x (by simp)]; split
               · split <;> rfl
               · rfl
  case cr q z x => rw [hw x (by simp)]; split
                   · rfl
                   · split
                     · split <;> rfl
                     · rfl
                   · rfl
  case cp x => rw [hw x (by simp)]; split <;> rfl
  case no => rfl

theorem opA_same {ca : V → List V → S → Option (V × S)} (hca : CaE ca) {s s1 : S} {a : A} {v : V} (h : opA ca s a = some (v, s1)) : s1.e = s.e := by
  have := opA_wi hca (s := s) (e := s.e) (a := a) (fun _ _ => rfl)
  rw [show s.wi s.e = s from rfl, h] at this
  simp only [Option.map_some, Option.some.injEq, wiR, Prod.mk.injEq, true_and] at this
  rw [this]; rfl

/-- H' has what H has. -/
def Sub (H H' : Nat → Option Blk) : Prop := ∀ b B, H b = some B → ∃ B', H' b = some B' ∧ B'.es = B.es ∧ B'.k = B.k
theorem Sub.refl (H : Nat → Option Blk) : Sub H H := fun _ B h => ⟨B, h, rfl, rfl⟩
theorem Sub.trans {H H1 H2 : Nat → Option Blk} (h : Sub H H1) (k : Sub H1 H2) : Sub H H2 := fun b B hb => by
  obtain ⟨B1, h1, e1, k1⟩ := h b B hb
  obtain ⟨B2, h2, e2, k2⟩ := k b B1 h1
  exact ⟨B2, h2, e2.trans e1, k2.trans k1⟩

/-- A pure operation looks at no memory. -/
theorem opA_pure {ca : V → List V → S → Option (V × S)} {s s1 : S} {a : A} {v : V} (hp : isPure a = true) (h : opA ca s a = some (v, s1)) : s1 = s ∧ ∀ s', s'.e = s.e → opA ca s' a = some (v, s') := by
  have fin : ∀ {f : (Nat → V) → Option V}, (∀ s, opA ca s a = (f s.e).map fun v => (v, s)) → s1 = s ∧ ∀ s', s'.e = s.e → opA ca s' a = some (v, s') := by
    intro f hf
    rw [hf] at h
    obtain ⟨u, hu, hh⟩ := Option.map_eq_some_iff.1 h
    obtain ⟨rfl, rfl⟩ := Prod.mk.inj hh
    exact ⟨rfl, fun s' he => by rw [hf, he, hu]; rfl⟩
  cases a <;> simp only [isPure, Bool.false_eq_true] at hp
  case mv x => exact fin (f := fun e => some (val e x)) fun s => rfl
  case pk c x y => exact fin (f := fun e => match val e c with | .im (.bool c) => some (if c then val e x else val e y) | _ => none) fun s => by simp only [opA]; split <;> simp_all
  case bi op x y => exact fin (f := fun e => match val e x, val e y with | .im x, .im y => (abin op x y).map .im | _, _ => none) fun s => by simp only [opA]; split <;> simp_all [Option.map_map, Function.comp_def]
  case be n x y => exact fin (f := fun e => match val e x, val e y with | .im (.bool x), .im (.bool y) => some (.b (if n then !(x == y) else x == y)) | _, _ => none) fun s => by simp only [opA]; split <;> simp_all
  case un op x => exact fin (f := fun e => match val e x with | .im x => (aun op x).map .im | _ => none) fun s => by simp only [opA]; split <;> simp_all [Option.map_map, Function.comp_def]
  case cv k x => exact fin (f := fun e => match val e x with | .im (.int _ n) => some (.im (.int k (k.wrap n))) | _ => none) fun s => by simp only [opA]; split <;> simp_all
  case fd j x => exact fin (f := fun e => match val e x with | .st cs => cs[j]? | _ => none) fun s => by simp only [opA]; split <;> simp_all
  case fa j x => exact fin (f := fun e => match val e x with | .rp (.st cs) => (cs[j]?).bind fun c => if c.okc = true then some (.rp c) else none | .hp b i => some (.hf b i j) | _ => none) fun s => by
                  simp only [opA]
                  generalize val s.e x = y
                  cases y <;> try rfl
                  rename_i u
                  cases u <;> try rfl
                  rename_i cs
                  simp only
                  cases cs[j]? with
                  | none => rfl
                  | some c => simp only [Option.bind_some]; split <;> rfl
  case ix x i =>
    exact fin (f := fun e => match asI (val e i), val e x with
      | some i, .im (.string x) => match (if 0 ≤ i then x[i.toNat]? else none) with | some b => some (.u b.toNat) | none => none
      | _, _ => none) fun s => by
        simp only [opA]
        generalize asI (val s.e i) = y
        generalize val s.e x = z
        cases y <;> cases z <;> try rfl
        rename_i i y
        cases y <;> try rfl
        rename_i y
        simp only
        generalize (if 0 ≤ i then y[i.toNat]? else none) = r
        cases r <;> rfl
  case ss x lo hi =>
    exact fin (f := fun e => match val e x with
      | .im (.string x) => match bndOf 0 (lo.map (val e)), bndOf x.size (hi.map (val e)) with
        | some l, some h => if 0 ≤ l ∧ l ≤ h ∧ h ≤ x.size then some (.s (x.extract l.toNat h.toNat)) else none
        | _, _ => none
      | _ => none) fun s => by
        simp only [opA]
        generalize val s.e x = z
        cases z <;> try rfl
        rename_i z
        cases z <;> try rfl
        rename_i z
        simp only
        generalize bndOf 0 (lo.map (val s.e)) = l
        generalize bndOf z.size (hi.map (val s.e)) = h
        cases l <;> cases h <;> try rfl
        simp only
        split <;> rfl
  case bd z ps => exact fin (f := fun e => if (ps.map fun p => val e p.2).all V.okc then some (.st (ps.foldl (fun cs p => cs.set p.1 (val e p.2)) z)) else none) fun s => by simp only [opA]; split <;> simp_all
  case mf g xs => exact fin (f := fun e => if (xs.map (val e)).all V.okc then some (.cl g (xs.map (val e))) else none) fun s => by simp only [opA]; split <;> simp_all
  case ln x => exact fin (f := fun e => match vlen (val e x) with | some n => some (.i (n : Nat)) | none => none) fun s => by simp only [opA]; split <;> simp_all
  case ls x => exact fin (f := fun e => match val e x with | .im (.string x) => some (.i x.size) | _ => none) fun s => by simp only [opA]; split <;> simp_all
  case mm mx xs =>
    exact fin (f := fun e => match xs.map (val e) with
      | [.im (.int .i64 a), .im (.int .i64 b)] => some (.i (mmx mx a b))
      | [.im (.int .i64 a), .im (.int .i64 b), .im (.int .i64 c)] => some (.i (mmx mx (mmx mx a b) c))
      | _ => none) fun s => by simp only [opA]; split <;> simp_all
  case et x i => exact fin (f := fun e => match val e x with | .tu vs => vs[i]? | _ => none) fun s => by simp only [opA]; split <;> simp_all

theorem Sub.deref {H H' : Nat → Option Blk} (h : Sub H H') {x v : V} (hd : Am.deref H x = some v) : Am.deref H' x = some v := by
  cases x <;> simp only [Am.deref] at hd ⊢ <;> try exact hd
  case hp b i =>
    obtain ⟨B, hB, h2⟩ := Option.bind_eq_some_iff.1 hd
    obtain ⟨B', h1, e, _⟩ := h b B hB
    rw [h1, Option.bind_some, e]; exact h2
  case hf b i j =>
    obtain ⟨B, hB, h2⟩ := Option.bind_eq_some_iff.1 hd
    obtain ⟨B', h1, e, _⟩ := h b B hB
    rw [h1, Option.bind_some, e]; exact h2

theorem Sub.elems {H H' : Nat → Option Blk} (h : Sub H H') {x : V} {l : List V} (hd : Am.elems H x = some l) : Am.elems H' x = some l := by
  cases x <;> simp only [Am.elems] at hd ⊢ <;> try exact hd
  case hs b off n c =>
    split at hd
    · rename_i hn; rw [if_pos hn]; exact hd
    · rename_i hn
      rw [if_neg hn]
      split at hd
      · rename_i B hB
        obtain ⟨B', h1, e, _⟩ := h b B hB
        rw [h1]; simp only [e]; exact hd
      · cases hd

/-- A quiet operation reads the same where there is more. -/
theorem opA_quiet {ca : V → List V → S → Option (V × S)} {s s1 : S} {a : A} {v : V} (hp : isQuiet a = true) (h : opA ca s a = some (v, s1)) : s1 = s ∧ ∀ s', s'.e = s.e → Sub s.H s'.H → opA ca s' a = some (v, s') := by
  by_cases hpp : isPure a = true
  · obtain ⟨h1, h2⟩ := opA_pure hpp h
    exact ⟨h1, fun s' he _ => h2 s' he⟩
  cases a <;> simp only [isQuiet, isPure, Bool.false_eq_true, not_true_eq_false] at hp hpp <;> simp only [opA] at h ⊢
  case ld q x =>
    split at h
    · rename_i y hy
      split at h
      · rename_i hf
        obtain ⟨rfl, rfl⟩ := Prod.mk.inj (Option.some.inj h)
        exact ⟨rfl, fun s' he hs => by rw [he, hs.deref hy]; simp only [hf, if_true]⟩
      · cases h
    · cases h
  case ia q x i =>
    split at h
    · rename_i z es hi hx
      refine ⟨?_, fun s' he hs => ?_⟩
      · split at h
        · split at h
          · obtain ⟨_, rfl⟩ := Prod.mk.inj (Option.some.inj h); rfl
          · cases h
        · cases h
      · rw [he, hi, hx]
        simp only
        split at h
        · split at h
          · rename_i hsz
            obtain ⟨rfl, _⟩ := Prod.mk.inj (Option.some.inj h)
            simp only [*, if_true]
          · cases h
        · cases h
    · rename_i z b off n c hi hx
      split at h
      · rename_i B hB
        split at h
        · rename_i hc
          obtain ⟨rfl, rfl⟩ := Prod.mk.inj (Option.some.inj h)
          refine ⟨rfl, fun s' he hs => ?_⟩
          obtain ⟨B', h1, _, e⟩ := hs b B hB
          rw [he, hi, hx]
          simp only [h1]
          rw [if_pos ⟨hc.1, hc.2.1, e.trans hc.2.2⟩]
        · cases h
      · cases h
    · cases h
  case sc q x lo hi mx =>
    split at h
    · rename_i b off n c hx
      split at h
      · rename_i hc0
        obtain ⟨u, hu, hh⟩ := Option.map_eq_some_iff.1 h
        obtain ⟨rfl, rfl⟩ := Prod.mk.inj hh
        refine ⟨rfl, fun s' he hs => ?_⟩
        rw [he, hx]
        simp only [hc0, if_true]
        rw [hc0] at hu
        rw [hu]; rfl
      · rename_i hc0
        split at h
        · rename_i B hB
          split at h
          · rename_i hk
            obtain ⟨u, hu, hh⟩ := Option.map_eq_some_iff.1 h
            obtain ⟨rfl, rfl⟩ := Prod.mk.inj hh
            refine ⟨rfl, fun s' he hs => ?_⟩
            obtain ⟨B', h1, _, e⟩ := hs b B hB
            rw [he, hx]
            simp only [hc0, if_false, h1, e, hk, if_true, hu, Option.map_some]
          · cases h
        · cases h
    · rename_i es hx
      split at h
      · rename_i hk
        obtain ⟨u, hu, hh⟩ := Option.map_eq_some_iff.1 h
        obtain ⟨rfl, rfl⟩ := Prod.mk.inj hh
        refine ⟨rfl, fun s' he hs => ?_⟩
        rw [he, hx]
        simp only [hk, if_true, hu, Option.map_some]
      · cases h
    · rename_i hx
      obtain ⟨u, hu, hh⟩ := Option.map_eq_some_iff.1 h
      obtain ⟨rfl, rfl⟩ := Prod.mk.inj hh
      refine ⟨rfl, fun s' he hs => ?_⟩
      rw [he, hx]
      simp only [hu, Option.map_some]
    · cases h
  case sb x =>
    split at h
    · rename_i src hx
      split at h
      · rename_i l hl
        obtain ⟨rfl, rfl⟩ := Prod.mk.inj (Option.some.inj h)
        exact ⟨rfl, fun s' he hs => by rw [he, hs.elems hx]; simp only [hl]⟩
      · cases h
    · cases h


/-! ### Operations that make memory -/

/-- Nothing lies where the next blocks come. -/
def Bd (s : S) : Prop := ∀ b, s.nx ≤ b → s.H b = none

/-- The state has grown: what was there is there, up to freezing; what was gone is gone. -/
structure Grow (s s' : S) : Prop where
  nx : s.nx ≤ s'.nx
  sub : Sub s.H s'.H
  gone : ∀ b, b < s.nx → s.H b = none → s'.H b = none
  bd : Bd s'
theorem Grow.refl {s : S} (h : Bd s) : Grow s s := ⟨Nat.le_refl _, Sub.refl _, fun _ _ h => h, h⟩
theorem Grow.trans {s s1 s2 : S} (h : Grow s s1) (k : Grow s1 s2) : Grow s s2 :=
  ⟨Nat.le_trans h.nx k.nx, h.sub.trans k.sub, fun b hb hn => k.gone b (Nat.lt_of_lt_of_le hb h.nx) (h.gone b hb hn), k.bd⟩

theorem Grow.new {s : S} (h : Bd s) (k : Nat) (es : List V) : Grow s (s.new k es) := by
  refine ⟨Nat.le_succ _, fun b B hb => ⟨B, ?_, rfl, rfl⟩, fun b hb hn => ?_, fun b hb => ?_⟩
  · have : b ≠ s.nx := by rintro rfl; rw [h _ (Nat.le_refl _)] at hb; cases hb
    simp only [S.new]; rw [upd_ne _ _ this]; exact hb
  · simp only [S.new]; rw [upd_ne _ _ (by omega)]; exact hn
  · simp only [S.new] at hb ⊢; rw [upd_ne _ _ (by omega)]; exact h b (by omega)

theorem takeL_grow {f : V → S → Option (V × S)} (hf : ∀ v s t s', Bd s → f v s = some (t, s') → Grow s s') : ∀ (vs : List V) (s : S) (ts : List V) (s' : S), Bd s → takeL f vs s = some (ts, s') → Grow s s'
  | [], s, ts, s', hb, h => by simp only [takeL, Option.some.injEq, Prod.mk.injEq] at h; obtain ⟨_, rfl⟩ := h; exact Grow.refl hb
  | v :: vs, s, ts, s', hb, h => by
    simp only [takeL] at h
    split at h
    · rename_i t s1 h1
      have g := hf _ _ _ _ hb h1
      split at h
      · rename_i ts2 s2 h2
        obtain ⟨_, rfl⟩ := Prod.mk.inj (Option.some.inj h)
        exact g.trans (takeL_grow hf vs s1 _ _ g.bd h2)
      · cases h
    · cases h

theorem takeIn_grow : ∀ (d : Nat) (v : V) (s : S) (t : V) (s' : S), Bd s → takeIn d v s = some (t, s') → Grow s s'
  | 0, _, _, _, _, _, h => by cases h
  | d + 1, v, s, t, s', hb, h => by
    have hL := takeL_grow (takeIn_grow d)
    have one : ∀ {u : V}, some (u, s) = some (t, s') → Grow s s' := by
      intro u h; obtain ⟨_, rfl⟩ := Prod.mk.inj (Option.some.inj h); exact Grow.refl hb
    cases v <;> simp only [takeIn] at h
    case st cs => split at h
                  · rename_i h1; obtain ⟨_, rfl⟩ := Prod.mk.inj (Option.some.inj h); exact hL _ _ _ _ hb h1
                  · cases h
    case tu cs => split at h
                  · rename_i h1; obtain ⟨_, rfl⟩ := Prod.mk.inj (Option.some.inj h); exact hL _ _ _ _ hb h1
                  · cases h
    case cl f cs => split at h
                    · rename_i h1; obtain ⟨_, rfl⟩ := Prod.mk.inj (Option.some.inj h); exact hL _ _ _ _ hb h1
                    · cases h
    case ow k es => split at h
                    · rename_i h1
                      obtain ⟨_, rfl⟩ := Prod.mk.inj (Option.some.inj h)
                      have g := hL _ _ _ _ hb h1
                      exact g.trans (Grow.new g.bd _ _)
                    · cases h
    case op v => split at h
                 · rename_i h1
                   obtain ⟨_, rfl⟩ := Prod.mk.inj (Option.some.inj h)
                   have g := takeIn_grow d _ _ _ _ hb h1
                   exact g.trans (Grow.new g.bd _ _)
                 · cases h
    case im => exact one h
    case sl => exact one h
    case rp => exact one h
    case e0 => exact one h
    all_goals cases h

theorem lent_ro {α : Type} : ∀ (ms : List M) (vs : List α), ms.all (fun m => m == .ro) = true → lent ms vs = []
  | _, [], _ => by simp [lent]
  | [], v :: vs, h => by
    rw [lent]
    · exact lent_ro [] vs h
  | m :: ms, v :: vs, h => by
    simp only [List.all_cons, Bool.and_eq_true, beq_iff_eq] at h
    obtain ⟨rfl, h⟩ := h
    rw [lent]
    · exact lent_ro ms vs h

theorem handL_ro (H : Nat → Option Blk) : ∀ (ms : List M) (vs ts : List V) (rs os : List Nat), ms.all (fun m => m == .ro) = true → handL H ms vs = some (ts, rs, os) → os = []
  | _, [], ts, rs, os, _, h => by simp only [handL, Option.some.injEq, Prod.mk.injEq] at h; exact h.2.2.symm
  | ms, v :: vs, ts, rs, os, hm, h => by
    have hd : ms.headD .ro = .ro := by
      cases ms with
      | nil => rfl
      | cons m ms => simp only [List.all_cons, Bool.and_eq_true, beq_iff_eq] at hm; simp [hm.1]
    have htl : ms.tail.all (fun m => m == .ro) = true := by
      cases ms with
      | nil => rfl
      | cons m ms => simp only [List.all_cons, Bool.and_eq_true] at hm; exact hm.2
    simp only [handL, hd] at h
    split at h
    · rename_i t r o h1
      obtain ⟨x, _, hx⟩ := Option.map_eq_some_iff.1 h1
      obtain ⟨_, hx⟩ := Prod.mk.inj hx
      obtain ⟨_, rfl⟩ := Prod.mk.inj hx
      split at h
      · rename_i ts2 rs2 os2 h2
        simp only [Option.some.injEq, Prod.mk.injEq] at h
        rw [← h.2.2, handL_ro H ms.tail vs _ _ _ htl h2]; rfl
      · cases h
    · cases h

theorem kill_nil (H : Nat → Option Blk) : kill H [] = H := by funext b; simp [kill]

theorem Grow.freeze {s : S} (h : Bd s) (rs : List Nat) (z : Bool) : Grow s { s with H := freeze s.H rs, fz := z } := by
  refine ⟨Nat.le_refl _, fun b B hb => ?_, fun b _ hn => ?_, fun b hb => ?_⟩
  · simp only [Am.freeze]
    split
    · rw [hb]; exact ⟨_, rfl, rfl, rfl⟩
    · exact ⟨B, hb, rfl, rfl⟩
  · simp only [Am.freeze, hn, Option.map_none]; split <;> rfl
  · simp only [Am.freeze, h b hb, Option.map_none]; split <;> rfl

theorem callV_grow {Γ : Env} {exk : C → S → Option R} {f : Nat} {caps : List V} {ms : List M} (hms : Γ.md f = some ms) (hro : ms.all (fun m => m == .ro) = true) {xs : List V} {s s' : S} {v : V} (hb : Bd s)
    (h : callV Γ exk (.cl f caps) xs s = some (v, s')) : Grow s s' := by
  unfold callV at h
  simp only [hms] at h
  split at h
  case h_2 => cases h
  rename_i ts rs os hh
  obtain rfl := handL_ro _ _ _ _ _ _ hro hh
  split at h
  case isFalse => cases h
  split at h
  case h_2 => cases h
  rename_i t us _
  rw [lent_ro _ _ hro, kill_nil] at h
  have hm : s.mem s.H = s := rfl
  rw [hm] at h
  have key : ∀ s2, Grow s s2 → (match backL s.H [] us s2 with | some s1 => takeIn DEP t s1 | none => none) = some (v, s') → Grow s s' := by
    intro s2 g hh
    cases us with
    | nil => exact g.trans (takeIn_grow _ _ _ _ _ g.bd hh)
    | cons u us => cases hh
  by_cases hf : free DEP t = true ∧ allL (free DEP) us = true
  · rw [if_pos hf] at h; exact key _ (Grow.refl hb) h
  · rw [if_neg hf] at h; exact key _ (Grow.freeze hb rs _) h

theorem opA_make {Γ : Env} {exk : C → S → Option R} {s s1 : S} {a : A} {v : V} (hp : isMake Γ.md a = true) (hb : Bd s) (h : opA (callV Γ exk) s a = some (v, s1)) : Grow s s1 := by
  have nw : ∀ {u : V} {k : Nat} {es : List V}, some (u, s.new k es) = some (v, s1) → Grow s s1 := by
    intro u k es h; obtain ⟨_, rfl⟩ := Prod.mk.inj (Option.some.inj h); exact Grow.new hb _ _
  cases a <;> simp only [isMake] at hp <;> (try cases hp; done) <;> simp only [opA] at h
  case al => split at h <;> first | exact nw h | cases h
  case bx => split at h <;> first | exact nw h | cases h
  case bs => split at h <;> first | exact nw h | cases h
  case ms =>
    split at h
    · split at h <;> first | exact nw h | cases h
    · cases h
  case ca f xs =>
    cases f with
    | k u =>
      cases u with
      | cl g caps =>
        simp only at hp
        split at hp
        · rename_i ms hms
          exact callV_grow hms hp hb h
        · cases hp
      | _ => cases hp
    | _ => cases hp

/-- A value whose blocks are among the first. -/
def Low (nx : Nat) : V → Prop
  | .hs b _ n c => (n = 0 ∧ c = 0) ∨ b < nx
  | .hp b _ | .hf b _ _ => b < nx
  | _ => True
theorem Low.mono {nx nx' : Nat} (h : nx ≤ nx') {v : V} (k : Low nx v) : Low nx' v := by
  cases v <;> simp only [Low] at k ⊢ <;> omega

theorem Grow.back {s s' : S} (g : Grow s s') {b : Nat} {B : Blk} (hl : b < s.nx) (h : s'.H b = some B) : ∃ B0, s.H b = some B0 ∧ B0.es = B.es ∧ B0.k = B.k := by
  cases hb : s.H b with
  | none => rw [g.gone b hl hb] at h; cases h
  | some B0 =>
    obtain ⟨B', h1, h2, h3⟩ := g.sub b B0 hb
    rw [h1] at h
    obtain rfl := Option.some.inj h
    exact ⟨B0, rfl, h2.symm, h3.symm⟩

/-- What a load reads behind an operation that makes memory, it read before. -/
theorem sc_back {ca : V → List V → S → Option (V × S)} {s s' s1 : S} {q : Option Nat} {t : Nat} {lo hi mx : Option O} {v : V} (hg : ∀ b B, b < s.nx → s'.H b = some B → ∃ B0, s.H b = some B0 ∧ B0.k = B.k) (hlt : Low s.nx (s.e t)) (he : s'.e = s.e)
    (h : opA ca s' (.sc q (.t t) lo hi mx) = some (v, s1)) : opA ca s (.sc q (.t t) lo hi mx) = some (v, s) := by
  simp only [opA] at h ⊢
  rw [he] at h
  have hv : val s.e (.t t) = s.e t := rfl
  rw [hv] at h ⊢
  generalize s.e t = z at *
  cases z <;> simp only at h ⊢ <;> try cases h
  case sl es =>
    split at h
    · rename_i hk
      rw [if_pos hk]
      obtain ⟨u, hu, hh⟩ := Option.map_eq_some_iff.1 h
      obtain ⟨rfl, _⟩ := Prod.mk.inj hh
      rw [hu]; rfl
    · cases h
  case e0 =>
    obtain ⟨u, hu, hh⟩ := Option.map_eq_some_iff.1 h
    obtain ⟨rfl, _⟩ := Prod.mk.inj hh
    rw [hu]; rfl
  case hs b off n c =>
    split at h
    · rename_i hc0
      rw [if_pos hc0]
      obtain ⟨u, hu, hh⟩ := Option.map_eq_some_iff.1 h
      obtain ⟨rfl, _⟩ := Prod.mk.inj hh
      rw [hu]; rfl
    · rename_i hc0
      rw [if_neg hc0]
      split at h
      · rename_i B hB
        split at h
        · rename_i hk
          have hb : b < s.nx := by
            simp only [Low] at hlt
            rcases hlt with hh | hh
            · exact absurd hh.2 hc0
            · exact hh
          obtain ⟨B0, h3, h5⟩ := hg b B hb hB
          simp only [h3]
          rw [if_pos (h5.trans hk)]
          obtain ⟨u, hu, hh⟩ := Option.map_eq_some_iff.1 h
          obtain ⟨rfl, _⟩ := Prod.mk.inj hh
          rw [hu]; rfl
        · cases h
      · cases h
theorem opA_loadT {ca : V → List V → S → Option (V × S)} {s s' s1 : S} {a : A} {v : V} (hp : isLoadT a = true) (g : Grow s s') (hl : ∀ t ∈ a.rd, Low s.nx (s.e t)) (he : s'.e = s.e)
    (h : opA ca s' a = some (v, s1)) : s1 = s' ∧ opA ca s a = some (v, s) := by
  have hq : isQuiet a = true := by cases a <;> simp_all [isLoadT, isQuiet]
  refine ⟨(opA_quiet hq h).1, ?_⟩
  cases a <;> simp only [isLoadT, Bool.false_eq_true] at hp
  case ld q x =>
    cases x <;> simp only [Bool.false_eq_true] at hp
    rename_i t
    have hlt := hl t (by simp [A.rd, O.tm])
    simp only [opA, val] at h ⊢
    rw [he] at h
    have hd : ∀ y, deref s'.H (s.e t) = some y → deref s.H (s.e t) = some y := by
      intro y hy
      generalize s.e t = z at *
      cases z <;> simp only [deref] at hy ⊢ <;> try exact hy
      all_goals
        obtain ⟨B, hB, h2⟩ := Option.bind_eq_some_iff.1 hy
        obtain ⟨B0, h3, h4, _⟩ := g.back hlt hB
        rw [h3, Option.bind_some, h4]; exact h2
    split at h
    · rename_i y hy
      rw [hd y hy]
      split at h
      · rename_i hf
        obtain ⟨rfl, _⟩ := Prod.mk.inj (Option.some.inj h)
        simp only [hf, if_true]
      · cases h
    · cases h
  case ia q x i =>
    cases x <;> simp only [Bool.false_eq_true] at hp
    rename_i t
    have hlt := hl t (by simp [A.rd, O.tm])
    simp only [opA, val] at h ⊢
    rw [he] at h
    split at h
    · rename_i z es hi hx
      try rw [hi, hx]
      try simp only
      split at h
      · split at h
        · obtain ⟨rfl, _⟩ := Prod.mk.inj (Option.some.inj h)
          simp only [*, if_true]
        · cases h
      · cases h
    · rename_i z b off n c hi hx
      try rw [hi, hx]
      rw [hx] at hlt
      try simp only
      split at h
      · rename_i B hB
        split at h
        · rename_i hc
          obtain ⟨rfl, _⟩ := Prod.mk.inj (Option.some.inj h)
          have hb : b < s.nx := by
            simp only [Low] at hlt
            have := hc.1; have := hc.2.1
            omega
          obtain ⟨B0, h3, _, h5⟩ := g.back hb hB
          simp only [h3]
          rw [if_pos ⟨hc.1, hc.2.1, h5.trans hc.2.2⟩]
        · cases h
      · cases h
    · cases h
  case sb x =>
    cases x <;> simp only [Bool.false_eq_true] at hp
    rename_i t
    have hlt := hl t (by simp [A.rd, O.tm])
    simp only [opA, val] at h ⊢
    rw [he] at h
    have hd : ∀ y, elems s'.H (s.e t) = some y → elems s.H (s.e t) = some y := by
      intro y hy
      generalize s.e t = z at *
      cases z <;> simp only [elems] at hy ⊢ <;> try exact hy
      rename_i b off n c
      split at hy
      · rename_i hn; rw [if_pos hn]; exact hy
      · rename_i hn
        rw [if_neg hn]
        split at hy
        · rename_i B hB
          obtain ⟨B0, h3, h4, _⟩ := g.back (hlt.resolve_left fun hh => hn hh.1) hB
          simp only [h3, h4]; exact hy
        · cases hy
    split at h
    · rename_i y hy
      rw [hd y hy]
      split at h
      · rename_i l hl
        obtain ⟨rfl, _⟩ := Prod.mk.inj (Option.some.inj h)
        simp only [hl]
      · cases h
    · cases h
  case sc q x lo hi mx =>
    cases x <;> simp only [Bool.false_eq_true] at hp
    rename_i t
    have hlt := hl t (by simp [A.rd, O.tm])
    exact sc_back (fun b B hb hB => by obtain ⟨B0, h3, _, h5⟩ := g.back hb hB; exact ⟨B0, h3, h5⟩) hlt he h

theorem ap_back {s s1 : S} {q : Option Nat} {x v : V} {src : List V} (hb : Bd s) (h : appendTo s q x src = some (v, s1)) : Bd s1 ∧ s.nx ≤ s1.nx ∧ ∀ b B, b < s.nx → s1.H b = some B → ∃ B0, s.H b = some B0 ∧ B0.k = B.k := by
  have new : ∀ (s0 : S) (k : Nat) (es : List V), Bd s0 → (∀ b B, b < s0.nx → (s0.new k es).H b = some B → s0.H b = some B) ∧ Bd (s0.new k es) := by
    intro s0 k es h0
    refine ⟨fun b B hlt hB => ?_, (Grow.new h0 k es).bd⟩
    simp only [S.new] at hB
    rwa [upd_ne _ _ (by omega)] at hB
  unfold appendTo at h
  simp only at h
  split at h
  · split at h
    · obtain ⟨_, rfl⟩ := Prod.mk.inj (Option.some.inj h); exact ⟨hb, Nat.le_refl _, fun b B _ hB => ⟨B, hB, rfl⟩⟩
    · split at h
      · obtain ⟨_, rfl⟩ := Prod.mk.inj (Option.some.inj h)
        obtain ⟨h1, h2⟩ := new s (ksz q) src hb
        exact ⟨h2, Nat.le_succ _, fun b B hl hB => ⟨B, h1 b B hl hB, rfl⟩⟩
      · cases h
  · rename_i b off n c
    split at h
    case h_2 => cases h
    rename_i B hB
    have hlt : b < s.nx := by
      rcases Nat.lt_or_ge b s.nx with hh | hh
      · exact hh
      · rw [hb b hh] at hB; cases hB
    split at h
    case isFalse => cases h
    split at h
    · split at h
      · obtain ⟨_, rfl⟩ := Prod.mk.inj (Option.some.inj h)
        refine ⟨fun b' hb' => ?_, Nat.le_refl _, fun b' B' _ hB' => ?_⟩
        · simp only [S.blk] at hb' ⊢; rw [upd_ne _ _ (by omega)]; exact hb b' hb'
        · simp only [S.blk] at hB'
          by_cases e : b' = b
          · subst e; rw [upd_same] at hB'; cases hB'; exact ⟨B, hB, rfl⟩
          · rw [upd_ne _ _ e] at hB'; exact ⟨B', hB', rfl⟩
      · cases h
    · split at h
      · obtain ⟨_, rfl⟩ := Prod.mk.inj (Option.some.inj h)
        have hb0 : Bd (s.blk b none) := fun b' hb' => by
          simp only [S.blk] at hb' ⊢
          by_cases e : b' = b
          · subst e; exact upd_same _ _ _
          · rw [upd_ne _ _ e]; exact hb b' hb'
        obtain ⟨h1, h2⟩ := new (s.blk b none) (ksz q) (B.es.drop off ++ src) hb0
        refine ⟨h2, Nat.le_succ _, fun b' B' hl hB' => ?_⟩
        have := h1 b' B' hl hB'
        simp only [S.blk] at this
        by_cases e : b' = b
        · subst e; rw [upd_same] at this; cases this
        · rw [upd_ne _ _ e] at this; exact ⟨B', this, rfl⟩
      · cases h
  · cases h
theorem opA_app {ca : V → List V → S → Option (V × S)} {s s1 : S} {a : A} {v : V} (hp : isApp a = true) (hb : Bd s) (h : opA ca s a = some (v, s1)) : Bd s1 ∧ s.nx ≤ s1.nx ∧ ∀ b B, b < s.nx → s1.H b = some B → ∃ B0, s.H b = some B0 ∧ B0.k = B.k := by
  cases a <;> simp only [isApp, Bool.false_eq_true] at hp
  simp only [opA] at h
  split at h
  · split at h
    · exact ap_back hb h
    · cases h
  · cases h
theorem opA_scT {ca : V → List V → S → Option (V × S)} {s s' s1 : S} {a : A} {v : V} (hp : isScT a = true) (hg : ∀ b B, b < s.nx → s'.H b = some B → ∃ B0, s.H b = some B0 ∧ B0.k = B.k) (hl : ∀ t ∈ a.rd, Low s.nx (s.e t)) (he : s'.e = s.e)
    (h : opA ca s' a = some (v, s1)) : s1 = s' ∧ opA ca s a = some (v, s) := by
  cases a <;> simp only [isScT, Bool.false_eq_true] at hp
  rename_i q x lo hi mx
  cases x <;> simp only [Bool.false_eq_true] at hp
  exact ⟨(opA_quiet rfl h).1, sc_back hg (hl _ (by simp [A.rd, O.tm])) he h⟩

end Go.Am
