/- The B-machine, part 11: all code; what B says is so in A. -/
import Derived.Test.YthpaolkonlhjfaaAm31
set_option linter.all false
namespace Go.Am
variable {β : Bet} {ω : Omg} {sB sA : S}

structure EnvB (Γ : Env) (T : Nat → Option FB) : Prop where
  tab : ∀ f x, T f = some x → Γ.T f = some x.er ∧ x.body.sok = true
  pr : ∀ f p args r us, Γ.pr f = some p → p args = some (r, us) → PurL args → Pur r ∧ PurL us

theorem guard_rel {ep : Nat → Nat → Prop} (q : Sim β ω ep sB sA) {g : Option (Nat × Bool)} {b : Bool} (h : guardA sB.e g = some b) : guardA sA.e g = some b := by
  unfold guardA at h ⊢
  cases g with
  | none => exact h
  | some p =>
    obtain ⟨t, w⟩ := p
    simp only at h ⊢
    split at h
    · rename_i b' hb
      rcases q.env t with h' | h'
      · rw [hb] at h'; cases h'
      · rw [hb] at h'; rw [Lk_im h']; exact h
    · cases h

theorem opB_sim {Γ : Env} {T : Nat → Option FB} {e : CB → S → Option R} (hi : IsoS Γ T e) (q : Sim β ω no2 sB sA) {a : A} (hk : a.sok = true) {v : V} {sB' : S} (h : opB (callB Γ T e) sB a = some (v, sB')) :
    Out β sA sB' v (opA (callV Γ (EX Γ)) sA a) := by
  unfold opB at h
  split at h
  · rename_i q' x
    simp only [A.sok, A.oks, A.os, Bool.and_eq_true, List.all_cons, List.all_nil, and_true] at hk
    exact ld_sim q hk.2 h
  · rename_i f xs
    split at h
    case isFalse => cases h
    rename_i hu
    simp only [A.sok, A.oks, A.os, Bool.and_eq_true, List.all_eq_true] at hk
    rw [List.all_eq_true] at hu
    have hu' : ∀ x ∈ f :: xs, isUn (Am.val sB.e x) = false := fun x hx => by simpa using hu x hx
    simp only [opA]
    exact callB_sim hi q (q.val' (hk.2 f (by simp)) (hu' f (by simp))) (LkL_map q (fun x hx => hk.2 x (by simp [hx])) (fun x hx => hu' x (by simp [hx]))) h
  · rename_i h1 h2
    exact op_sim q hk (fun f xs e => h2 f xs e) (fun q x e => h1 q x e) h

theorem runB_sim {Γ : Env} {T : Nat → Option FB} {e : CB → S → Option R} (hi : IsoS Γ T e) : ∀ (l : List I) {β : Bet} {ω : Omg} {sB sA sB' : S}, (l.all fun i => i.a.sok) = true → Sim β ω no2 sB sA → runB (callB Γ T e) l sB = some sB' →
    ∃ β' ω' sA', runI (callV Γ (EX Γ)) l sA = some sA' ∧ Sim β' ω' no2 sB' sA' ∧ ∀ b x, β b = some x → β' b = some x
  | [], β, ω, sB, sA, sB', _, q, h => by
    simp only [runB, Option.some.injEq] at h
    subst h
    exact ⟨β, ω, sA, rfl, q, fun _ _ h => h⟩
  | o :: l, β, ω, sB, sA, sB', hk, q, h => by
    simp only [List.all_cons, Bool.and_eq_true] at hk
    simp only [runB] at h
    rw [runI_cons]
    split at h
    · rename_i hg
      rw [guard_rel q hg]
      simp only
      split at h
      case h_2 => cases h
      rename_i v s1 h1
      obtain ⟨β1, ω1, a, sA1, e1, q1, hv, m1⟩ := opB_sim hi q hk.1 h1
      rw [e1]
      simp only
      obtain ⟨β2, ω2, sA2, e2, q2, m2⟩ := runB_sim hi l hk.2 (q1.put (d := o.d) hv) h
      exact ⟨β2, ω2, sA2, e2, q2, fun b x hx => m2 b x (m1 b x hx)⟩
    · rename_i hg
      rw [guard_rel q hg]
      simp only
      exact runB_sim hi l hk.2 (q.put (d := o.d) (v := .un) (a := .un) (.inl rfl)) h
    · cases h

/-- Two results. -/
def RelR (β : Bet) (ω : Omg) : R → R → Prop
  | .n s, .n s' => Sim β ω no2 s s'
  | .r s, .r s' => Sim β ω no2 s s'
  | .x i s, .x j s' => i = j ∧ Sim β ω no2 s s'
  | _, _ => False

def ExS (Γ : Env) (e : CB → S → Option R) : Prop := ∀ (c : CB) (β : Bet) (ω : Omg) (sB sA : S) (rB : R), e c sB = some rB → c.sok = true → Sim β ω no2 sB sA →
    ∃ β' ω' rA, EX Γ c.er sA = some rA ∧ RelR β' ω' rB rA ∧ (c.nonm = true → ∀ b x, β b = some x → β' b = some x)

theorem pkc_rel {H : Nat → Option Blk} {v a : V} {L : List Nat} (h : Lk β H v a L) (hv : v.pkc = true) : a.okc = true := by
  by_cases hp : pkd v = true
  · cases v <;> simp only [pkd, Bool.false_eq_true] at hp
    · simp only [Lk] at h
      obtain ⟨⟨d, hg⟩, _⟩ := h
      obtain ⟨_, x, _, _, rfl, _⟩ := giveX_ow hg
      rfl
    · simp only [Lk] at h
      obtain ⟨⟨d, hg⟩, _⟩ := h
      obtain ⟨_, x, _, _, _, rfl, _⟩ := giveX_op hg
      rfl
  · have ho : v.okc = true := by
      simp only [V.pkc, Bool.or_eq_true] at hv
      exact hv.resolve_right hp
    have hL := okc_nopk h ho
    subst hL
    exact okc_rel h ho

theorem pkcs_rel {H : Nat → Option Blk} : ∀ {vs as : List V} {L : List Nat}, LkL β H vs as L → vs.all V.pkc = true → as.all V.okc = true
  | [], as, L, h, _ => by simp only [LkL] at h; rw [h.1]; rfl
  | v :: vs, as, L, h, hv => by
    obtain ⟨a, as', L1, L2, rfl, rfl, h1, h2⟩ := LkL_cons_inv h
    simp only [List.all_cons, Bool.and_eq_true] at hv ⊢
    exact ⟨pkc_rel h1 hv.1, pkcs_rel h2 hv.2⟩

theorem fitsB_rel {H : Nat → Option Blk} {q : Option Nat} {v a : V} {L : List Nat} (h : Lk β H v a L) (hv : v.fitsB q = true) : a.fits q = true := by
  cases q with
  | none => exact pkc_rel h hv
  | some n =>
    cases v <;> simp only [V.fitsB, Bool.false_eq_true] at hv
    simp only [Lk] at h
    obtain ⟨as, rfl, hl⟩ := h
    simp only [Bool.and_eq_true, beq_iff_eq] at hv
    simp only [V.fits, Bool.and_eq_true, beq_iff_eq]
    exact ⟨by rw [LkL.len _ _ _ hl]; exact hv.1, pkcs_rel hl hv.2⟩

theorem resVB_sim (q : Sim β ω no2 sB sA) {x : Nat × Option (Option Nat)} {v : V} {o : List Nat} (h : resVB sB x = some (v, o)) :
    ∃ a L, resV sA x = some a ∧ Lk β sA.H v a L ∧ L.Nodup ∧ ∀ y ∈ L, Rtd β ω o y := by
  obtain ⟨t, r⟩ := x
  cases r with
  | none =>
    simp only [resVB] at h
    split at h
    · cases h
    · rename_i hu
      obtain ⟨rfl, rfl⟩ := Prod.mk.inj (Option.some.inj h)
      rcases q.env t with h' | h'
      · exact absurd h' hu
      · exact ⟨_, [], rfl, h', List.nodup_nil, by simp⟩
  | some p =>
    simp only [resVB] at h
    split at h
    case h_2 => cases h
    rename_i y hy
    split at h
    case isFalse => cases h
    rename_i hf
    obtain ⟨rfl, rfl⟩ := Prod.mk.inj (Option.some.inj h)
    have hun : isUn (sB.e t) = false := by
      cases hu : isUn (sB.e t) with
      | false => rfl
      | true => rw [isUn_iff.1 hu] at hy; simp [derefB] at hy
    have r := (q.env t).resolve_left (by rw [hun]; simp)
    simp only [resV]
    generalize sB.e t = p0 at *
    generalize sA.e t = pa at *
    cases p0 <;> simp only [derefB] at hy <;> try (cases hy; done)
    case rp u =>
      obtain rfl := Option.some.inj hy
      obtain ⟨rfl, hr⟩ := Lk_rp r
      simp only [deref]
      rw [if_pos (hr.fits hf)]
      exact ⟨_, [], rfl, Ror.lk _ hr, List.nodup_nil, by simp⟩
    case hp b i =>
      obtain ⟨xa, hx, rfl⟩ := Lk_hp r
      obtain ⟨B, hB, hy⟩ := Option.bind_eq_some_iff.1 hy
      obtain ⟨A, hA, hAk, hfr, hfrB, hal, he⟩ := q.get hB hx
      have hlt : i < A.es.length := by rw [hal]; exact (List.getElem?_eq_some_iff.1 hy).1
      obtain ⟨L, hl, hn, ho⟩ := he i y _ (fun h => h) hy (List.getElem?_eq_getElem hlt)
      simp only [deref, hA, Option.bind_some, List.getElem?_eq_getElem hlt]
      rw [if_pos (fitsB_rel hl hf)]
      exact ⟨_, L, rfl, hl, hn, fun y hy => ⟨b, by simp [own1], .inr ⟨(ho y hy).2, i, (ho y hy).1⟩⟩⟩
    case hf b i j =>
      obtain ⟨xa, hx, rfl⟩ := Lk_hf r
      obtain ⟨B, hB, hy⟩ := Option.bind_eq_some_iff.1 hy
      split at hy
      case h_2 => cases hy
      rename_i cs hcs
      obtain ⟨c, hc, hy⟩ := Option.bind_eq_some_iff.1 hy
      split at hy
      case isFalse => cases hy
      rename_i hpk
      obtain rfl := Option.some.inj hy
      obtain ⟨A, hA, hAk, hfr, hfrB, hal, he⟩ := q.get hB hx
      have hlt : i < A.es.length := by rw [hal]; exact (List.getElem?_eq_some_iff.1 hcs).1
      have ha := List.getElem?_eq_getElem hlt
      obtain ⟨L, hl, hn, ho⟩ := he i _ _ (fun h => h) hcs ha
      simp only [Lk] at hl
      obtain ⟨as, has, hll⟩ := hl
      rw [has] at ha
      obtain ⟨a, L1, Lj, L2, haj, rfl, hlj, _⟩ := LkL_at hll hc
      simp only [deref, hA, Option.bind_some, ha, haj]
      rw [if_pos (pkc_rel hlj hpk)]
      simp only
      rw [if_pos (fitsB_rel hlj hf)]
      have hnj : Lj.Nodup := by
        rw [List.nodup_append] at hn
        have := hn.1
        rw [List.nodup_append] at this
        exact this.2.1
      exact ⟨_, Lj, rfl, hlj, hnj, fun y hy => ⟨b, by simp [own1], .inr ⟨(ho y (by simp [hy])).2, i, (ho y (by simp [hy])).1⟩⟩⟩

theorem resLB_sim (q : Sim β ω no2 sB sA) : ∀ {l : List (Nat × Option (Option Nat))} {vs : List V} {o : List Nat}, resLB sB l = some (vs, o) →
    ∃ as L, resL sA l = some as ∧ LkL β sA.H vs as L ∧ (o.Nodup → L.Nodup) ∧ ∀ y ∈ L, Rtd β ω o y
  | [], vs, o, h => by
    simp only [resLB, Option.some.injEq, Prod.mk.injEq] at h
    obtain ⟨rfl, rfl⟩ := h
    exact ⟨[], [], rfl, by simp [LkL], fun _ => List.nodup_nil, by simp⟩
  | x :: l, vs, o, h => by
    simp only [resLB] at h
    split at h
    case h_2 => cases h
    rename_i v o1 vs' o2 h1 h2
    obtain ⟨rfl, rfl⟩ := Prod.mk.inj (Option.some.inj h)
    obtain ⟨a, L1, g1, g2, g3, g4⟩ := resVB_sim q h1
    obtain ⟨as, L2, k1, k2, k3, k4⟩ := resLB_sim q h2
    refine ⟨a :: as, L1 ++ L2, by simp only [resL, g1, k1], by simp only [LkL]; exact ⟨a, as, L1, L2, rfl, rfl, g2, k2⟩, fun hn => ?_, fun y hy => ?_⟩
    · rw [List.nodup_append] at hn ⊢
      refine ⟨g3, k3 hn.2.1, fun y hy z hz e => ?_⟩
      subst e
      obtain ⟨b, h3, h4⟩ := (g4 y hy).uniq q (k4 y hz)
      exact hn.2.2 b h3 b h4 rfl
    · rcases List.mem_append.1 hy with h | h
      · exact (g4 y h).mono (by simp +contextual)
      · exact (k4 y h).mono (by simp +contextual)

theorem resOfB_sim (q : Sim β ω no2 sB sA) {l : List (Nat × Option (Option Nat))} {v : V} {o : List Nat} (h : resOfB sB l = some (v, o)) :
    ∃ a L, resOf sA l = some a ∧ Lk β sA.H v a L ∧ (o.Nodup → L.Nodup) ∧ ∀ y ∈ L, Rtd β ω o y := by
  unfold resOfB at h
  split at h
  · rename_i v' o' hr
    obtain ⟨rfl, rfl⟩ := Prod.mk.inj (Option.some.inj h)
    obtain ⟨as, L, g1, g2, g3, g4⟩ := resLB_sim q hr
    obtain ⟨a, as', L1, L2, rfl, rfl, l1, l2⟩ := LkL_cons_inv g2
    simp only [LkL] at l2
    obtain ⟨rfl, rfl⟩ := l2
    exact ⟨a, L1 ++ [], by simp only [resOf, g1], by simpa using l1, g3, g4⟩
  · rename_i vs o' hno hr
    obtain ⟨rfl, rfl⟩ := Prod.mk.inj (Option.some.inj h)
    obtain ⟨as, L, g1, g2, g3, g4⟩ := resLB_sim q hr
    refine ⟨.tu as, L, ?_, by simp only [Lk]; exact ⟨as, rfl, g2⟩, g3, g4⟩
    have hlen := LkL.len _ _ _ g2
    simp only [resOf, g1]
    split
    · rename_i a e
      obtain rfl := Option.some.inj e
      cases vs with
      | nil => simp at hlen
      | cons v vs =>
        cases vs with
        | nil => exact (hno v rfl).elim
        | cons _ _ => simp at hlen
    · rename_i e; obtain rfl := Option.some.inj e; rfl
    · rename_i e; cases e
  · cases h

theorem giveBL_sim (q : Sim β ω no2 sB sA) {d : Nat} : ∀ (vs ts as : List V) (os : List Nat), overL (giveB d sB.H) vs = some (ts, os) → LkL β sA.H vs as [] →
    ∃ xs, overL (give d sA.H) as = some (ts, xs) ∧ (∀ x ∈ xs, Rtd β ω os x) ∧ (os.Nodup → xs.Nodup) ∧ PurL ts
  | [], ts, as, os, h, hl => by
    simp only [overL, Option.some.injEq, Prod.mk.injEq] at h
    obtain ⟨rfl, rfl⟩ := h
    simp only [LkL] at hl
    obtain ⟨rfl, _⟩ := hl
    exact ⟨[], rfl, by simp, fun _ => List.nodup_nil, trivial⟩
  | v :: vs, ts, as, os, h, hl => by
    obtain ⟨t, ts', o1, o2, h2, h3, rfl, rfl⟩ := overL_cons h
    obtain ⟨a, as', L1, L2, rfl, e, l1, l2⟩ := LkL_cons_inv hl
    obtain ⟨rfl, rfl⟩ := List.append_eq_nil_iff.1 e.symm
    obtain ⟨xs1, g1, g2, g3, g4⟩ := giveB_sim q d v t a o1 [] h2 l1
    obtain ⟨xs2, k1, k2, k3, k4⟩ := giveBL_sim q vs ts' as' o2 h3 l2
    refine ⟨xs1 ++ xs2, overL_mk g1 k1, fun x hx => ?_, fun hn => ?_, ⟨g4, k4⟩⟩
    · rcases List.mem_append.1 hx with hx | hx
      · exact ((g2 x hx).resolve_left (by simp)).mono (by simp +contextual)
      · exact (k2 x hx).mono (by simp +contextual)
    · rw [List.nodup_append] at hn ⊢
      refine ⟨g3 hn.1 List.nodup_nil (by simp), k3 hn.2.1, fun x hx y hy e => ?_⟩
      subst e
      obtain ⟨b, hb, hb'⟩ := ((g2 x hx).resolve_left (by simp)).uniq q (k2 x hy)
      exact hn.2.2 b hb b hb' rfl

theorem takeBL_sim {d : Nat} : ∀ (ts : List V) {β : Bet} {ω : Omg} {sB sA : S} (vs : List V) (sB' : S), Sim β ω no2 sB sA → PurL ts → takeL (takeB d) ts sB = some (vs, sB') →
    ∃ β' ω' as sA', takeL (takeIn d) ts sA = some (as, sA') ∧ Sim β' ω' no2 sB' sA' ∧ LkL β' sA'.H vs as [] ∧ ∀ b x, β b = some x → β' b = some x
  | [], β, ω, sB, sA, vs, sB', q, _, h => by
    simp only [takeL, Option.some.injEq, Prod.mk.injEq] at h
    obtain ⟨rfl, rfl⟩ := h
    exact ⟨β, ω, [], sA, rfl, q, by simp [LkL], fun _ _ h => h⟩
  | t :: ts, β, ω, sB, sA, vs, sB', q, hp, h => by
    simp only [PurL] at hp
    simp only [takeL] at h
    split at h
    case h_2 => cases h
    rename_i v s1 hv
    split at h
    case h_2 => cases h
    rename_i vs' s2 hvs
    obtain ⟨rfl, rfl⟩ := Prod.mk.inj (Option.some.inj h)
    obtain ⟨β1, ω1, a, sA1, h1, q1, l1, m1⟩ := takeB_sim d t v s1 q hp.1 hv
    obtain ⟨β2, ω2, as, sA2, h2, q2, l2, m2⟩ := takeBL_sim ts vs' s2 q1 hp.2 hvs
    refine ⟨β2, ω2, a :: as, sA2, by simp only [takeL, h1, h2], q2, ?_, fun b x hx => m2 b x (m1 b x hx)⟩
    simp only [LkL]; exact ⟨a, as, [], [], rfl, rfl, Lk.nil m2 l1, l2⟩

theorem sim_start : Sim (fun _ => none) (fun _ => none) no2 { e := fun _ => .un, H := fun _ => none, nx := 0 } { e := fun _ => .un, H := fun _ => none, nx := 0 } :=
  { fzB := rfl, fzA := rfl, nofr := fun _ _ h => (by cases h), inj := fun _ _ _ h => (by cases h), dom := fun _ _ => rfl, rng := fun _ _ h => (by cases h), bdA := fun _ _ => rfl, bdB := fun _ _ => rfl,
    env := fun _ => .inl rfl, blk := fun _ _ h => (by cases h) }

theorem iso_simB {Γ : Env} {T : Nat → Option FB} (hΓ : EnvB Γ T) {e : CB → S → Option R} (he : ExS Γ e) : IsoS Γ T e := by
  intro f ms args t us h hp
  unfold isoB at h
  unfold isoCall
  split at h
  · rename_i p hpr
    rw [hpr]
    exact ⟨h, hΓ.pr f p args t us hpr h hp⟩
  rename_i hpr
  rw [hpr]
  simp only
  split at h
  case h_2 => cases h
  rename_i x hx
  obtain ⟨hT, hsok⟩ := hΓ.tab f x hx
  rw [hT]
  simp only
  split at h
  case isFalse => cases h
  rename_i hnp
  rw [if_pos (show args.length = x.er.np from hnp)]
  simp only [FB.er]
  split at h
  case h_2 => cases h
  rename_i vals s0 htk
  obtain ⟨β0, ω0, as, sA0, g1, q0, l0, _⟩ := takeBL_sim args vals s0 sim_start hp htk
  rw [g1]
  simp only
  have q1 : Sim β0 ω0 no2 { e := envOf vals, H := s0.H, nx := s0.nx } { e := envOf as, H := sA0.H, nx := sA0.nx } := by
    have := q0.wi (eB := envOf vals) (eA := envOf as) (fun t => by
      right
      unfold envOf
      rw [List.getD_eq_getElem?_getD, List.getD_eq_getElem?_getD]
      obtain ⟨hl, hh⟩ := LkL_nil_iff.1 l0
      by_cases ht : t < vals.length
      · rw [List.getElem?_eq_getElem ht, List.getElem?_eq_getElem (by omega)]
        exact hh t _ _ (List.getElem?_eq_getElem ht) (List.getElem?_eq_getElem (by omega))
      · rw [List.getElem?_eq_none (by omega), List.getElem?_eq_none (by omega)]
        exact Lk_im')
    have e1 : s0.wi (envOf vals) = { e := envOf vals, H := s0.H, nx := s0.nx } := by unfold S.wi; rw [q0.fzB]
    have e2 : sA0.wi (envOf as) = { e := envOf as, H := sA0.H, nx := sA0.nx } := by unfold S.wi; rw [q0.fzA]
    rw [e1, e2] at this
    exact this
  have fin : ∀ (s sA' : S) (β' : Bet) (ω' : Omg), Sim β' ω' no2 s sA' → (x.body.nonm = true → ∀ b y, β0 b = some y → β' b = some y) →
      (match resOfB s x.res with
        | some (v, o) =>
          match giveB DEP s.H v, overL (giveB DEP s.H) (lent ms vals) with
          | some (t, i), some (ts, j) => if (o ++ i ++ j).Nodup ∧ ((lent ms vals).isEmpty || x.body.nonm) = true then some (t, ts) else none
          | _, _ => none
        | none => none) = some (t, us) →
      (match resOf sA' x.res with
        | some v =>
          match give DEP sA'.H v, overL (give DEP sA'.H) (lent ms as) with
          | some (t, i), some (ts, j) => if (i ++ j).Nodup ∧ (sA'.fz = false ∨ (free DEP t = true ∧ allL (free DEP) ts = true)) then some (t, ts) else none
          | _, _ => none
        | none => none) = some (t, us) ∧ Pur t ∧ PurL us := by
    intro s sA' β' ω' q' hβ h
    split at h
    case h_2 => cases h
    rename_i v o hres
    obtain ⟨a, L, k1, k2, k3, k4⟩ := resOfB_sim q' hres
    rw [k1]
    simp only
    split at h
    case h_2 => cases h
    rename_i t' i ts' j hg hgl
    split at h
    case isFalse => cases h
    rename_i hc
    obtain ⟨rfl, rfl⟩ := Prod.mk.inj (Option.some.inj h)
    have hll : LkL β' sA'.H (lent ms vals) (lent ms as) [] := by
      have h1 := lent_lk ms vals as l0
      rcases Bool.or_eq_true _ _ ▸ hc.2 with h2 | h2
      · have h3 : lent ms vals = [] := by simpa using h2
        rw [h3] at h1 ⊢
        simp only [LkL] at h1 ⊢
        exact h1
      · exact LkL.nil (hβ h2) h1
    obtain ⟨xs1, m1, m2, m3, m4⟩ := giveB_sim q' DEP v t' a i L hg k2
    obtain ⟨xs2, n1, n2, n3, n4⟩ := giveBL_sim q' _ _ _ _ hgl hll
    rw [m1, n1]
    simp only
    have hnd := hc.1
    rw [List.append_assoc, List.nodup_append] at hnd
    obtain ⟨d1, d2, d3⟩ := hnd
    rw [List.nodup_append] at d2
    obtain ⟨d4, d5, d6⟩ := d2
    have hno : ∀ y ∈ L, ¬ Rtd β' ω' i y := fun y hy hh => by
      obtain ⟨b, h1, h2⟩ := (k4 y hy).uniq q' hh
      exact d3 b h1 b (by simp [h2]) rfl
    rw [if_pos]
    · exact ⟨rfl, m4, n4⟩
    · refine ⟨?_, .inl q'.fzA⟩
      rw [List.nodup_append]
      refine ⟨m3 d4 (k3 d1) hno, n3 d5, fun y hy z hz e => ?_⟩
      subst e
      rcases m2 y hy with h1 | h1
      · obtain ⟨b, h3, h4⟩ := (k4 y h1).uniq q' (n2 y hz)
        exact d3 b h3 b (by simp [h4]) rfl
      · obtain ⟨b, h3, h4⟩ := h1.uniq q' (n2 y hz)
        exact d6 b h3 b h4 rfl
  split at h
  · rename_i s hs
    obtain ⟨β', ω', rA, k1, k2, k3⟩ := he x.body β0 ω0 _ _ _ hs hsok q1
    rw [k1]
    cases rA with
    | n sA' => exact fin s sA' β' ω' k2 k3 h
    | x i sA' => exact k2.elim
    | r sA' => exact k2.elim
  · rename_i s hs
    obtain ⟨β', ω', rA, k1, k2, k3⟩ := he x.body β0 ω0 _ _ _ hs hsok q1
    rw [k1]
    cases rA with
    | r sA' => exact fin s sA' β' ω' k2 k3 h
    | x i sA' => exact k2.elim
    | n sA' => exact k2.elim
  · cases h

theorem exB_sim {Γ : Env} {T : Nat → Option FB} (hΓ : EnvB Γ T) : ∀ k, ExS Γ (exB Γ T k)
  | 0 => fun c β ω sB sA rB h => by simp [exB] at h
  | k + 1 => by
    have ih := exB_sim hΓ k
    have hi := iso_simB hΓ ih
    intro c β ω sB sA rB h hk q
    cases c with
    | skip => simp only [exB, Option.some.injEq] at h; subst h; exact ⟨β, ω, .n sA, EX_skip _ _, q, fun _ _ _ h => h⟩
    | ret => simp only [exB, Option.some.injEq] at h; subst h; exact ⟨β, ω, .r sA, EX_ret _ _, q, fun _ _ _ h => h⟩
    | ex id => simp only [exB, Option.some.injEq] at h; subst h; exact ⟨β, ω, .x id sA, EX_ex _ _ _, ⟨rfl, q⟩, fun _ _ _ h => h⟩
    | no => simp [exB] at h
    | rg l =>
      simp only [exB] at h
      split at h
      case h_2 => cases h
      rename_i s1 h1
      obtain rfl := Option.some.inj h
      simp only [CB.sok] at hk
      obtain ⟨β', ω', sA', e1, q1, m1⟩ := runB_sim hi l hk q h1
      exact ⟨β', ω', .n sA', by simp only [CB.er]; rw [EX_rg, e1]; rfl, q1, fun _ => m1⟩
    | seq a b =>
      simp only [CB.sok, Bool.and_eq_true] at hk
      simp only [exB] at h
      simp only [CB.er, CB.nonm, Bool.and_eq_true]
      cases ha : exB Γ T k a sB with
      | none => rw [ha] at h; cases h
      | some r1 =>
        rw [ha] at h
        obtain ⟨β1, ω1, rA, e1, g1, m1⟩ := ih a β ω sB sA r1 ha hk.1 q
        rw [EX_seq, e1]
        cases r1 with
        | n s1 =>
          cases rA with
          | n sA1 =>
            obtain ⟨β2, ω2, rA2, e2, g2, m2⟩ := ih b β1 ω1 s1 sA1 rB h hk.2 g1
            exact ⟨β2, ω2, rA2, e2, g2, fun hn b x hx => m2 hn.2 b x (m1 hn.1 b x hx)⟩
          | x i s => exact g1.elim
          | r s => exact g1.elim
        | x i s1 =>
          obtain rfl := Option.some.inj h
          cases rA with
          | x j sA1 => exact ⟨β1, ω1, _, rfl, g1, fun hn => m1 hn.1⟩
          | n s => exact g1.elim
          | r s => exact g1.elim
        | r s1 =>
          obtain rfl := Option.some.inj h
          cases rA with
          | r sA1 => exact ⟨β1, ω1, _, rfl, g1, fun hn => m1 hn.1⟩
          | n s => exact g1.elim
          | x i s => exact g1.elim
    | cond o a b =>
      simp only [CB.sok, Bool.and_eq_true] at hk
      simp only [exB] at h
      simp only [CB.er, CB.nonm, Bool.and_eq_true]
      rw [EX_cond]
      split at h
      · rename_i hv
        have hl := q.val' hk.1.1 (by rw [hv]; rfl)
        rw [hv] at hl
        rw [Lk_im hl]
        obtain ⟨β', ω', rA, e1, g1, m1⟩ := ih a β ω sB sA rB h hk.1.2 q
        exact ⟨β', ω', rA, e1, g1, fun hn => m1 hn.1⟩
      · rename_i hv
        have hl := q.val' hk.1.1 (by rw [hv]; rfl)
        rw [hv] at hl
        rw [Lk_im hl]
        obtain ⟨β', ω', rA, e1, g1, m1⟩ := ih b β ω sB sA rB h hk.2 q
        exact ⟨β', ω', rA, e1, g1, fun hn => m1 hn.2⟩
      · cases h
    | blk id a =>
      simp only [CB.sok] at hk
      simp only [exB] at h
      simp only [CB.er, CB.nonm]
      cases ha : exB Γ T k a sB with
      | none => rw [ha] at h; cases h
      | some r1 =>
        rw [ha] at h
        obtain ⟨β1, ω1, rA, e1, g1, m1⟩ := ih a β ω sB sA r1 ha hk q
        rw [EX_blk, e1]
        cases r1 with
        | n s1 =>
          obtain rfl := Option.some.inj h
          cases rA with
          | n sA1 => exact ⟨β1, ω1, _, rfl, g1, m1⟩
          | x i s => exact g1.elim
          | r s => exact g1.elim
        | x i s1 =>
          cases rA with
          | x j sA1 =>
            obtain ⟨rfl, g1⟩ := g1
            simp only at h ⊢
            split at h
            · rename_i hi'
              obtain rfl := Option.some.inj h
              rw [if_pos hi']
              exact ⟨β1, ω1, _, rfl, g1, m1⟩
            · rename_i hi'
              obtain rfl := Option.some.inj h
              rw [if_neg hi']
              exact ⟨β1, ω1, _, rfl, ⟨rfl, g1⟩, m1⟩
          | n s => exact g1.elim
          | r s => exact g1.elim
        | r s1 =>
          obtain rfl := Option.some.inj h
          cases rA with
          | r sA1 => exact ⟨β1, ω1, _, rfl, g1, m1⟩
          | n s => exact g1.elim
          | x i s => exact g1.elim
    | lp a =>
      simp only [CB.sok] at hk
      simp only [exB] at h
      simp only [CB.er, CB.nonm]
      cases ha : exB Γ T k a sB with
      | none => rw [ha] at h; cases h
      | some r1 =>
        rw [ha] at h
        obtain ⟨β1, ω1, rA, e1, g1, m1⟩ := ih a β ω sB sA r1 ha hk q
        rw [EX_lp, e1]
        cases r1 with
        | n s1 =>
          cases rA with
          | n sA1 =>
            obtain ⟨β2, ω2, rA2, e2, g2, m2⟩ := ih (.lp a) β1 ω1 s1 sA1 rB h hk g1
            exact ⟨β2, ω2, rA2, e2, g2, fun hn b x hx => m2 hn b x (m1 hn b x hx)⟩
          | x i s => exact g1.elim
          | r s => exact g1.elim
        | x i s1 =>
          obtain rfl := Option.some.inj h
          cases rA with
          | x j sA1 => exact ⟨β1, ω1, _, rfl, g1, m1⟩
          | n s => exact g1.elim
          | r s => exact g1.elim
        | r s1 =>
          obtain rfl := Option.some.inj h
          cases rA with
          | r sA1 => exact ⟨β1, ω1, _, rfl, g1, m1⟩
          | n s => exact g1.elim
          | x i s => exact g1.elim
    | nm L a =>
      simp only [CB.sok] at hk
      simp only [exB] at h
      simp only [CB.er, CB.nonm]
      split at h
      case h_2 => cases h
      rename_i s1 hs1
      obtain ⟨β1, ω1, q1⟩ := nm_sim q hs1
      obtain ⟨β2, ω2, rA, e1, g1, _⟩ := ih a β1 ω1 s1 sA rB h hk q1
      exact ⟨β2, ω2, rA, e1, g1, fun hn => by cases hn⟩

end Go.Am
