/- The B-machine, part 11: all code; what B says is so in A. -/
import Derived.Test.YthpaolkonlhjfaaAm31
set_option linter.all false
namespace Go.Am
variable {β : Bet} {ω : Omg} {sB sA : S}

structure EnvB (Γ : Env) (T : Nat → Option FB) : Prop where
  tab : ∀ f x, T f = some x → Γ.T f = some x.er ∧ x.body.sok = true
  pr : ∀ f p args r us, Γ.pr f = some p → p args = some (r, us) → PurL args → Pur r ∧ PurL us

theorem guard_rel {ep : Nat → Nat → Prop} (q : Sim β ω ep sB sA) {g : Option (Nat × Bool)} {b : Bool} (h : guardA sB.e g = some b) : guardA sA.e g = some b := by
  unfold guardA at h ⊢
  cases g with
  | none => exact h
  | some p =>
    obtain ⟨t, w⟩ := p
    simp only at h ⊢
    split at h
    · rename_i b' hb
      rcases q.env t with h' | h'
      · rw [hb] at h'; cases h'
      · rw [hb] at h'; rw [Lk_im h']; exact h
    · cases h

/-- Two results. -/
def RelR (β : Bet) (ω : Omg) : R → R → Prop
  | .n s, .n s' => Sim β ω no2 s s'
  | .r s, .r s' => Sim β ω no2 s s'
  | .x i s, .x j s' => i = j ∧ Sim β ω no2 s s'
  | _, _ => False

def ExS (Γ : Env) (e : CB → S → Option R) : Prop := ∀ (c : CB) (β : Bet) (ω : Omg) (sB sA : S) (rB : R), e c sB = some rB → c.sok = true → Sim β ω no2 sB sA →
    ∃ β' ω' rA, EX Γ c.er sA = some rA ∧ RelR β' ω' rB rA ∧ (c.nonm = true → ∀ b x, β b = some x → β' b = some x)

theorem pkc_rel {H : Nat → Option Blk} {v a : V} {L : List Nat} (h : Lk β H v a L) (hv : v.pkc = true) : a.okc = true := by
  by_cases hp : pkd v = true
  · cases v <;> simp only [pkd, Bool.false_eq_true] at hp
    · simp only [Lk] at h
      obtain ⟨⟨d, hg⟩, _⟩ := h
      obtain ⟨_, x, _, _, rfl, _⟩ := giveX_ow hg
      rfl
    · simp only [Lk] at h
      obtain ⟨⟨d, hg⟩, _⟩ := h
      obtain ⟨_, x, _, _, _, rfl, _⟩ := giveX_op hg
      rfl
  · have ho : v.okc = true := by
      simp only [V.pkc, Bool.or_eq_true] at hv
      exact hv.resolve_right hp
    have hL := okc_nopk h ho
    subst hL
    exact okc_rel h ho

theorem pkcs_rel {H : Nat → Option Blk} : ∀ {vs as : List V} {L : List Nat}, LkL β H vs as L → vs.all V.pkc = true → as.all V.okc = true
  | [], as, L, h, _ => by simp only [LkL] at h; rw [h.1]; rfl
  | v :: vs, as, L, h, hv => by
    obtain ⟨a, as', L1, L2, rfl, rfl, h1, h2⟩ := LkL_cons_inv h
    simp only [List.all_cons, Bool.and_eq_true] at hv ⊢
    exact ⟨pkc_rel h1 hv.1, pkcs_rel h2 hv.2⟩

theorem fitsB_rel {H : Nat → Option Blk} {q : Option Nat} {v a : V} {L : List Nat} (h : Lk β H v a L) (hv : v.fitsB q = true) : a.fits q = true := by
  cases q with
  | none => exact pkc_rel h hv
  | some n =>
    cases v <;> simp only [V.fitsB, Bool.false_eq_true] at hv
    simp only [Lk] at h
    obtain ⟨as, rfl, hl⟩ := h
    simp only [Bool.and_eq_true, beq_iff_eq] at hv
    simp only [V.fits, Bool.and_eq_true, beq_iff_eq]
    exact ⟨by rw [LkL.len _ _ _ hl]; exact hv.1, pkcs_rel hl hv.2⟩

theorem resVB_sim (q : Sim β ω no2 sB sA) {x : Nat × Option (Option Nat)} {v : V} {o : List Nat} (h : resVB sB x = some (v, o)) :
    ∃ a L, resV sA x = some a ∧ Lk β sA.H v a L ∧ L.Nodup ∧ ∀ y ∈ L, Rtd β ω o y := by
  obtain ⟨t, r⟩ := x
  cases r with
  | none =>
    simp only [resVB] at h
    split at h
    · cases h
    · rename_i hu
      obtain ⟨rfl, rfl⟩ := Prod.mk.inj (Option.some.inj h)
      rcases q.env t with h' | h'
      · exact absurd h' hu
      · exact ⟨_, [], rfl, h', List.nodup_nil, by simp⟩
  | some p =>
    simp only [resVB] at h
    split at h
    case h_2 => cases h
    rename_i y hy
    split at h
    case isFalse => cases h
    rename_i hf
    obtain ⟨rfl, rfl⟩ := Prod.mk.inj (Option.some.inj h)
    have hun : isUn (sB.e t) = false := by
      cases hu : isUn (sB.e t) with
      | false => rfl
      | true => rw [isUn_iff.1 hu] at hy; simp [derefB] at hy
    have r := (q.env t).resolve_left (by rw [hun]; simp)
    simp only [resV]
    generalize sB.e t = p0 at *
    generalize sA.e t = pa at *
    cases p0 <;> simp only [derefB] at hy <;> try (cases hy; done)
    case rp u =>
      obtain rfl := Option.some.inj hy
      obtain ⟨rfl, hr⟩ := Lk_rp r
      simp only [deref]
      rw [if_pos (hr.fits hf)]
      exact ⟨_, [], rfl, Ror.lk _ hr, List.nodup_nil, by simp⟩
    case hp b i =>
      obtain ⟨xa, hx, rfl⟩ := Lk_hp r
      obtain ⟨B, hB, hy⟩ := Option.bind_eq_some_iff.1 hy
      obtain ⟨A, hA, hAk, hfr, hfrB, hal, he⟩ := q.get hB hx
      have hlt : i < A.es.length := by rw [hal]; exact (List.getElem?_eq_some_iff.1 hy).1
      obtain ⟨L, hl, hn, ho⟩ := (he i y _ (fun h => h) hy (List.getElem?_eq_getElem hlt)).resolve_left (by rintro rfl; cases p <;> cases hf)
      simp only [deref, hA, Option.bind_some, List.getElem?_eq_getElem hlt]
      rw [if_pos (fitsB_rel hl hf)]
      exact ⟨_, L, rfl, hl, hn, fun y hy => ⟨b, by simp [own1], .inr ⟨(ho y hy).2, i, (ho y hy).1⟩⟩⟩
    case hf b i j =>
      obtain ⟨xa, hx, rfl⟩ := Lk_hf r
      obtain ⟨B, hB, hy⟩ := Option.bind_eq_some_iff.1 hy
      split at hy
      case h_2 => cases hy
      rename_i cs hcs
      obtain ⟨c, hc, hy⟩ := Option.bind_eq_some_iff.1 hy
      split at hy
      case isFalse => cases hy
      rename_i hpk
      obtain rfl := Option.some.inj hy
      obtain ⟨A, hA, hAk, hfr, hfrB, hal, he⟩ := q.get hB hx
      have hlt : i < A.es.length := by rw [hal]; exact (List.getElem?_eq_some_iff.1 hcs).1
      have ha := List.getElem?_eq_getElem hlt
      obtain ⟨L, hl, hn, ho⟩ := (he i _ _ (fun h => h) hcs ha).resolve_left (by simp)
      simp only [Lk] at hl
      obtain ⟨as, has, hll⟩ := hl
      rw [has] at ha
      obtain ⟨a, L1, Lj, L2, haj, rfl, hlj, _⟩ := LkL_at hll hc
      simp only [deref, hA, Option.bind_some, ha, haj]
      rw [if_pos (pkc_rel hlj hpk)]
      simp only
      rw [if_pos (fitsB_rel hlj hf)]
      have hnj : Lj.Nodup := by
        rw [List.nodup_append] at hn
        have := hn.1
        rw [List.nodup_append] at this
        exact this.2.1
      exact ⟨_, Lj, rfl, hlj, hnj, fun y hy => ⟨b, by simp [own1], .inr ⟨(ho y (by simp [hy])).2, i, (ho y (by simp [hy])).1⟩⟩⟩

theorem resLB_sim (q : Sim β ω no2 sB sA) : ∀ {l : List (Nat × Option (Option Nat))} {vs : List V} {o : List Nat}, resLB sB l = some (vs, o) →
    ∃ as L, resL sA l = some as ∧ LkL β sA.H vs as L ∧ (o.Nodup → L.Nodup) ∧ ∀ y ∈ L, Rtd β ω o y
  | [], vs, o, h => by
    simp only [resLB, Option.some.injEq, Prod.mk.injEq] at h
    obtain ⟨rfl, rfl⟩ := h
    exact ⟨[], [], rfl, by simp [LkL], fun _ => List.nodup_nil, by simp⟩
  | x :: l, vs, o, h => by
    simp only [resLB] at h
    split at h
    case h_2 => cases h
    rename_i v o1 vs' o2 h1 h2
    obtain ⟨rfl, rfl⟩ := Prod.mk.inj (Option.some.inj h)
    obtain ⟨a, L1, g1, g2, g3, g4⟩ := resVB_sim q h1
    obtain ⟨as, L2, k1, k2, k3, k4⟩ := resLB_sim q h2
    refine ⟨a :: as, L1 ++ L2, by simp only [resL, g1, k1], by simp only [LkL]; exact ⟨a, as, L1, L2, rfl, rfl, g2, k2⟩, fun hn => ?_, fun y hy => ?_⟩
    · rw [List.nodup_append] at hn ⊢
      refine ⟨g3, k3 hn.2.1, fun y hy z hz e => ?_⟩
      subst e
      obtain ⟨b, h3, h4⟩ := (g4 y hy).uniq q (k4 y hz)
      exact hn.2.2 b h3 b h4 rfl
    · rcases List.mem_append.1 hy with h | h
      · exact (g4 y h).mono (by simp +contextual)
      · exact (k4 y h).mono (by simp +contextual)

theorem resOfB_sim (q : Sim β ω no2 sB sA) {l : List (Nat × Option (Option Nat))} {v : V} {o : List Nat} (h : resOfB sB l = some (v, o)) :
    ∃ a L, resOf sA l = some a ∧ Lk β sA.H v a L ∧ (o.Nodup → L.Nodup) ∧ ∀ y ∈ L, Rtd β ω o y := by
  unfold resOfB at h
  split at h
  · rename_i v' o' hr
    obtain ⟨rfl, rfl⟩ := Prod.mk.inj (Option.some.inj h)
    obtain ⟨as, L, g1, g2, g3, g4⟩ := resLB_sim q hr
    obtain ⟨a, as', L1, L2, rfl, rfl, l1, l2⟩ := LkL_cons_inv g2
    simp only [LkL] at l2
    obtain ⟨rfl, rfl⟩ := l2
    exact ⟨a, L1 ++ [], by simp only [resOf, g1], by simpa using l1, g3, g4⟩
  · rename_i vs o' hno hr
    obtain ⟨rfl, rfl⟩ := Prod.mk.inj (Option.some.inj h)
    obtain ⟨as, L, g1, g2, g3, g4⟩ := resLB_sim q hr
    refine ⟨.tu as, L, ?_, by simp only [Lk]; exact ⟨as, rfl, g2⟩, g3, g4⟩
    have hlen := LkL.len _ _ _ g2
    simp only [resOf, g1]
    split
    · rename_i a e
      obtain rfl := Option.some.inj e
      cases vs with
      | nil => simp at hlen
      | cons v vs =>
        cases vs with
        | nil => exact (hno v rfl).elim
        | cons _ _ => simp at hlen
    · rename_i e; obtain rfl := Option.some.inj e; rfl
    · rename_i e; cases e
  · cases h

theorem giveBL_sim (q : Sim β ω no2 sB sA) {d : Nat} : ∀ (vs ts as : List V) (os : List Nat), overL (giveB d sB.H) vs = some (ts, os) → LkL β sA.H vs as [] →
    ∃ xs, overL (give d sA.H) as = some (ts, xs) ∧ (∀ x ∈ xs, Rtd β ω os x) ∧ (os.Nodup → xs.Nodup) ∧ PurL ts
  | [], ts, as, os, h, hl => by
    simp only [overL, Option.some.injEq, Prod.mk.injEq] at h
    obtain ⟨rfl, rfl⟩ := h
    simp only [LkL] at hl
    obtain ⟨rfl, _⟩ := hl
    exact ⟨[], rfl, by simp, fun _ => List.nodup_nil, trivial⟩
  | v :: vs, ts, as, os, h, hl => by
    obtain ⟨t, ts', o1, o2, h2, h3, rfl, rfl⟩ := overL_cons h
    obtain ⟨a, as', L1, L2, rfl, e, l1, l2⟩ := LkL_cons_inv hl
    obtain ⟨rfl, rfl⟩ := List.append_eq_nil_iff.1 e.symm
    obtain ⟨xs1, g1, g2, g3, g4⟩ := giveB_sim q d v t a o1 [] h2 l1
    obtain ⟨xs2, k1, k2, k3, k4⟩ := giveBL_sim q vs ts' as' o2 h3 l2
    refine ⟨xs1 ++ xs2, overL_mk g1 k1, fun x hx => ?_, fun hn => ?_, ⟨g4, k4⟩⟩
    · rcases List.mem_append.1 hx with hx | hx
      · exact ((g2 x hx).resolve_left (by simp)).mono (by simp +contextual)
      · exact (k2 x hx).mono (by simp +contextual)
    · rw [List.nodup_append] at hn ⊢
      refine ⟨g3 hn.1 List.nodup_nil (by simp), k3 hn.2.1, fun x hx y hy e => ?_⟩
      subst e
      obtain ⟨b, hb, hb'⟩ := ((g2 x hx).resolve_left (by simp)).uniq q (k2 x hy)
      exact hn.2.2 b hb b hb' rfl

theorem takeBL_sim {d : Nat} : ∀ (ts : List V) {β : Bet} {ω : Omg} {sB sA : S} (vs : List V) (sB' : S), Sim β ω no2 sB sA → PurL ts → takeL (takeB d) ts sB = some (vs, sB') →
    ∃ β' ω' as sA', takeL (takeIn d) ts sA = some (as, sA') ∧ Sim β' ω' no2 sB' sA' ∧ LkL β' sA'.H vs as [] ∧ ∀ b x, β b = some x → β' b = some x
  | [], β, ω, sB, sA, vs, sB', q, _, h => by
    simp only [takeL, Option.some.injEq, Prod.mk.injEq] at h
    obtain ⟨rfl, rfl⟩ := h
    exact ⟨β, ω, [], sA, rfl, q, by simp [LkL], fun _ _ h => h⟩
  | t :: ts, β, ω, sB, sA, vs, sB', q, hp, h => by
    simp only [PurL] at hp
    simp only [takeL] at h
    split at h
    case h_2 => cases h
    rename_i v s1 hv
    split at h
    case h_2 => cases h
    rename_i vs' s2 hvs
    obtain ⟨rfl, rfl⟩ := Prod.mk.inj (Option.some.inj h)
    obtain ⟨β1, ω1, a, sA1, h1, q1, l1, m1⟩ := takeB_sim d t v s1 q hp.1 hv
    obtain ⟨β2, ω2, as, sA2, h2, q2, l2, m2⟩ := takeBL_sim ts vs' s2 q1 hp.2 hvs
    refine ⟨β2, ω2, a :: as, sA2, by simp only [takeL, h1, h2], q2, ?_, fun b x hx => m2 b x (m1 b x hx)⟩
    simp only [LkL]; exact ⟨a, as, [], [], rfl, rfl, Lk.nil m2 l1, l2⟩

theorem envOf_lk {H : Nat → Option Blk} {vs as : List V} (h : LkL β H vs as []) (t : Nat) : Lk β H (envOf vs t) (envOf as t) [] := by
  unfold envOf
  rw [List.getD_eq_getElem?_getD, List.getD_eq_getElem?_getD]
  obtain ⟨hl, hh⟩ := LkL_nil_iff.1 h
  by_cases ht : t < vs.length
  · rw [List.getElem?_eq_getElem ht, List.getElem?_eq_getElem (by omega)]
    exact hh t _ _ (List.getElem?_eq_getElem ht) (List.getElem?_eq_getElem (by omega))
  · rw [List.getElem?_eq_none (by omega), List.getElem?_eq_none (by omega)]
    exact Lk_im'
theorem callB_sim {Γ : Env} {T : Nat → Option FB} {e : CB → S → Option R} (hΓ : EnvB Γ T) (he : ExS Γ e) (hi : IsoS Γ T e) (q : Sim β ω no2 sB sA) {fv fa : V} {args argsA : List V} (hf : Lk β sA.H fv fa []) (hargs : LkL β sA.H args argsA []) {v : V} {sB' : S}
    (h : callB Γ T e fv args sB = some (v, sB')) : Out β sA sB' v (callV Γ (EX Γ) fa argsA sA) := by
  unfold callB at h
  rw [callV_eq]
  split at h
  case h_1 => cases h
  rename_i f caps hfn
  have hfa : ∃ capsA, fnOf fa = some (f, capsA) ∧ LkL β sA.H caps capsA [] := by
    unfold fnOf at hfn
    split at hfn
    · obtain ⟨rfl, rfl⟩ := Prod.mk.inj (Option.some.inj hfn)
      simp only [Lk, and_true] at hf
      obtain ⟨as, rfl, hl⟩ := hf
      exact ⟨as, rfl, hl⟩
    · rw [Lk_im hf]
      refine ⟨[], ?_, ?_⟩
      · simp only [fnOf]
        split at hfn
        · rename_i hc
          rw [if_pos hc]
          obtain ⟨rfl, rfl⟩ := Prod.mk.inj (Option.some.inj hfn); rfl
        · cases hfn
      · split at hfn
        · obtain ⟨rfl, rfl⟩ := Prod.mk.inj (Option.some.inj hfn); simp [LkL]
        · cases hfn
    · cases hfn
  obtain ⟨capsA, hfa, hcl⟩ := hfa
  rw [hfa]
  simp only
  split at h
  case h_1 hms =>
    rw [hms]
    simp only
    split at h
    case h_2 => cases h
    rename_i x hx
    obtain ⟨hT, hsok⟩ := hΓ.tab f x hx
    rw [hT]
    simp only
    split at h
    case isFalse => cases h
    rename_i hc
    have hal : LkL β sA.H (args ++ caps) (argsA ++ capsA) [] := LkL_app hargs hcl
    have hlen := LkL.len _ _ _ hal
    rw [if_pos (show (argsA ++ capsA).length = x.er.np by rw [hlen]; exact hc.1)]
    have q1 : Sim β ω no2 { sB with e := envOf (args ++ caps) } { sA with e := envOf (argsA ++ capsA) } := q.wi (eB := envOf (args ++ caps)) (eA := envOf (argsA ++ capsA)) fun t => .inr (envOf_lk hal t)
    have fin : ∀ (s1 sA1 : S) (β' : Bet) (ω' : Omg), Sim β' ω' no2 s1 sA1 → (∀ b y, β b = some y → β' b = some y) →
        (match resOfB s1 x.res with | some (v, []) => some (v, ({ sB with H := s1.H, nx := s1.nx, fz := s1.fz } : S)) | _ => none) = some (v, sB') →
        Out β sA sB' v (match resOf sA1 x.er.res with | some v => some (v, ({ sA with H := sA1.H, nx := sA1.nx, fz := sA1.fz } : S)) | none => none) := by
      intro s1 sA1 β' ω' q' hβ h
      split at h
      case h_2 => cases h
      rename_i v1 hres
      obtain ⟨rfl, rfl⟩ := Prod.mk.inj (Option.some.inj h)
      obtain ⟨a, L, k1, k2, k3, k4⟩ := resOfB_sim q' hres
      have hL : L = [] := by
        cases L with
        | nil => rfl
        | cons y L => obtain ⟨b, hb, _⟩ := k4 y (by simp); simp at hb
      subst hL
      rw [show x.er.res = x.res from rfl, k1]
      refine ⟨β', ω', a, _, rfl, ?_, .inr k2, hβ⟩
      exact q'.wi (eB := sB.e) (eA := sA.e) fun t => by
        rcases q.env t with h | h
        · exact .inl h
        · exact .inr (Lk.nil hβ h)
    split at h
    · rename_i s1 hs
      obtain ⟨β', ω', rA, k1, k2, k3⟩ := he x.body β ω _ _ _ hs hsok q1
      rw [show x.er.body = x.body.er from rfl, k1]
      cases rA with
      | n sA1 => exact fin s1 sA1 β' ω' k2 (k3 hc.2) h
      | x i sA1 => exact k2.elim
      | r sA1 => exact k2.elim
    · rename_i s1 hs
      obtain ⟨β', ω', rA, k1, k2, k3⟩ := he x.body β ω _ _ _ hs hsok q1
      rw [show x.er.body = x.body.er from rfl, k1]
      cases rA with
      | r sA1 => exact fin s1 sA1 β' ω' k2 (k3 hc.2) h
      | x i sA1 => exact k2.elim
      | n sA1 => exact k2.elim
    · cases h
  rename_i ms hms
  rw [hms]
  simp only
  split at h
  case h_2 => cases h
  rename_i ts rs os hh
  have hal : LkL β sA.H (args ++ caps) (argsA ++ capsA) [] := LkL_app hargs hcl
  obtain ⟨rsA, osA, g1, g2, g3, g4, g5⟩ := handB_sim q ms _ _ ts rs os hh hal
  split at h
  case isFalse => cases h
  rename_i hc
  rw [g1]
  simp only
  have hcA : osA.Nodup ∧ (∀ b ∈ osA, b ∉ rsA) ∧ osA.all (fun b => match sA.H b with | some B => !B.fr | none => true) = true := by
    refine ⟨g4 hc.1, fun x hx hx' => ?_, ?_⟩
    · obtain ⟨b, h1, h2⟩ := (g3 x hx).uniq q (g2 x hx')
      exact hc.2 b h1 h2
    · rw [List.all_eq_true]
      intro x _
      cases hx : sA.H x with
      | none => rfl
      | some A => simp [q.nofr x A hx]
  refine Eq.mpr (congrArg (Out β sA sB' v) (if_pos hcA)) ?_
  split at h
  case h_2 => cases h
  rename_i t us hiso
  obtain ⟨k1, k2, k3⟩ := hi f ms ts t us hiso g5
  rw [k1]
  simp only
  split at h
  case isFalse => cases h
  rename_i hfree
  split at h
  case h_2 => cases h
  rename_i s1 hb
  have q1 := q.kill (os := os) (xs := osA) g3
  have hst : (if free DEP t = true ∧ allL (free DEP) us = true then sA.mem (kill sA.H osA) else { sA with H := freeze (kill sA.H osA) rsA, fz := sA.fz || !rsA.isEmpty }) = sA.mem (kill sA.H osA) := by
    split
    · rfl
    · rename_i hnf
      simp only [Bool.or_eq_true, Bool.and_eq_true] at hfree
      have hrs : rs = [] := by
        rcases hfree with h | h
        · simpa using h
        · exact absurd h hnf
      have hrsA : rsA = [] := by
        cases rsA with
        | nil => rfl
        | cons x l =>
          obtain ⟨b, hb, _⟩ := g2 x (by simp)
          rw [hrs] at hb; simp at hb
      rw [hrsA]
      have hz : freeze (kill sA.H osA) [] = kill sA.H osA := by funext y; simp [freeze]
      simp only [hz, List.isEmpty_nil, Bool.not_true, Bool.or_false]
      rfl
  rw [hst]
  have hold : OldB β sB.H sA.H := fun b B x hB hx => by
    obtain ⟨A, h1, h2, _, _, h3, _⟩ := q.get hB hx
    exact ⟨A, h1, h2, h3⟩
  obtain ⟨ω1, sA1, m1, m2⟩ := backLB_sim hold _ _ us _ q1 (LkL.nil (fun _ _ h => h) (lent_lk ms _ _ hal)) k3 hb
  rw [m1]
  simp only
  obtain ⟨β', ω', a, sA', n1, n2, n3, n4⟩ := takeB_sim DEP t v sB' m2 k2 h
  exact ⟨β', ω', a, sA', n1, n2, .inr n3, n4⟩

theorem opB_sim {Γ : Env} {T : Nat → Option FB} {e : CB → S → Option R} (hΓ : EnvB Γ T) (he : ExS Γ e) (hi : IsoS Γ T e) (q : Sim β ω no2 sB sA) {a : A} (hk : a.sok = true) {v : V} {sB' : S} (h : opB (callB Γ T e) sB a = some (v, sB')) :
    Out β sA sB' v (opA (callV Γ (EX Γ)) sA a) := by
  unfold opB at h
  split at h
  · rename_i q' x
    simp only [A.sok, A.oks, A.os, Bool.and_eq_true, List.all_cons, List.all_nil, and_true] at hk
    exact ld_sim q hk.2 h
  · rename_i f xs
    split at h
    case isFalse => cases h
    rename_i hu
    simp only [A.sok, A.oks, A.os, Bool.and_eq_true, List.all_eq_true] at hk
    rw [List.all_eq_true] at hu
    have hu' : ∀ x ∈ f :: xs, isUn (Am.val sB.e x) = false := fun x hx => by simpa using hu x hx
    simp only [opA]
    exact callB_sim hΓ he hi q (q.val' (hk.2 f (by simp)) (hu' f (by simp))) (LkL_map q (fun x hx => hk.2 x (by simp [hx])) (fun x hx => hu' x (by simp [hx]))) h
  · rename_i h1 h2
    exact op_sim q hk (fun f xs e => h2 f xs e) (fun q x e => h1 q x e) h

theorem runB_sim {Γ : Env} {T : Nat → Option FB} {e : CB → S → Option R} (hΓ : EnvB Γ T) (he : ExS Γ e) (hi : IsoS Γ T e) : ∀ (l : List I) {β : Bet} {ω : Omg} {sB sA sB' : S}, (l.all fun i => i.a.sok) = true → Sim β ω no2 sB sA → runB (callB Γ T e) l sB = some sB' →
    ∃ β' ω' sA', runI (callV Γ (EX Γ)) l sA = some sA' ∧ Sim β' ω' no2 sB' sA' ∧ ∀ b x, β b = some x → β' b = some x
  | [], β, ω, sB, sA, sB', _, q, h => by
    simp only [runB, Option.some.injEq] at h
    subst h
    exact ⟨β, ω, sA, rfl, q, fun _ _ h => h⟩
  | o :: l, β, ω, sB, sA, sB', hk, q, h => by
    simp only [List.all_cons, Bool.and_eq_true] at hk
    simp only [runB] at h
    rw [runI_cons]
    split at h
    · rename_i hg
      rw [guard_rel q hg]
      simp only
      split at h
      case h_2 => cases h
      rename_i v s1 h1
      obtain ⟨β1, ω1, a, sA1, e1, q1, hv, m1⟩ := opB_sim hΓ he hi q hk.1 h1
      rw [e1]
      simp only
      obtain ⟨β2, ω2, sA2, e2, q2, m2⟩ := runB_sim hΓ he hi l hk.2 (q1.put (d := o.d) hv) h
      exact ⟨β2, ω2, sA2, e2, q2, fun b x hx => m2 b x (m1 b x hx)⟩
    · rename_i hg
      rw [guard_rel q hg]
      simp only
      exact runB_sim hΓ he hi l hk.2 (q.put (d := o.d) (v := .un) (a := .un) (.inl rfl)) h
    · cases h

/-! ### Variables that stay -/
def C.keeps (n : List Nat) : C → Bool
  | .rg l => l.all fun i => match i.d with | some d => !n.contains d | none => true
  | .seq a b | .cond _ a b => a.keeps n && b.keeps n
  | .blk _ a | .lp a => a.keeps n
  | _ => true
theorem keeps_er (n : List Nat) : ∀ c : CB, c.er.keeps n = c.keeps n
  | .skip | .rg _ | .ex _ | .ret | .no => rfl
  | .seq a b | .cond _ a b => by simp only [CB.er, C.keeps, CB.keeps, keeps_er n a, keeps_er n b]
  | .blk _ a | .lp a => by simp only [CB.er, C.keeps, CB.keeps, keeps_er n a]
  | .nm _ a | .dp _ _ a => by simp only [CB.er, CB.keeps, keeps_er n a]
theorem put_keep {n : List Nat} {t : Nat} {s : S} {d : Option Nat} {v : V} (h : (match d with | some d => !n.contains d | none => true) = true) (ht : t ∈ n) : (s.put d v).e t = s.e t := by
  cases d with
  | none => rfl
  | some d =>
    simp only [S.put]
    rw [upd_ne]
    rintro rfl
    simp [ht] at h
theorem runI_keeps {n : List Nat} {ca : V → List V → S → Option (V × S)} (hca : CaE ca) : ∀ {l : List I} {s s1 : S}, runI ca l s = some s1 → (l.all fun i => match i.d with | some d => !n.contains d | none => true) = true → ∀ t, t ∈ n → s1.e t = s.e t
  | [], s, s1, h, _, t, _ => by simp only [runI, Option.some.injEq] at h; rw [h]
  | o :: l, s, s1, h, hk, t, ht => by
    simp only [List.all_cons, Bool.and_eq_true] at hk
    rw [runI_cons] at h
    split at h
    · split at h
      case h_2 => cases h
      rename_i v s2 h2
      rw [runI_keeps hca h hk.2 t ht, put_keep hk.1 ht, opA_same hca h2]
    · rw [runI_keeps hca h hk.2 t ht, put_keep hk.1 ht]
    · cases h
def R.st : R → S
  | .n s | .r s | .x _ s => s
theorem ex_keeps {n : List Nat} (Γ : Env) : ∀ (k : Nat) (c : C) (s : S) (r : R), ex Γ k c s = some r → c.keeps n = true → ∀ t, t ∈ n → r.st.e t = s.e t
  | 0, c, s, r, h, _, _, _ => by simp [ex] at h
  | k + 1, c, s, r, h, hk, t, ht => by
    have ih := ex_keeps (n := n) Γ k
    cases c with
    | skip => simp only [ex, Option.some.injEq] at h; subst h; rfl
    | ret => simp only [ex, Option.some.injEq] at h; subst h; rfl
    | ex id => simp only [ex, Option.some.injEq] at h; subst h; rfl
    | no => simp [ex] at h
    | rg l =>
      simp only [ex] at h
      split at h
      case h_2 => cases h
      rename_i s1 h1
      obtain rfl := Option.some.inj h
      exact runI_keeps (callV_wi Γ (ex Γ k)) h1 hk t ht
    | seq a b =>
      simp only [C.keeps, Bool.and_eq_true] at hk
      simp only [ex] at h
      split at h
      · rename_i s1 h1
        rw [ih _ _ _ h hk.2 t ht]; exact ih _ _ _ h1 hk.1 t ht
      · exact ih _ _ _ h hk.1 t ht
    | cond o a b =>
      simp only [C.keeps, Bool.and_eq_true] at hk
      simp only [ex] at h
      split at h
      · exact ih _ _ _ h hk.1 t ht
      · exact ih _ _ _ h hk.2 t ht
      · cases h
    | blk id a =>
      simp only [C.keeps] at hk
      simp only [ex] at h
      split at h
      · rename_i j s1 h1
        have := ih _ _ _ h1 hk t ht
        split at h <;> (obtain rfl := Option.some.inj h; exact this)
      · exact ih _ _ _ h hk t ht
    | lp a =>
      have hk' := hk
      simp only [C.keeps] at hk
      simp only [ex] at h
      split at h
      · rename_i s1 h1
        rw [ih _ _ _ h hk' t ht]; exact ih _ _ _ h1 hk t ht
      · exact ih _ _ _ h hk t ht
theorem EX_keeps {n : List Nat} {Γ : Env} {c : CB} {s : S} {r : R} (h : EX Γ c.er s = some r) (hk : c.keeps n = true) (t : Nat) (ht : t ∈ n) : r.st.e t = s.e t := by
  obtain ⟨k, hk'⟩ := EX_iff.1 h
  exact ex_keeps Γ k _ _ _ hk' (by rw [keeps_er]; exact hk) t ht
theorem lent_map {α γ : Type} (f : α → γ) : ∀ (ms : List M) (l : List α), lent ms (l.map f) = (lent ms l).map f
  | _, [] => rfl
  | ms, a :: l => by
    simp only [List.map_cons, lent]
    rw [lent_map f ms.tail l]
    cases ms.headD .ro <;> rfl
theorem LkL_mapE {H : Nat → Option Blk} {f g : Nat → V} : ∀ (l : List Nat), (∀ t ∈ l, Lk β H (f t) (g t) []) → LkL β H (l.map f) (l.map g) []
  | [], _ => by simp [LkL]
  | t :: l, h => by
    simp only [List.map_cons, LkL]
    exact ⟨_, _, [], [], rfl, rfl, h t (by simp), LkL_mapE l fun u hu => h u (by simp [hu])⟩
theorem list_eq_map {as : List V} {n : Nat} {e : Nat → V} (hn : as.length = n) (h : ∀ t, t < n → e t = envOf as t) : as = (List.range n).map e := by
  refine List.ext_getElem? fun t => ?_
  by_cases ht : t < n
  · rw [List.getElem?_map, List.getElem?_range ht, Option.map_some, h t ht]
    unfold envOf
    rw [List.getD_eq_getElem?_getD, List.getElem?_eq_getElem (by omega)]; rfl
  · rw [List.getElem?_eq_none (by omega), List.getElem?_eq_none (by simp; omega)]

theorem sim_start : Sim (fun _ => none) (fun _ => none) no2 { e := fun _ => .un, H := fun _ => none, nx := 0 } { e := fun _ => .un, H := fun _ => none, nx := 0 } :=
  { fzB := rfl, fzA := rfl, nofr := fun _ _ h => (by cases h), inj := fun _ _ _ h => (by cases h), dom := fun _ _ => rfl, rng := fun _ _ h => (by cases h), bdA := fun _ _ => rfl, bdB := fun _ _ => rfl,
    env := fun _ => .inl rfl, blk := fun _ _ h => (by cases h) }

theorem iso_simB {Γ : Env} {T : Nat → Option FB} (hΓ : EnvB Γ T) {e : CB → S → Option R} (he : ExS Γ e) : IsoS Γ T e := by
  intro f ms args t us h hp
  unfold isoB at h
  unfold isoCall
  split at h
  · rename_i p hpr
    rw [hpr]
    exact ⟨h, hΓ.pr f p args t us hpr h hp⟩
  rename_i hpr
  rw [hpr]
  simp only
  split at h
  case h_2 => cases h
  rename_i x hx
  obtain ⟨hT, hsok⟩ := hΓ.tab f x hx
  rw [hT]
  simp only
  split at h
  case isFalse => cases h
  rename_i hnp
  rw [if_pos (show args.length = x.er.np from hnp)]
  simp only [FB.er]
  split at h
  case h_2 => cases h
  rename_i vals s0 htk
  obtain ⟨β0, ω0, as, sA0, g1, q0, l0, _⟩ := takeBL_sim args vals s0 sim_start hp htk
  rw [g1]
  simp only
  have q1 : Sim β0 ω0 no2 { e := envOf vals, H := s0.H, nx := s0.nx } { e := envOf as, H := sA0.H, nx := sA0.nx } := by
    have := q0.wi (eB := envOf vals) (eA := envOf as) (fun t => by
      right
      unfold envOf
      rw [List.getD_eq_getElem?_getD, List.getD_eq_getElem?_getD]
      obtain ⟨hl, hh⟩ := LkL_nil_iff.1 l0
      by_cases ht : t < vals.length
      · rw [List.getElem?_eq_getElem ht, List.getElem?_eq_getElem (by omega)]
        exact hh t _ _ (List.getElem?_eq_getElem ht) (List.getElem?_eq_getElem (by omega))
      · rw [List.getElem?_eq_none (by omega), List.getElem?_eq_none (by omega)]
        exact Lk_im')
    have e1 : s0.wi (envOf vals) = { e := envOf vals, H := s0.H, nx := s0.nx } := by unfold S.wi; rw [q0.fzB]
    have e2 : sA0.wi (envOf as) = { e := envOf as, H := sA0.H, nx := sA0.nx } := by unfold S.wi; rw [q0.fzA]
    rw [e1, e2] at this
    exact this
  have fin : ∀ (s sA' : S) (β' : Bet) (ω' : Omg), Sim β' ω' no2 s sA' → (x.body.keeps (lent ms (List.range x.np)) = true → ∀ t, t ∈ lent ms (List.range x.np) → sA'.e t = envOf as t) →
      (match resOfB s x.res with
        | some (v, o) =>
          match giveB DEP s.H v, overL (giveB DEP s.H) (lentB x.np ms s.e) with
          | some (t, i), some (ts, j) => if (o ++ i ++ j).Nodup ∧ ((lentB x.np ms s.e).isEmpty || (x.body.keeps (lent ms (List.range x.np)) && (lentB x.np ms s.e).all fun v => !isUn v)) = true then some (t, ts) else none
          | _, _ => none
        | none => none) = some (t, us) →
      (match resOf sA' x.res with
        | some v =>
          match give DEP sA'.H v, overL (give DEP sA'.H) (lent ms as) with
          | some (t, i), some (ts, j) => if (i ++ j).Nodup ∧ (sA'.fz = false ∨ (free DEP t = true ∧ allL (free DEP) ts = true)) then some (t, ts) else none
          | _, _ => none
        | none => none) = some (t, us) ∧ Pur t ∧ PurL us := by
    intro s sA' β' ω' q' hβ h
    split at h
    case h_2 => cases h
    rename_i v o hres
    obtain ⟨a, L, k1, k2, k3, k4⟩ := resOfB_sim q' hres
    rw [k1]
    simp only
    split at h
    case h_2 => cases h
    rename_i t' i ts' j hg hgl
    split at h
    case isFalse => cases h
    rename_i hc
    obtain ⟨rfl, rfl⟩ := Prod.mk.inj (Option.some.inj h)
    have hll : LkL β' sA'.H (lentB x.np ms s.e) (lent ms as) [] := by
      have hasn : as.length = x.np := by
        have h1 := LkL.len _ _ _ l0
        have h2 := takeL_len htk
        omega
      unfold lentB at hc ⊢
      rcases Bool.or_eq_true _ _ ▸ hc.2 with h2 | h2
      · have h3 : lent ms ((List.range x.np).map s.e) = [] := by simpa using h2
        rw [h3]
        rw [lent_map] at h3
        have h4 : lent ms (List.range x.np) = [] := List.map_eq_nil_iff.1 h3
        have h5 : as = (List.range x.np).map (envOf as) := list_eq_map hasn fun _ _ => rfl
        rw [h5, lent_map, h4]
        simp [LkL]
      · simp only [Bool.and_eq_true] at h2
        have h5 : as = (List.range x.np).map (envOf as) := list_eq_map hasn fun _ _ => rfl
        rw [h5, lent_map, lent_map, ← List.map_congr_left (hβ h2.1)]
        refine LkL_mapE _ fun t ht => (q'.env t).resolve_left ?_
        rw [lent_map, List.all_map, List.all_eq_true] at h2
        have := h2.2 t ht
        simpa using this
    obtain ⟨xs1, m1, m2, m3, m4⟩ := giveB_sim q' DEP v t' a i L hg k2
    obtain ⟨xs2, n1, n2, n3, n4⟩ := giveBL_sim q' _ _ _ _ hgl hll
    rw [m1, n1]
    simp only
    have hnd := hc.1
    rw [List.append_assoc, List.nodup_append] at hnd
    obtain ⟨d1, d2, d3⟩ := hnd
    rw [List.nodup_append] at d2
    obtain ⟨d4, d5, d6⟩ := d2
    have hno : ∀ y ∈ L, ¬ Rtd β' ω' i y := fun y hy hh => by
      obtain ⟨b, h1, h2⟩ := (k4 y hy).uniq q' hh
      exact d3 b h1 b (by simp [h2]) rfl
    rw [if_pos]
    · exact ⟨rfl, m4, n4⟩
    · refine ⟨?_, .inl q'.fzA⟩
      rw [List.nodup_append]
      refine ⟨m3 d4 (k3 d1) hno, n3 d5, fun y hy z hz e => ?_⟩
      subst e
      rcases m2 y hy with h1 | h1
      · obtain ⟨b, h3, h4⟩ := (k4 y h1).uniq q' (n2 y hz)
        exact d3 b h3 b (by simp [h4]) rfl
      · obtain ⟨b, h3, h4⟩ := h1.uniq q' (n2 y hz)
        exact d6 b h3 b h4 rfl
  split at h
  · rename_i s hs
    obtain ⟨β', ω', rA, k1, k2, k3⟩ := he x.body β0 ω0 _ _ _ hs hsok q1
    rw [k1]
    cases rA with
    | n sA' => exact fin s sA' β' ω' k2 (fun hk => EX_keeps (r := .n sA') k1 hk) h
    | x i sA' => exact k2.elim
    | r sA' => exact k2.elim
  · rename_i s hs
    obtain ⟨β', ω', rA, k1, k2, k3⟩ := he x.body β0 ω0 _ _ _ hs hsok q1
    rw [k1]
    cases rA with
    | r sA' => exact fin s sA' β' ω' k2 (fun hk => EX_keeps (r := .r sA') k1 hk) h
    | x i sA' => exact k2.elim
    | n sA' => exact k2.elim
  · cases h

theorem dp_sim (q : Sim β ω no2 sB sA) {x i : Nat} {s1 : S} (h : dpS x i sB = some s1) : Sim β ω no2 s1 sA := by
  unfold dpS at h
  split at h
  case h_2 => cases h
  rename_i b n c kk k hx hi
  split at h
  case h_2 => cases h
  rename_i B hB
  split at h
  case isFalse => cases h
  rename_i hle
  obtain rfl := Option.some.inj h
  obtain ⟨h0, x', A, h1, h2, h3, h4, h5⟩ := q.blk b B hB
  refine ⟨q.fzB, q.fzA, q.nofr, q.inj, q.dom, q.rng, q.bdA, fun b2 hb => ?_, q.env, fun b2 B2 hB2 => ?_⟩
  · show upd sB.H b _ b2 = none
    rw [upd_ne]
    · exact q.bdB b2 hb
    · rintro rfl; have := q.lt h1; simp only [S.blk] at hb; omega
  · simp only [S.blk] at hB2
    by_cases e : b2 = b
    · subst e
      rw [upd_same] at hB2
      obtain rfl := Option.some.inj hB2
      refine ⟨h0, x', A, h1, h2, h3, by simp; omega, fun j v a _ hv ha => ?_⟩
      simp only [List.getElem?_append, List.length_replicate] at hv
      split at hv
      · left
        rw [List.getElem?_replicate] at hv
        rename_i hj
        rw [if_pos hj] at hv
        exact (Option.some.inj hv).symm
      · rename_i hj
        rw [List.getElem?_drop, show k.toNat + (j - k.toNat) = j by omega] at hv
        exact h5 j v a (fun h => h) hv ha
    · rw [upd_ne _ _ e] at hB2
      exact q.blk b2 B2 hB2

theorem exB_sim {Γ : Env} {T : Nat → Option FB} (hΓ : EnvB Γ T) : ∀ k, ExS Γ (exB Γ T k)
  | 0 => fun c β ω sB sA rB h => by simp [exB] at h
  | k + 1 => by
    have ih := exB_sim hΓ k
    have hi := iso_simB hΓ ih
    intro c β ω sB sA rB h hk q
    cases c with
    | skip => simp only [exB, Option.some.injEq] at h; subst h; exact ⟨β, ω, .n sA, EX_skip _ _, q, fun _ _ _ h => h⟩
    | ret => simp only [exB, Option.some.injEq] at h; subst h; exact ⟨β, ω, .r sA, EX_ret _ _, q, fun _ _ _ h => h⟩
    | ex id => simp only [exB, Option.some.injEq] at h; subst h; exact ⟨β, ω, .x id sA, EX_ex _ _ _, ⟨rfl, q⟩, fun _ _ _ h => h⟩
    | no => simp [exB] at h
    | rg l =>
      simp only [exB] at h
      split at h
      case h_2 => cases h
      rename_i s1 h1
      obtain rfl := Option.some.inj h
      simp only [CB.sok] at hk
      obtain ⟨β', ω', sA', e1, q1, m1⟩ := runB_sim hΓ ih hi l hk q h1
      exact ⟨β', ω', .n sA', by simp only [CB.er]; rw [EX_rg, e1]; rfl, q1, fun _ => m1⟩
    | seq a b =>
      simp only [CB.sok, Bool.and_eq_true] at hk
      simp only [exB] at h
      simp only [CB.er, CB.nonm, Bool.and_eq_true]
      cases ha : exB Γ T k a sB with
      | none => rw [ha] at h; cases h
      | some r1 =>
        rw [ha] at h
        obtain ⟨β1, ω1, rA, e1, g1, m1⟩ := ih a β ω sB sA r1 ha hk.1 q
        rw [EX_seq, e1]
        cases r1 with
        | n s1 =>
          cases rA with
          | n sA1 =>
            obtain ⟨β2, ω2, rA2, e2, g2, m2⟩ := ih b β1 ω1 s1 sA1 rB h hk.2 g1
            exact ⟨β2, ω2, rA2, e2, g2, fun hn b x hx => m2 hn.2 b x (m1 hn.1 b x hx)⟩
          | x i s => exact g1.elim
          | r s => exact g1.elim
        | x i s1 =>
          obtain rfl := Option.some.inj h
          cases rA with
          | x j sA1 => exact ⟨β1, ω1, _, rfl, g1, fun hn => m1 hn.1⟩
          | n s => exact g1.elim
          | r s => exact g1.elim
        | r s1 =>
          obtain rfl := Option.some.inj h
          cases rA with
          | r sA1 => exact ⟨β1, ω1, _, rfl, g1, fun hn => m1 hn.1⟩
          | n s => exact g1.elim
          | x i s => exact g1.elim
    | cond o a b =>
      simp only [CB.sok, Bool.and_eq_true] at hk
      simp only [exB] at h
      simp only [CB.er, CB.nonm, Bool.and_eq_true]
      rw [EX_cond]
      split at h
      · rename_i hv
        have hl := q.val' hk.1.1 (by rw [hv]; rfl)
        rw [hv] at hl
        rw [Lk_im hl]
        obtain ⟨β', ω', rA, e1, g1, m1⟩ := ih a β ω sB sA rB h hk.1.2 q
        exact ⟨β', ω', rA, e1, g1, fun hn => m1 hn.1⟩
      · rename_i hv
        have hl := q.val' hk.1.1 (by rw [hv]; rfl)
        rw [hv] at hl
        rw [Lk_im hl]
        obtain ⟨β', ω', rA, e1, g1, m1⟩ := ih b β ω sB sA rB h hk.2 q
        exact ⟨β', ω', rA, e1, g1, fun hn => m1 hn.2⟩
      · cases h
    | blk id a =>
      simp only [CB.sok] at hk
      simp only [exB] at h
      simp only [CB.er, CB.nonm]
      cases ha : exB Γ T k a sB with
      | none => rw [ha] at h; cases h
      | some r1 =>
        rw [ha] at h
        obtain ⟨β1, ω1, rA, e1, g1, m1⟩ := ih a β ω sB sA r1 ha hk q
        rw [EX_blk, e1]
        cases r1 with
        | n s1 =>
          obtain rfl := Option.some.inj h
          cases rA with
          | n sA1 => exact ⟨β1, ω1, _, rfl, g1, m1⟩
          | x i s => exact g1.elim
          | r s => exact g1.elim
        | x i s1 =>
          cases rA with
          | x j sA1 =>
            obtain ⟨rfl, g1⟩ := g1
            simp only at h ⊢
            split at h
            · rename_i hi'
              obtain rfl := Option.some.inj h
              rw [if_pos hi']
              exact ⟨β1, ω1, _, rfl, g1, m1⟩
            · rename_i hi'
              obtain rfl := Option.some.inj h
              rw [if_neg hi']
              exact ⟨β1, ω1, _, rfl, ⟨rfl, g1⟩, m1⟩
          | n s => exact g1.elim
          | r s => exact g1.elim
        | r s1 =>
          obtain rfl := Option.some.inj h
          cases rA with
          | r sA1 => exact ⟨β1, ω1, _, rfl, g1, m1⟩
          | n s => exact g1.elim
          | x i s => exact g1.elim
    | lp a =>
      simp only [CB.sok] at hk
      simp only [exB] at h
      simp only [CB.er, CB.nonm]
      cases ha : exB Γ T k a sB with
      | none => rw [ha] at h; cases h
      | some r1 =>
        rw [ha] at h
        obtain ⟨β1, ω1, rA, e1, g1, m1⟩ := ih a β ω sB sA r1 ha hk q
        rw [EX_lp, e1]
        cases r1 with
        | n s1 =>
          cases rA with
          | n sA1 =>
            obtain ⟨β2, ω2, rA2, e2, g2, m2⟩ := ih (.lp a) β1 ω1 s1 sA1 rB h hk g1
            exact ⟨β2, ω2, rA2, e2, g2, fun hn b x hx => m2 hn b x (m1 hn b x hx)⟩
          | x i s => exact g1.elim
          | r s => exact g1.elim
        | x i s1 =>
          obtain rfl := Option.some.inj h
          cases rA with
          | x j sA1 => exact ⟨β1, ω1, _, rfl, g1, m1⟩
          | n s => exact g1.elim
          | r s => exact g1.elim
        | r s1 =>
          obtain rfl := Option.some.inj h
          cases rA with
          | r sA1 => exact ⟨β1, ω1, _, rfl, g1, m1⟩
          | n s => exact g1.elim
          | x i s => exact g1.elim
    | dp x i a =>
      simp only [CB.sok] at hk
      simp only [exB] at h
      simp only [CB.er, CB.nonm]
      split at h
      case h_2 => cases h
      rename_i s1 hs1
      exact ih a β ω s1 sA rB h hk (dp_sim q hs1)
    | nm L a =>
      simp only [CB.sok] at hk
      simp only [exB] at h
      simp only [CB.er, CB.nonm]
      split at h
      case h_2 => cases h
      rename_i s1 hs1
      obtain ⟨β1, ω1, q1⟩ := nm_sim q hs1
      obtain ⟨β2, ω2, rA, e1, g1, _⟩ := ih a β1 ω1 s1 sA rB h hk q1
      exact ⟨β2, ω2, rA, e1, g1, fun hn => by cases hn⟩

end Go.Am
