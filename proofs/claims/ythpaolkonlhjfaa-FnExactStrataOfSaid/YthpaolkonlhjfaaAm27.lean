/- The B-machine, part 6: loads, and what is packed is unpacked. -/
import Derived.Test.YthpaolkonlhjfaaAm26
set_option linter.all false
namespace Go.Am
variable {β : Bet} {ω : Omg} {sB sA : S}

theorem overL_split {f : V → Option (V × List Nat)} : ∀ {es0 es : List V} {L : List Nat}, overL f es0 = some (es, L) →
    ∃ Ls : List (List Nat), Ls.flatten = L ∧ Ls.length = es.length ∧ es0.length = es.length ∧ ∀ (j : Nat) (ez e : V), es0[j]? = some ez → es[j]? = some e → ∃ l, Ls[j]? = some l ∧ f ez = some (e, l)
  | [], es, L, h => by
    simp only [overL, Option.some.injEq, Prod.mk.injEq] at h
    obtain ⟨rfl, rfl⟩ := h
    exact ⟨[], rfl, rfl, rfl, fun j ez e h => by simp at h⟩
  | x :: es0, es, L, h => by
    obtain ⟨t, ts', i, j, h2, h3, rfl, rfl⟩ := overL_cons h
    obtain ⟨Ls, h4, h5, h6, h7⟩ := overL_split h3
    refine ⟨i :: Ls, by simp [h4], by simp [h5], by simp [h6], fun k ez e hk hk' => ?_⟩
    cases k with
    | zero => simp at hk hk'; subst hk hk'; exact ⟨i, rfl, h2⟩
    | succ k => exact h7 k ez e (by simpa using hk) (by simpa using hk')

/-- Which of the lists holds it. -/
def ownr (Ls : List (List Nat)) (y : Nat) : Nat := Ls.findIdx fun l => l.contains y

theorem ownr_spec : ∀ {Ls : List (List Nat)} {j : Nat} {l : List Nat} {y : Nat}, Ls.flatten.Nodup → Ls[j]? = some l → y ∈ l → ownr Ls y = j
  | [], j, l, y, _, h, _ => by simp at h
  | l0 :: Ls, j, l, y, hn, h, hy => by
    rw [List.flatten_cons, List.nodup_append] at hn
    obtain ⟨_, h2, h3⟩ := hn
    cases j with
    | zero => simp at h; subst h; simp [ownr, List.findIdx_cons, hy]
    | succ j =>
      have hm : y ∈ Ls.flatten := List.mem_flatten.2 ⟨l, List.mem_of_getElem? (by simpa using h), hy⟩
      have hno : l0.contains y = false := by
        cases hc : l0.contains y with
        | false => rfl
        | true => exact absurd rfl (h3 y (by simpa using hc) y hm)
      have := ownr_spec (Ls := Ls) (j := j) h2 (by simpa using h) hy
      unfold ownr at this ⊢
      rw [List.findIdx_cons, hno]
      simp only [cond_false]
      rw [this]

theorem Sim.omega {ω' : Omg} {ep : Nat → Nat → Prop} (q : Sim β ω ep sB sA) (h : ∀ y, sA.H y ≠ none → ω' y = ω y) : Sim β ω' ep sB sA :=
  ⟨q.fzB, q.fzA, q.nofr, q.inj, q.dom, q.rng, q.bdA, q.bdB, q.env, fun b B hB => by
    obtain ⟨h0, x, A, h1, h2, h3, h4, h5⟩ := q.blk b B hB
    exact ⟨h0, x, A, h1, h2, h3, h4, fun i v a hi hv ha => (h5 i v a hi hv ha).frame (fun _ _ h => h) fun y hy h6 h7 => ⟨rfl, (h y hy).trans h6, h7⟩⟩⟩

/-- A block of A that lay packed becomes a block of B. -/
theorem Sim.adopt {ω' : Omg} {ep : Nat → Nat → Prop} (q : Sim β ω ep sB sA) {x : Nat} {A : Blk} (hA : sA.H x = some A) (hx : ∀ b2, β b2 ≠ some x) (hxo : ∃ p, ω x = some p ∧ ep p.1 p.2) (hep : ∀ i, ¬ ep sB.nx i)
    {es : List V} (hl : A.es.length = es.length) (he : ∀ i v a, es[i]? = some v → A.es[i]? = some a → Elt (upd β sB.nx (some x)) ω' sA.H sB.nx i v a)
    (hω : ∀ y p, ω y = some p → ¬ ep p.1 p.2 → ω' y = some p) : Sim (upd β sB.nx (some x)) ω' ep (sB.new A.k es) sA := by
  have hd := q.dom sB.nx (Nat.le_refl _)
  have hβ := upd_beta (x := x) hd
  refine ⟨q.fzB, q.fzA, q.nofr, fun b b2 y h1 h2 => ?_, fun b hb => ?_, fun b y hy => ?_, q.bdA, fun b hb => ?_, fun t => ?_, fun b B hB => ?_⟩
  · by_cases e1 : b = sB.nx <;> by_cases e2 : b2 = sB.nx
    · rw [e1, e2]
    · subst e1; rw [upd_same] at h1; obtain rfl := Option.some.inj h1
      rw [upd_ne _ _ e2] at h2
      exact absurd h2 (hx b2)
    · subst e2; rw [upd_same] at h2; obtain rfl := Option.some.inj h2
      rw [upd_ne _ _ e1] at h1
      exact absurd h1 (hx b)
    · rw [upd_ne _ _ e1] at h1; rw [upd_ne _ _ e2] at h2; exact q.inj b b2 y h1 h2
  · simp only [S.new] at hb
    rw [upd_ne _ _ (by omega)]; exact q.dom b (by omega)
  · by_cases e : b = sB.nx
    · subst e; rw [upd_same] at hy; obtain rfl := Option.some.inj hy; exact q.there (by rw [hA]; simp)
    · rw [upd_ne _ _ e] at hy; exact q.rng b y hy
  · simp only [S.new] at hb ⊢; rw [upd_ne _ _ (by omega)]; exact q.bdB b (by omega)
  · rcases q.env t with h | h
    · exact .inl h
    · exact .inr (Lk.nil hβ h)
  · simp only [S.new] at hB
    by_cases e : b = sB.nx
    · subst e
      rw [upd_same] at hB
      obtain rfl := Option.some.inj hB
      exact ⟨rfl, x, A, upd_same _ _ _, hA, rfl, hl, fun i v a _ hv ha => he i v a hv ha⟩
    · rw [upd_ne _ _ e] at hB
      obtain ⟨h0, y, A', h1, h2, h3, h4, h5⟩ := q.blk b B hB
      refine ⟨h0, y, A', hβ _ _ h1, h2, h3, h4, fun i v a hi hv ha => ?_⟩
      refine (h5 i v a hi hv ha).frame hβ fun z hz h6 h7 => ⟨rfl, hω z _ h6 hi, fun b2 hh => ?_⟩
      by_cases e2 : b2 = sB.nx
      · subst e2; rw [upd_same] at hh; obtain rfl := Option.some.inj hh
        obtain ⟨p, h8, h9⟩ := hxo
        rw [h6] at h8; cases h8
        exact hi h9
      · rw [upd_ne _ _ e2] at hh; exact h7 b2 hh

/-- One packed value is unpacked; its place (b, i) is one of which nothing is said. -/
theorem unp1_sim {ep : Nat → Nat → Prop} (q : Sim β ω ep sB sA) {b i : Nat} (hep : ep b i) (hep2 : ∀ i, ¬ ep sB.nx i) {y a v : V} {L : List Nat} {sB' : S} (hl : Lk β sA.H y a L) (hp : y.pkc = true) (hn : L.Nodup)
    (ho : ∀ z ∈ L, ω z = some (b, i) ∧ ∀ b2, β b2 ≠ some z) (h : unp1 y sB = some (v, sB')) :
    ∃ β' ω', Sim β' ω' ep sB' sA ∧ Lk β' sA.H v a [] ∧ (∀ b x, β b = some x → β' b = some x) ∧ (∀ z, z ∉ L → ω' z = ω z) ∧ (∀ b2 z, β' b2 = some z → β b2 = some z ∨ z ∈ L) ∧
      sB'.e = sB.e ∧ sB.nx ≤ sB'.nx ∧ ∀ b2, b2 < sB.nx → sB'.H b2 = sB.H b2 := by
  have hd := q.dom sB.nx (Nat.le_refl _)
  cases y <;> simp only [V.pkc, V.okc, pkd, Bool.false_or, Bool.or_false, Bool.false_eq_true] at hp <;> simp only [unp1] at h
  case ow k es =>
    obtain ⟨rfl, rfl⟩ := Prod.mk.inj (Option.some.inj h)
    simp only [Lk] at hl
    obtain ⟨⟨d, hg⟩, hpur⟩ := hl
    obtain ⟨d', x, B, L', rfl, hB, rfl, hlen, rfl, hov⟩ := giveX_ow hg
    obtain ⟨Ls, h1, h2, h3, h4⟩ := overL_split hov
    obtain ⟨hxL, hnL⟩ := List.nodup_cons.1 hn
    have hx := ho x (by simp)
    refine ⟨upd β sB.nx (some x), fun z => if z ∈ L' then some (sB.nx, ownr Ls z) else ω z, ?_, by simp only [Lk, and_true]; exact ⟨x, upd_same _ _ _, rfl⟩, upd_beta hd, fun z hz => ?_, fun b2 z hz => ?_, rfl, Nat.le_succ _, fun b2 hb => ?_⟩
    · refine q.adopt hB hx.2 ⟨_, hx.1, hep⟩ hep2 hlen (fun j e ez he he0 => ?_) (fun z p hz hpe => ?_)
      · obtain ⟨l, hl1, hl2⟩ := h4 j ez e he0 he
        have hlL : ∀ z ∈ l, z ∈ L' := fun z hz => by rw [← h1]; exact List.mem_flatten.2 ⟨l, List.mem_of_getElem? hl1, hz⟩
        refine .inr ⟨l, Lk.frame (upd_beta hd) _ _ _ (Lk_of_giveX d' ez e l hl2 (PurL_iff.1 hpur e (List.mem_of_getElem? he))) (fun _ _ => rfl), ?_, fun z hz => ⟨?_, fun b2 hh => ?_⟩⟩
        · have : l.Sublist L' := by rw [← h1]; exact List.sublist_flatten_of_mem (List.mem_of_getElem? hl1)
          exact hnL.sublist this
        · show (if z ∈ L' then some (sB.nx, ownr Ls z) else ω z) = _
          rw [if_pos (hlL z hz), ownr_spec (by rw [h1]; exact hnL) hl1 hz]
        · by_cases e2 : b2 = sB.nx
          · subst e2; rw [upd_same] at hh; obtain rfl := Option.some.inj hh
            exact hxL (hlL _ hz)
          · rw [upd_ne _ _ e2] at hh
            exact (ho z (by simp [hlL z hz])).2 b2 hh
      · rw [if_neg]
        · exact hz
        · intro hzL
          have := (ho z (by simp [hzL])).1
          rw [this] at hz; cases hz; exact hpe hep
    · refine if_neg ?_
      intro hzL; exact hz (by simp [hzL])
    · by_cases e2 : b2 = sB.nx
      · subst e2; rw [upd_same] at hz; obtain rfl := Option.some.inj hz; exact .inr (by simp)
      · rw [upd_ne _ _ e2] at hz; exact .inl hz
    · simp only [S.new]; rw [upd_ne _ _ (by omega)]
  case op u =>
    obtain ⟨rfl, rfl⟩ := Prod.mk.inj (Option.some.inj h)
    simp only [Lk] at hl
    obtain ⟨⟨d, hg⟩, hpur⟩ := hl
    obtain ⟨d', x, B, e, L', rfl, hB, hes, hk, rfl, hg'⟩ := giveX_op hg
    obtain ⟨hxL, hnL⟩ := List.nodup_cons.1 hn
    have hx := ho x (by simp)
    rw [← hk]
    refine ⟨upd β sB.nx (some x), fun z => if z ∈ L' then some (sB.nx, 0) else ω z, ?_, by simp only [Lk, and_true]; exact ⟨x, upd_same _ _ _, rfl⟩, upd_beta hd, fun z hz => ?_, fun b2 z hz => ?_, rfl, Nat.le_succ _, fun b2 hb => ?_⟩
    · refine q.adopt hB hx.2 ⟨_, hx.1, hep⟩ hep2 (by rw [hes]; rfl) (fun j w ez he he0 => ?_) (fun z p hz hpe => ?_)
      · rw [hes] at he0
        cases j with
        | succ j => simp at he
        | zero =>
          simp at he he0
          subst he he0
          refine .inr ⟨L', Lk.frame (upd_beta hd) _ _ _ (Lk_of_giveX d' _ _ L' hg' hpur) (fun _ _ => rfl), hnL, fun z hz => ⟨(if_pos hz : (if z ∈ L' then some (sB.nx, 0) else ω z) = _), fun b2 hh => ?_⟩⟩
          by_cases e2 : b2 = sB.nx
          · subst e2; rw [upd_same] at hh; obtain rfl := Option.some.inj hh
            exact hxL hz
          · rw [upd_ne _ _ e2] at hh
            exact (ho z (by simp [hz])).2 b2 hh
      · rw [if_neg]
        · exact hz
        · intro hzL
          have := (ho z (by simp [hzL])).1
          rw [this] at hz; cases hz; exact hpe hep
    · refine if_neg ?_
      intro hzL; exact hz (by simp [hzL])
    · by_cases e2 : b2 = sB.nx
      · subst e2; rw [upd_same] at hz; obtain rfl := Option.some.inj hz; exact .inr (by simp)
      · rw [upd_ne _ _ e2] at hz; exact .inl hz
    · simp only [S.new]; rw [upd_ne _ _ (by omega)]
  all_goals
    obtain ⟨rfl, rfl⟩ := Prod.mk.inj (Option.some.inj h)
    have hL := okc_nopk hl (by first | exact hp | rfl)
    subst hL
    exact ⟨β, ω, q, hl, fun _ _ h => h, fun _ _ => rfl, fun _ _ h => .inl h, rfl, Nat.le_refl _, fun _ _ => rfl⟩

theorem unpL_sim {b i : Nat} {ep : Nat → Nat → Prop} (hep : ep b i) : ∀ {β : Bet} {ω : Omg} {sB : S} (cs as vs : List V) (L : List Nat) (sB' : S), Sim β ω ep sB sA → (∀ n i, sB.nx ≤ n → ¬ ep n i) → LkL β sA.H cs as L → cs.all V.pkc = true → L.Nodup →
    (∀ z ∈ L, ω z = some (b, i) ∧ ∀ b2, β b2 ≠ some z) → takeL unp1 cs sB = some (vs, sB') →
    ∃ β' ω', Sim β' ω' ep sB' sA ∧ LkL β' sA.H vs as [] ∧ (∀ b x, β b = some x → β' b = some x) ∧ (∀ z, z ∉ L → ω' z = ω z) ∧ (∀ b2 z, β' b2 = some z → β b2 = some z ∨ z ∈ L) ∧
      sB'.e = sB.e ∧ sB.nx ≤ sB'.nx ∧ ∀ b2, b2 < sB.nx → sB'.H b2 = sB.H b2
  | β, ω, sB, [], as, vs, L, sB', q, _, hl, _, _, _, h => by
    simp only [takeL, Option.some.injEq, Prod.mk.injEq] at h
    obtain ⟨rfl, rfl⟩ := h
    simp only [LkL] at hl
    obtain ⟨rfl, rfl⟩ := hl
    exact ⟨β, ω, q, by simp [LkL], fun _ _ h => h, fun _ _ => rfl, fun _ _ h => .inl h, rfl, Nat.le_refl _, fun _ _ => rfl⟩
  | β, ω, sB, c :: cs, as, vs, L, sB', q, hep2, hl, hp, hn, ho, h => by
    obtain ⟨a, as', L1, L2, rfl, rfl, h1, h2⟩ := LkL_cons_inv hl
    simp only [List.all_cons, Bool.and_eq_true] at hp
    simp only [takeL] at h
    split at h
    case h_2 => cases h
    rename_i v s1 hv
    split at h
    case h_2 => cases h
    rename_i vs' s2 hvs
    obtain ⟨rfl, rfl⟩ := Prod.mk.inj (Option.some.inj h)
    rw [List.nodup_append] at hn
    obtain ⟨hn1, hn2, hn3⟩ := hn
    obtain ⟨β1, ω1, q1, k1, k2, k3, k4, k5, k6, k7⟩ := unp1_sim q hep (fun i => hep2 _ i (Nat.le_refl _)) h1 hp.1 hn1 (fun z hz => ho z (by simp [hz])) hv
    have ho1 : ∀ z ∈ L2, ω1 z = some (b, i) ∧ ∀ b2, β1 b2 ≠ some z := fun z hz => by
      have hz1 : z ∉ L1 := fun hh => hn3 z hh z hz rfl
      refine ⟨(k3 z hz1).trans (ho z (by simp [hz])).1, fun b2 hh => ?_⟩
      rcases k4 b2 z hh with h | h
      · exact (ho z (by simp [hz])).2 b2 h
      · exact hz1 h
    obtain ⟨β2, ω2, q2, m1, m2, m3, m4, m5, m6, m7⟩ := unpL_sim hep cs as' vs' L2 s2 q1 (fun n i hn => hep2 n i (by omega)) (LkL.frame k2 _ _ _ h2 (fun _ _ => rfl)) hp.2 hn2 ho1 hvs
    refine ⟨β2, ω2, q2, ?_, fun b x hx => m2 b x (k2 b x hx), fun z hz => ?_, fun b2 z hz => ?_, m5.trans k5, Nat.le_trans k6 m6, fun b2 hb => (m7 b2 (by omega)).trans (k7 b2 hb)⟩
    · simp only [LkL]; exact ⟨a, as', [], [], rfl, rfl, Lk.nil m2 k1, m1⟩
    · simp only [List.mem_append, not_or] at hz
      exact (m3 z hz.2).trans (k3 z hz.1)
    · rcases m4 b2 z hz with h | h
      · rcases k4 b2 z h with h | h
        · exact .inl h
        · exact .inr (by simp [h])
      · exact .inr (by simp [h])

theorem unp_sim {b i : Nat} {ep : Nat → Nat → Prop} (q : Sim β ω ep sB sA) (hep : ep b i) (hep2 : ∀ n i, sB.nx ≤ n → ¬ ep n i) {p : Option Nat} {y a v : V} {L : List Nat} {sB' : S} (hl : Lk β sA.H y a L) (hp : y.fitsB p = true) (hn : L.Nodup)
    (ho : ∀ z ∈ L, ω z = some (b, i) ∧ ∀ b2, β b2 ≠ some z) (h : unp y sB = some (v, sB')) :
    ∃ β' ω', Sim β' ω' ep sB' sA ∧ Lk β' sA.H v a [] ∧ (∀ b x, β b = some x → β' b = some x) ∧ (∀ z, z ∉ L → ω' z = ω z) ∧ (∀ b2 z, β' b2 = some z → β b2 = some z ∨ z ∈ L) ∧
      sB'.e = sB.e ∧ sB.nx ≤ sB'.nx ∧ ∀ b2, b2 < sB.nx → sB'.H b2 = sB.H b2 := by
  by_cases hst : ∃ cs, y = .st cs
  · obtain ⟨cs, rfl⟩ := hst
    cases p with
    | none => simp [V.fitsB, V.pkc, V.okc, pkd] at hp
    | some n =>
      simp only [V.fitsB, Bool.and_eq_true] at hp
      simp only [unp] at h
      split at h
      case h_2 => cases h
      rename_i vs s1 hvs
      obtain ⟨rfl, rfl⟩ := Prod.mk.inj (Option.some.inj h)
      simp only [Lk] at hl
      obtain ⟨as, rfl, hl⟩ := hl
      obtain ⟨β', ω', k1, k2, k3⟩ := unpL_sim hep cs as vs L s1 q hep2 hl hp.2 hn ho hvs
      exact ⟨β', ω', k1, by simp only [Lk]; exact ⟨as, rfl, k2⟩, k3⟩
  · have hp' : y.pkc = true := by
      cases p with
      | none => exact hp
      | some n => cases y <;> first | exact absurd ⟨_, rfl⟩ hst | simp [V.fitsB] at hp
    have hu : unp y sB = unp1 y sB := by cases y <;> first | rfl | exact absurd ⟨_, rfl⟩ hst
    rw [hu] at h
    exact unp1_sim q hep (fun i => hep2 _ i (Nat.le_refl _)) hl hp' hn ho h


theorem fits_un (q : Option Nat) {v : V} (h : v.fits q = true) : v.fitsB q = true := by
  cases q with
  | none => simp only [V.fits] at h; simp [V.fitsB, V.pkc, h]
  | some n =>
    cases v <;> simp only [V.fits, Bool.false_eq_true] at h
    simp only [Bool.and_eq_true] at h
    simp only [V.fitsB, Bool.and_eq_true]
    refine ⟨h.1, ?_⟩
    rw [List.all_eq_true] at h ⊢
    exact fun x hx => by simp [V.pkc, h.2 x hx]

mutual
theorem Ror.nopk : ∀ (v : V), Ror v → pkd v = false
  | .im _, _ => rfl
  | .e0, _ => rfl
  | .st _, _ => rfl
  | .cl _ _, _ => rfl
  | .sl _, _ => rfl
  | .rp _, _ => rfl
  | .tu _, h => by simp [Ror] at h
  | .ow _ _, h => by simp [Ror] at h
  | .op _, h => by simp [Ror] at h
  | .hs .., h => by simp [Ror] at h
  | .hp .., h => by simp [Ror] at h
  | .hf .., h => by simp [Ror] at h
end

theorem Ror.fits {q : Option Nat} {v : V} (h : Ror v) (hv : v.fitsB q = true) : v.fits q = true := by
  cases q with
  | none =>
    simp only [V.fitsB, V.pkc, Ror.nopk v h, Bool.or_false] at hv
    exact hv
  | some n =>
    cases v <;> simp only [V.fitsB, Bool.false_eq_true] at hv
    simp only [Ror] at h
    simp only [Bool.and_eq_true] at hv
    simp only [V.fits, Bool.and_eq_true]
    refine ⟨hv.1, ?_⟩
    rw [List.all_eq_true] at hv ⊢
    intro x hx
    have := hv.2 x hx
    simp only [V.pkc, Ror.nopk x (RorL_iff.1 h x hx), Bool.or_false] at this
    exact this

theorem LkL_at {H : Nat → Option Blk} : ∀ {cs as : List V} {L : List Nat} {j : Nat} {c : V}, LkL β H cs as L → cs[j]? = some c → ∃ a L1 Lj L2, as[j]? = some a ∧ L = L1 ++ Lj ++ L2 ∧ Lk β H c a Lj ∧
    ∀ (β' : Bet) (H' : Nat → Option Blk) (v : V), (∀ b x, β b = some x → β' b = some x) → (∀ x ∈ L1 ++ L2, H' x = H x) → Lk β' H' v a [] → LkL β' H' (cs.set j v) as (L1 ++ L2)
  | [], as, L, j, c, h, hc => by simp at hc
  | d :: cs, as, L, 0, c, h, hc => by
    obtain ⟨a, as', L1, L2, rfl, rfl, h1, h2⟩ := LkL_cons_inv h
    simp at hc; subst hc
    refine ⟨a, [], L1, L2, rfl, by simp, h1, fun β' H' v hβ hH hv => ?_⟩
    simp only [List.set_cons_zero, List.nil_append, LkL]
    exact ⟨a, as', [], L2, rfl, rfl, hv, LkL.frame hβ _ _ _ h2 (by simpa using hH)⟩
  | d :: cs, as, L, j + 1, c, h, hc => by
    obtain ⟨a, as', L1, L2, rfl, rfl, h1, h2⟩ := LkL_cons_inv h
    obtain ⟨a', K1, Kj, K2, g1, rfl, g3, g4⟩ := LkL_at h2 (by simpa using hc)
    refine ⟨a', L1 ++ K1, Kj, K2, by simpa using g1, by simp, g3, fun β' H' v hβ hH hv => ?_⟩
    simp only [List.set_cons_succ, List.append_assoc, LkL]
    exact ⟨a, as', L1, K1 ++ K2, rfl, rfl, Lk.frame hβ _ _ _ h1 (fun x hx => hH x (by simp [hx])), g4 β' H' v hβ (fun x hx => hH x (by simp only [List.mem_append] at hx ⊢; rcases hx with h | h <;> simp [h])) hv⟩

theorem upd_self {H : Nat → Option Blk} {x : Nat} {A : Blk} (h : H x = some A) : upd H x (some A) = H := by
  funext y; simp only [upd]; split
  · rename_i e; rw [e, h]
  · rfl

theorem unp1_okc {y v : V} {s s1 : S} (hu : unp1 y s = some (v, s1)) (hp : y.pkc = true) : v.okc = true := by
  cases y <;> simp only [unp1, V.pkc, V.okc, pkd, Bool.or_self, Bool.false_eq_true] at hu hp
  all_goals (obtain ⟨rfl, rfl⟩ := Prod.mk.inj (Option.some.inj hu); first | rfl | (simpa [V.okc] using hp))

theorem unpL_okc : ∀ (cs vs : List V) (s s2 : S), takeL unp1 cs s = some (vs, s2) → cs.all V.pkc = true → vs.length = cs.length ∧ vs.all V.okc = true
  | [], vs, s, s2, h, _ => by simp only [takeL, Option.some.injEq, Prod.mk.injEq] at h; obtain ⟨rfl, rfl⟩ := h; exact ⟨rfl, rfl⟩
  | c :: cs, vs, s, s2, h, hp => by
    simp only [takeL] at h
    split at h
    case h_2 => cases h
    rename_i t s1 ht
    split at h
    case h_2 => cases h
    rename_i ts s3 hts
    obtain ⟨rfl, rfl⟩ := Prod.mk.inj (Option.some.inj h)
    simp only [List.all_cons, Bool.and_eq_true] at hp
    obtain ⟨h1, h2⟩ := unpL_okc cs _ _ _ hts hp.2
    refine ⟨by simp [h1], ?_⟩
    simp only [List.all_cons, Bool.and_eq_true]
    exact ⟨unp1_okc ht hp.1, h2⟩

theorem unp_fits {q : Option Nat} {y v : V} {s s1 : S} (hu : unp y s = some (v, s1)) (hfb : y.fitsB q = true) : v.fits q = true := by
  cases q with
  | none =>
    simp only [V.fitsB] at hfb
    have hu' : unp1 y s = some (v, s1) := by
      cases y <;> first | exact hu | simp [V.pkc, V.okc, pkd] at hfb
    exact unp1_okc hu' hfb
  | some n =>
    cases y <;> simp only [V.fitsB, Bool.false_eq_true] at hfb
    rename_i cs
    simp only [unp] at hu
    split at hu
    case h_2 => cases hu
    rename_i vs s2 hvs
    obtain ⟨rfl, rfl⟩ := Prod.mk.inj (Option.some.inj hu)
    simp only [V.fits, Bool.and_eq_true] at hfb ⊢
    obtain ⟨h1, h2⟩ := unpL_okc _ _ _ _ hvs hfb.2
    simp only [beq_iff_eq] at hfb ⊢
    exact ⟨by rw [h1]; exact hfb.1, h2⟩

/-- Loads. -/
theorem ld_sim (qs : Sim β ω no2 sB sA) {ca' : V → List V → S → Option (V × S)} {q : Option Nat} {x : O} (hk : x.kok = true) {v : V} {sB' : S} (h : ldB sB q (Am.val sB.e x) = some (v, sB')) : Out β sA sB' v (opA ca' sA (.ld q x)) := by
  have hun : isUn (Am.val sB.e x) = false := by
    cases hu : isUn (Am.val sB.e x) with
    | false => rfl
    | true => rw [isUn_iff.1 hu] at h; simp [ldB, derefB] at h
  have r := qs.val' hk hun
  unfold ldB at h
  split at h
  case h_2 => cases h
  rename_i y hy
  simp only [opA]
  generalize Am.val sB.e x = p at *
  generalize Am.val sA.e x = pa at *
  cases p <;> simp only [derefB] at hy <;> try (cases hy; done)
  case rp u =>
    obtain rfl := Option.some.inj hy
    obtain ⟨rfl, hr⟩ := Lk_rp r
    have hf : u.fits q = true := by
      split at h
      · assumption
      · split at h
        · rename_i hb; exact hr.fits hb
        · cases h
    rw [if_pos hf] at h
    obtain ⟨rfl, rfl⟩ := Prod.mk.inj (Option.some.inj h)
    simp only [deref]
    rw [if_pos hf]
    exact Out.same qs rfl (.inr (Ror.lk _ hr))
  case hp b i =>
    obtain ⟨xa, hx, rfl⟩ := Lk_hp r
    obtain ⟨B, hB, hy⟩ := Option.bind_eq_some_iff.1 hy
    obtain ⟨A, hA, hAk, hfr, hfrB, hal, he⟩ := qs.get hB hx
    have hlt : i < A.es.length := by rw [hal]; exact (List.getElem?_eq_some_iff.1 hy).1
    have ha := List.getElem?_eq_getElem hlt
    have hel := he i y _ (fun h => h) hy ha
    simp only [deref, hA, Option.bind_some, ha]
    split at h
    · rename_i hf
      obtain ⟨rfl, rfl⟩ := Prod.mk.inj (Option.some.inj h)
      have hl := hel.fits hf
      try simp only
      rw [if_pos (fits_rel hl hf)]
      exact Out.same qs rfl (.inr hl)
    · split at h
      case isFalse => cases h
      rename_i hfb
      split at h
      case h_2 => cases h
      rename_i v' s1 hu
      obtain ⟨rfl, rfl⟩ := Prod.mk.inj (Option.some.inj h)
      rcases hel with rfl | ⟨L, hl, hn, ho⟩
      · cases q <;> cases hfb
      have hbl := qs.lt hx
      obtain ⟨β', ω', k1, k2, k3, k4, k5, k6, k7, k8⟩ := unp_sim (ep := fun b' i' => b' = b ∧ i' = i) (qs.less fun _ _ h => h.elim) ⟨rfl, rfl⟩ (fun n i hn hh => by omega) hl hfb hn ho hu
      have hB1 : s1.H b = some B := (k8 b hbl).trans hB
      have q2 := k1.set (ω' := ω') (ep' := no2) hB1 (k3 _ _ hx) hA (es := B.es.set i v') (as := A.es) (by simp [hal]) (fun j u w _ hu' hw => ?_) (fun y p h _ _ => h) (fun b2 i hb _ hh => hb hh.1)
      · have hA' : ({ sA with H := upd sA.H xa (some { A with es := A.es }) } : S) = sA := by
          have : upd sA.H xa (some { A with es := A.es }) = sA.H := upd_self hA
          rw [this]
        rw [hA'] at q2
        have hfit : A.es[i].fits q = true := by
          have hnp : ∀ {w : V}, Lk β' sA.H w A.es[i] [] → w.fits q = true → A.es[i].fits q = true := fun h1 h2 => fits_rel h1 h2
          exact hnp k2 (unp_fits hu hfb)
        try simp only
        rw [if_pos hfit]
        refine ⟨β', ω', _, _, rfl, ?_, .inr k2, k3⟩
        simp only [putB, hB1]
        exact q2
      · rw [List.getElem?_set] at hu'
        split at hu'
        · rename_i hij
          subst hij
          rw [if_pos (by rw [← hal]; exact hlt)] at hu'
          rw [ha] at hw
          cases hu'; cases hw
          exact Elt.nil k2
        · rename_i hij
          refine (he j u w (fun h => h) hu' hw).frame k3 fun z hz h6 h7 => ⟨rfl, ?_, fun b2 hh => ?_⟩
          · rw [k4 z, h6]
            intro hzL
            have := (ho z hzL).1
            rw [h6] at this; cases this; exact hij rfl
          · rcases k5 b2 z hh with h | h
            · exact h7 b2 h
            · have := (ho z h).1
              rw [h6] at this; cases this; exact hij rfl
  case hf b i j =>
    obtain ⟨xa, hx, rfl⟩ := Lk_hf r
    obtain ⟨B, hB, hy⟩ := Option.bind_eq_some_iff.1 hy
    split at hy
    case h_2 => cases hy
    rename_i cs hcs
    obtain ⟨c, hc, hy⟩ := Option.bind_eq_some_iff.1 hy
    split at hy
    case isFalse => cases hy
    rename_i hpk
    obtain rfl := Option.some.inj hy
    obtain ⟨A, hA, hAk, hfr, hfrB, hal, he⟩ := qs.get hB hx
    have hlt : i < A.es.length := by rw [hal]; exact (List.getElem?_eq_some_iff.1 hcs).1
    have ha := List.getElem?_eq_getElem hlt
    have hel := he i _ _ (fun h => h) hcs ha
    rcases hel with hel | ⟨L, hl, hn, ho⟩
    · cases hel
    simp only [Lk] at hl
    obtain ⟨as, has, hll⟩ := hl
    rw [has] at ha
    obtain ⟨a, L1, Lj, L2, haj, rfl, hlj, hset⟩ := LkL_at hll hc
    simp only [deref, hA, Option.bind_some, ha, haj]
    split at h
    · rename_i hf
      obtain ⟨rfl, rfl⟩ := Prod.mk.inj (Option.some.inj h)
      have hLj := fits_nopk hlj hf
      subst hLj
      have hq : q = none := by
        cases q with
        | none => rfl
        | some n => cases c <;> simp_all [V.fits, V.pkc, V.okc, pkd]
      subst hq
      rw [if_pos (okc_rel hlj hf)]
      simp only
      rw [if_pos (fits_rel hlj hf)]
      exact Out.same qs rfl (.inr hlj)
    · rename_i hnf
      split at h
      case isFalse => cases h
      rename_i hfb
      split at h
      case h_2 => cases h
      rename_i v' s1 hu
      obtain ⟨rfl, rfl⟩ := Prod.mk.inj (Option.some.inj h)
      have hbl := qs.lt hx
      have hnj : Lj.Nodup := by
        rw [List.nodup_append] at hn
        have := hn.1
        rw [List.nodup_append] at this
        exact this.2.1
      obtain ⟨β', ω', k1, k2, k3, k4, k5, k6, k7, k8⟩ := unp_sim (ep := fun b' i' => b' = b ∧ i' = i) (qs.less fun _ _ h => h.elim) ⟨rfl, rfl⟩ (fun n i hn hh => by omega) hlj hfb hnj (fun z hz => ho z (by simp [hz])) hu
      have hB1 : s1.H b = some B := (k8 b hbl).trans hB
      have hq : q = none := by
        cases q with
        | none => rfl
        | some n => cases c <;> simp_all [V.fitsB, V.pkc, V.okc, pkd]
      subst hq
      have hvok : v'.okc = true := by
        exact unp_fits (q := none) hu hpk
      have q2 := k1.set (ω' := ω') (ep' := no2) hB1 (k3 _ _ hx) hA (es := B.es.set i (.st (cs.set j v'))) (as := A.es) (by simp [hal]) (fun m u w _ hu' hw => ?_) (fun y p h _ _ => h) (fun b2 i hb _ hh => hb hh.1)
      · have hA' : ({ sA with H := upd sA.H xa (some { A with es := A.es }) } : S) = sA := by
          have : upd sA.H xa (some { A with es := A.es }) = sA.H := upd_self hA
          rw [this]
        rw [hA'] at q2
        rw [if_pos (okc_rel k2 hvok)]
        simp only
        rw [if_pos (fits_rel (q := none) k2 hvok)]
        refine ⟨β', ω', _, _, rfl, ?_, .inr k2, k3⟩
        simp only [putB, hB1, hcs]
        exact q2
      · rw [List.getElem?_set] at hu'
        split at hu'
        · rename_i hij
          subst hij
          rw [if_pos (by rw [← hal]; exact hlt)] at hu'
          rw [ha] at hw
          cases hu'; cases hw
          have hsub : (L1 ++ L2).Sublist (L1 ++ Lj ++ L2) := by
            rw [List.append_assoc]
            exact List.Sublist.append (List.Sublist.refl _) (List.sublist_append_right _ _)
          have hdis : ∀ z ∈ L1 ++ L2, z ∉ Lj := by
            intro z hz hzj
            rw [List.append_assoc, List.nodup_append] at hn
            obtain ⟨n1, n2, n3⟩ := hn
            rw [List.nodup_append] at n2
            rcases List.mem_append.1 hz with h | h
            · exact n3 z h z (by simp [hzj]) rfl
            · exact n2.2.2 z hzj z h rfl
          refine .inr ⟨L1 ++ L2, by simp only [Lk]; exact ⟨as, rfl, hset β' _ v' k3 (fun _ _ => rfl) k2⟩, hn.sublist hsub, fun z hz => ⟨?_, fun b2 hh => ?_⟩⟩
          · rw [k4 z (hdis z hz)]; exact (ho z (hsub.subset hz)).1
          · rcases k5 b2 z hh with h | h
            · exact (ho z (hsub.subset hz)).2 b2 h
            · exact hdis z hz h
        · rename_i hij
          refine (he m u w (fun h => h) hu' hw).frame k3 fun z hz h6 h7 => ⟨rfl, ?_, fun b2 hh => ?_⟩
          · rw [k4 z, h6]
            intro hzL
            have := (ho z (by simp [hzL])).1
            rw [h6] at this; cases this; exact hij rfl
          · rcases k5 b2 z hh with h | h
            · exact h7 b2 h
            · have := (ho z (by simp [h])).1
              rw [h6] at this; cases this; exact hij rfl

end Go.Am
