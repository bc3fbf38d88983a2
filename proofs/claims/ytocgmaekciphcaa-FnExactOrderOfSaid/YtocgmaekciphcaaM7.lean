/-
  A machine of trees and its soundness over the model, part 7.
-/
import Derived.Test.YtocgmaekciphcaaM6
set_option linter.all false
/- The B-machine, part 6: loads, and what is packed is unpacked. -/
namespace Go.Am
variable {β : Bet} {ω : Omg} {sB sA : S}

theorem overL_split {f : V → Option (V × List Nat)} : ∀ {es0 es : List V} {L : List Nat}, overL f es0 = some (es, L) →
    ∃ Ls : List (List Nat), Ls.flatten = L ∧ Ls.length = es.length ∧ es0.length = es.length ∧ ∀ (j : Nat) (ez e : V), es0[j]? = some ez → es[j]? = some e → ∃ l, Ls[j]? = some l ∧ f ez = some (e, l)
  | [], es, L, h => by
    simp only [overL, Option.some.injEq, Prod.mk.injEq] at h
    obtain ⟨rfl, rfl⟩ := h
    exact ⟨[], rfl, rfl, rfl, fun j ez e h => by simp at h⟩
  | x :: es0, es, L, h => by
    obtain ⟨t, ts', i, j, h2, h3, rfl, rfl⟩ := overL_cons h
    obtain ⟨Ls, h4, h5, h6, h7⟩ := overL_split h3
    refine ⟨i :: Ls, by simp [h4], by simp [h5], by simp [h6], fun k ez e hk hk' => ?_⟩
    cases k with
    | zero => simp at hk hk'; subst hk hk'; exact ⟨i, rfl, h2⟩
    | succ k => exact h7 k ez e (by simpa using hk) (by simpa using hk')

/-- Which of the lists holds it. -/
def ownr (Ls : List (List Nat)) (y : Nat) : Nat := Ls.findIdx fun l => l.contains y

theorem ownr_spec : ∀ {Ls : List (List Nat)} {j : Nat} {l : List Nat} {y : Nat}, Ls.flatten.Nodup → Ls[j]? = some l → y ∈ l → ownr Ls y = j
  | [], j, l, y, _, h, _ => by simp at h
  | l0 :: Ls, j, l, y, hn, h, hy => by
    rw [List.flatten_cons, List.nodup_append] at hn
    obtain ⟨_, h2, h3⟩ := hn
    cases j with
    | zero => simp at h; subst h; simp [ownr, List.findIdx_cons, hy]
    | succ j =>
      have hm : y ∈ Ls.flatten := List.mem_flatten.2 ⟨l, List.mem_of_getElem? (by simpa using h), hy⟩
      have hno : l0.contains y = false := by
        cases hc : l0.contains y with
        | false => rfl
        | true => exact absurd rfl (h3 y (by simpa using hc) y hm)
      have := ownr_spec (Ls := Ls) (j := j) h2 (by simpa using h) hy
      unfold ownr at this ⊢
      rw [List.findIdx_cons, hno]
      simp only [cond_false]
      rw [this]

theorem Sim.omega {ω' : Omg} {ep : Nat → Nat → Prop} (q : Sim β ω ep sB sA) (h : ∀ y, sA.H y ≠ none → ω' y = ω y) : Sim β ω' ep sB sA :=
  ⟨q.fzB, q.fzA, q.nofr, q.inj, q.dom, q.rng, q.bdA, q.bdB, q.env, fun b B hB => by
    obtain ⟨h0, x, A, h1, h2, h3, h4, h5⟩ := q.blk b B hB
    exact ⟨h0, x, A, h1, h2, h3, h4, fun i v a hi hv ha => (h5 i v a hi hv ha).frame (fun _ _ h => h) fun y hy h6 h7 => ⟨rfl, (h y hy).trans h6, h7⟩⟩⟩

/-- A block of A that lay packed becomes a block of B. -/
theorem Sim.adopt {ω' : Omg} {ep : Nat → Nat → Prop} (q : Sim β ω ep sB sA) {x : Nat} {A : Blk} (hA : sA.H x = some A) (hx : ∀ b2, β b2 ≠ some x) (hxo : ∃ p, ω x = some p ∧ ep p.1 p.2) (hep : ∀ i, ¬ ep sB.nx i)
    {es : List V} (hl : A.es.length = es.length) (he : ∀ i v a, es[i]? = some v → A.es[i]? = some a → Elt (upd β sB.nx (some x)) ω' sA.H sB.nx i v a)
    (hω : ∀ y p, ω y = some p → ¬ ep p.1 p.2 → ω' y = some p) : Sim (upd β sB.nx (some x)) ω' ep (sB.new A.k es) sA := by
  have hd := q.dom sB.nx (Nat.le_refl _)
  have hβ := upd_beta (x := x) hd
  refine ⟨q.fzB, q.fzA, q.nofr, fun b b2 y h1 h2 => ?_, fun b hb => ?_, fun b y hy => ?_, q.bdA, fun b hb => ?_, fun t => ?_, fun b B hB => ?_⟩
  · by_cases e1 : b = sB.nx <;> by_cases e2 : b2 = sB.nx
    · rw [e1, e2]
    · subst e1; rw [upd_same] at h1; obtain rfl := Option.some.inj h1
      rw [upd_ne _ _ e2] at h2
      exact absurd h2 (hx b2)
    · subst e2; rw [upd_same] at h2; obtain rfl := Option.some.inj h2
      rw [upd_ne _ _ e1] at h1
      exact absurd h1 (hx b)
    · rw [upd_ne _ _ e1] at h1; rw [upd_ne _ _ e2] at h2; exact q.inj b b2 y h1 h2
  · simp only [S.new] at hb
    rw [upd_ne _ _ (by omega)]; exact q.dom b (by omega)
  · by_cases e : b = sB.nx
    · subst e; rw [upd_same] at hy; obtain rfl := Option.some.inj hy; exact q.there (by rw [hA]; simp)
    · rw [upd_ne _ _ e] at hy; exact q.rng b y hy
  · simp only [S.new] at hb ⊢; rw [upd_ne _ _ (by omega)]; exact q.bdB b (by omega)
  · rcases q.env t with h | h
    · exact .inl h
    · exact .inr (Lk.nil hβ h)
  · simp only [S.new] at hB
    by_cases e : b = sB.nx
    · subst e
      rw [upd_same] at hB
      obtain rfl := Option.some.inj hB
      exact ⟨rfl, x, A, upd_same _ _ _, hA, rfl, hl, fun i v a _ hv ha => he i v a hv ha⟩
    · rw [upd_ne _ _ e] at hB
      obtain ⟨h0, y, A', h1, h2, h3, h4, h5⟩ := q.blk b B hB
      refine ⟨h0, y, A', hβ _ _ h1, h2, h3, h4, fun i v a hi hv ha => ?_⟩
      refine (h5 i v a hi hv ha).frame hβ fun z hz h6 h7 => ⟨rfl, hω z _ h6 hi, fun b2 hh => ?_⟩
      by_cases e2 : b2 = sB.nx
      · subst e2; rw [upd_same] at hh; obtain rfl := Option.some.inj hh
        obtain ⟨p, h8, h9⟩ := hxo
        rw [h6] at h8; cases h8
        exact hi h9
      · rw [upd_ne _ _ e2] at hh; exact h7 b2 hh

/-- One packed value is unpacked; its place (b, i) is one of which nothing is said. -/
theorem unp1_sim {ep : Nat → Nat → Prop} (q : Sim β ω ep sB sA) {b i : Nat} (hep : ep b i) (hep2 : ∀ i, ¬ ep sB.nx i) {y a v : V} {L : List Nat} {sB' : S} (hl : Lk β sA.H y a L) (hp : y.pkc = true) (hn : L.Nodup)
    (ho : ∀ z ∈ L, ω z = some (b, i) ∧ ∀ b2, β b2 ≠ some z) (h : unp1 y sB = some (v, sB')) :
    ∃ β' ω', Sim β' ω' ep sB' sA ∧ Lk β' sA.H v a [] ∧ (∀ b x, β b = some x → β' b = some x) ∧ (∀ z, z ∉ L → ω' z = ω z) ∧ (∀ b2 z, β' b2 = some z → β b2 = some z ∨ z ∈ L) ∧
      sB'.e = sB.e ∧ sB.nx ≤ sB'.nx ∧ ∀ b2, b2 < sB.nx → sB'.H b2 = sB.H b2 := by
  have hd := q.dom sB.nx (Nat.le_refl _)
  cases y <;> simp only [V.pkc, V.okc, pkd, Bool.false_or, Bool.or_false, Bool.false_eq_true] at hp <;> simp only [unp1] at h
  case ow k es =>
    obtain ⟨rfl, rfl⟩ := Prod.mk.inj (Option.some.inj h)
    simp only [Lk] at hl
    obtain ⟨⟨d, hg⟩, hpur⟩ := hl
    obtain ⟨d', x, B, L', rfl, hB, rfl, hlen, rfl, hov⟩ := giveX_ow hg
    obtain ⟨Ls, h1, h2, h3, h4⟩ := overL_split hov
    obtain ⟨hxL, hnL⟩ := List.nodup_cons.1 hn
    have hx := ho x (by simp)
    refine ⟨upd β sB.nx (some x), fun z => if z ∈ L' then some (sB.nx, ownr Ls z) else ω z, ?_, by simp only [Lk, and_true]; exact ⟨x, upd_same _ _ _, rfl⟩, upd_beta hd, fun z hz => ?_, fun b2 z hz => ?_, rfl, Nat.le_succ _, fun b2 hb => ?_⟩
    · refine q.adopt hB hx.2 ⟨_, hx.1, hep⟩ hep2 hlen (fun j e ez he he0 => ?_) (fun z p hz hpe => ?_)
      · obtain ⟨l, hl1, hl2⟩ := h4 j ez e he0 he
        have hlL : ∀ z ∈ l, z ∈ L' := fun z hz => by rw [← h1]; exact List.mem_flatten.2 ⟨l, List.mem_of_getElem? hl1, hz⟩
        refine .inr ⟨l, Lk.frame (upd_beta hd) _ _ _ (Lk_of_giveX d' ez e l hl2 (PurL_iff.1 hpur e (List.mem_of_getElem? he))) (fun _ _ => rfl), ?_, fun z hz => ⟨?_, fun b2 hh => ?_⟩⟩
        · have : l.Sublist L' := by rw [← h1]; exact List.sublist_flatten_of_mem (List.mem_of_getElem? hl1)
          exact hnL.sublist this
        · show (if z ∈ L' then some (sB.nx, ownr Ls z) else ω z) = _
          rw [if_pos (hlL z hz), ownr_spec (by rw [h1]; exact hnL) hl1 hz]
        · by_cases e2 : b2 = sB.nx
          · subst e2; rw [upd_same] at hh; obtain rfl := Option.some.inj hh
            exact hxL (hlL _ hz)
          · rw [upd_ne _ _ e2] at hh
            exact (ho z (by simp [hlL z hz])).2 b2 hh
      · rw [if_neg]
        · exact hz
        · intro hzL
          have := (ho z (by simp [hzL])).1
          rw [this] at hz; cases hz; exact hpe hep
    · refine if_neg ?_
      intro hzL; exact hz (by simp [hzL])
    · by_cases e2 : b2 = sB.nx
      · subst e2; rw [upd_same] at hz; obtain rfl := Option.some.inj hz; exact .inr (by simp)
      · rw [upd_ne _ _ e2] at hz; exact .inl hz
    · simp only [S.new]; rw [upd_ne _ _ (by omega)]
  case op u =>
    obtain ⟨rfl, rfl⟩ := Prod.mk.inj (Option.some.inj h)
    simp only [Lk] at hl
    obtain ⟨⟨d, hg⟩, hpur⟩ := hl
    obtain ⟨d', x, B, e, L', rfl, hB, hes, hk, rfl, hg'⟩ := giveX_op hg
    obtain ⟨hxL, hnL⟩ := List.nodup_cons.1 hn
    have hx := ho x (by simp)
    rw [← hk]
    refine ⟨upd β sB.nx (some x), fun z => if z ∈ L' then some (sB.nx, 0) else ω z, ?_, by simp only [Lk, and_true]; exact ⟨x, upd_same _ _ _, rfl⟩, upd_beta hd, fun z hz => ?_, fun b2 z hz => ?_, rfl, Nat.le_succ _, fun b2 hb => ?_⟩
    · refine q.adopt hB hx.2 ⟨_, hx.1, hep⟩ hep2 (by rw [hes]; rfl) (fun j w ez he he0 => ?_) (fun z p hz hpe => ?_)
      · rw [hes] at he0
        cases j with
        | succ j => simp at he
        | zero =>
          simp at he he0
          subst he he0
          refine .inr ⟨L', Lk.frame (upd_beta hd) _ _ _ (Lk_of_giveX d' _ _ L' hg' hpur) (fun _ _ => rfl), hnL, fun z hz => ⟨(if_pos hz : (if z ∈ L' then some (sB.nx, 0) else ω z) = _), fun b2 hh => ?_⟩⟩
          by_cases e2 : b2 = sB.nx
          · subst e2; rw [upd_same] at hh; obtain rfl := Option.some.inj hh
            exact hxL hz
          · rw [upd_ne _ _ e2] at hh
            exact (ho z (by simp [hz])).2 b2 hh
      · rw [if_neg]
        · exact hz
        · intro hzL
          have := (ho z (by simp [hzL])).1
          rw [this] at hz; cases hz; exact hpe hep
    · refine if_neg ?_
      intro hzL; exact hz (by simp [hzL])
    · by_cases e2 : b2 = sB.nx
      · subst e2; rw [upd_same] at hz; obtain rfl := Option.some.inj hz; exact .inr (by simp)
      · rw [upd_ne _ _ e2] at hz; exact .inl hz
    · simp only [S.new]; rw [upd_ne _ _ (by omega)]
  all_goals
    obtain ⟨rfl, rfl⟩ := Prod.mk.inj (Option.some.inj h)
    have hL := okc_nopk hl (by first | exact hp | rfl)
    subst hL
    exact ⟨β, ω, q, hl, fun _ _ h => h, fun _ _ => rfl, fun _ _ h => .inl h, rfl, Nat.le_refl _, fun _ _ => rfl⟩

theorem unpL_sim {b i : Nat} {ep : Nat → Nat → Prop} (hep : ep b i) : ∀ {β : Bet} {ω : Omg} {sB : S} (cs as vs : List V) (L : List Nat) (sB' : S), Sim β ω ep sB sA → (∀ n i, sB.nx ≤ n → ¬ ep n i) → LkL β sA.H cs as L → cs.all V.pkc = true → L.Nodup →
    (∀ z ∈ L, ω z = some (b, i) ∧ ∀ b2, β b2 ≠ some z) → takeL unp1 cs sB = some (vs, sB') →
    ∃ β' ω', Sim β' ω' ep sB' sA ∧ LkL β' sA.H vs as [] ∧ (∀ b x, β b = some x → β' b = some x) ∧ (∀ z, z ∉ L → ω' z = ω z) ∧ (∀ b2 z, β' b2 = some z → β b2 = some z ∨ z ∈ L) ∧
      sB'.e = sB.e ∧ sB.nx ≤ sB'.nx ∧ ∀ b2, b2 < sB.nx → sB'.H b2 = sB.H b2
  | β, ω, sB, [], as, vs, L, sB', q, _, hl, _, _, _, h => by
    simp only [takeL, Option.some.injEq, Prod.mk.injEq] at h
    obtain ⟨rfl, rfl⟩ := h
    simp only [LkL] at hl
    obtain ⟨rfl, rfl⟩ := hl
    exact ⟨β, ω, q, by simp [LkL], fun _ _ h => h, fun _ _ => rfl, fun _ _ h => .inl h, rfl, Nat.le_refl _, fun _ _ => rfl⟩
  | β, ω, sB, c :: cs, as, vs, L, sB', q, hep2, hl, hp, hn, ho, h => by
    obtain ⟨a, as', L1, L2, rfl, rfl, h1, h2⟩ := LkL_cons_inv hl
    simp only [List.all_cons, Bool.and_eq_true] at hp
    simp only [takeL] at h
    split at h
    case h_2 => cases h
    rename_i v s1 hv
    split at h
    case h_2 => cases h
    rename_i vs' s2 hvs
    obtain ⟨rfl, rfl⟩ := Prod.mk.inj (Option.some.inj h)
    rw [List.nodup_append] at hn
    obtain ⟨hn1, hn2, hn3⟩ := hn
    obtain ⟨β1, ω1, q1, k1, k2, k3, k4, k5, k6, k7⟩ := unp1_sim q hep (fun i => hep2 _ i (Nat.le_refl _)) h1 hp.1 hn1 (fun z hz => ho z (by simp [hz])) hv
    have ho1 : ∀ z ∈ L2, ω1 z = some (b, i) ∧ ∀ b2, β1 b2 ≠ some z := fun z hz => by
      have hz1 : z ∉ L1 := fun hh => hn3 z hh z hz rfl
      refine ⟨(k3 z hz1).trans (ho z (by simp [hz])).1, fun b2 hh => ?_⟩
      rcases k4 b2 z hh with h | h
      · exact (ho z (by simp [hz])).2 b2 h
      · exact hz1 h
    obtain ⟨β2, ω2, q2, m1, m2, m3, m4, m5, m6, m7⟩ := unpL_sim hep cs as' vs' L2 s2 q1 (fun n i hn => hep2 n i (by omega)) (LkL.frame k2 _ _ _ h2 (fun _ _ => rfl)) hp.2 hn2 ho1 hvs
    refine ⟨β2, ω2, q2, ?_, fun b x hx => m2 b x (k2 b x hx), fun z hz => ?_, fun b2 z hz => ?_, m5.trans k5, Nat.le_trans k6 m6, fun b2 hb => (m7 b2 (by omega)).trans (k7 b2 hb)⟩
    · simp only [LkL]; exact ⟨a, as', [], [], rfl, rfl, Lk.nil m2 k1, m1⟩
    · simp only [List.mem_append, not_or] at hz
      exact (m3 z hz.2).trans (k3 z hz.1)
    · rcases m4 b2 z hz with h | h
      · rcases k4 b2 z h with h | h
        · exact .inl h
        · exact .inr (by simp [h])
      · exact .inr (by simp [h])

theorem unp_sim {b i : Nat} {ep : Nat → Nat → Prop} (q : Sim β ω ep sB sA) (hep : ep b i) (hep2 : ∀ n i, sB.nx ≤ n → ¬ ep n i) {p : Option Nat} {y a v : V} {L : List Nat} {sB' : S} (hl : Lk β sA.H y a L) (hp : y.fitsB p = true) (hn : L.Nodup)
    (ho : ∀ z ∈ L, ω z = some (b, i) ∧ ∀ b2, β b2 ≠ some z) (h : unp y sB = some (v, sB')) :
    ∃ β' ω', Sim β' ω' ep sB' sA ∧ Lk β' sA.H v a [] ∧ (∀ b x, β b = some x → β' b = some x) ∧ (∀ z, z ∉ L → ω' z = ω z) ∧ (∀ b2 z, β' b2 = some z → β b2 = some z ∨ z ∈ L) ∧
      sB'.e = sB.e ∧ sB.nx ≤ sB'.nx ∧ ∀ b2, b2 < sB.nx → sB'.H b2 = sB.H b2 := by
  by_cases hst : ∃ cs, y = .st cs
  · obtain ⟨cs, rfl⟩ := hst
    cases p with
    | none => simp [V.fitsB, V.pkc, V.okc, pkd] at hp
    | some n =>
      simp only [V.fitsB, Bool.and_eq_true] at hp
      simp only [unp] at h
      split at h
      case h_2 => cases h
      rename_i vs s1 hvs
      obtain ⟨rfl, rfl⟩ := Prod.mk.inj (Option.some.inj h)
      simp only [Lk] at hl
      obtain ⟨as, rfl, hl⟩ := hl
      obtain ⟨β', ω', k1, k2, k3⟩ := unpL_sim hep cs as vs L s1 q hep2 hl hp.2 hn ho hvs
      exact ⟨β', ω', k1, by simp only [Lk]; exact ⟨as, rfl, k2⟩, k3⟩
  · have hp' : y.pkc = true := by
      cases p with
      | none => exact hp
      | some n => cases y <;> first | exact absurd ⟨_, rfl⟩ hst | simp [V.fitsB] at hp
    have hu : unp y sB = unp1 y sB := by cases y <;> first | rfl | exact absurd ⟨_, rfl⟩ hst
    rw [hu] at h
    exact unp1_sim q hep (fun i => hep2 _ i (Nat.le_refl _)) hl hp' hn ho h


theorem fits_un (q : Option Nat) {v : V} (h : v.fits q = true) : v.fitsB q = true := by
  cases q with
  | none => simp only [V.fits] at h; simp [V.fitsB, V.pkc, h]
  | some n =>
    cases v <;> simp only [V.fits, Bool.false_eq_true] at h
    simp only [Bool.and_eq_true] at h
    simp only [V.fitsB, Bool.and_eq_true]
    refine ⟨h.1, ?_⟩
    rw [List.all_eq_true] at h ⊢
    exact fun x hx => by simp [V.pkc, h.2 x hx]

mutual
theorem Ror.nopk : ∀ (v : V), Ror v → pkd v = false
  | .im _, _ => rfl
  | .e0, _ => rfl
  | .st _, _ => rfl
  | .cl _ _, _ => rfl
  | .sl _, _ => rfl
  | .rp _, _ => rfl
  | .tu _, h => by simp [Ror] at h
  | .ow _ _, h => by simp [Ror] at h
  | .op _, h => by simp [Ror] at h
  | .hs .., h => by simp [Ror] at h
  | .hp .., h => by simp [Ror] at h
  | .hf .., h => by simp [Ror] at h
end

theorem Ror.fits {q : Option Nat} {v : V} (h : Ror v) (hv : v.fitsB q = true) : v.fits q = true := by
  cases q with
  | none =>
    simp only [V.fitsB, V.pkc, Ror.nopk v h, Bool.or_false] at hv
    exact hv
  | some n =>
    cases v <;> simp only [V.fitsB, Bool.false_eq_true] at hv
    simp only [Ror] at h
    simp only [Bool.and_eq_true] at hv
    simp only [V.fits, Bool.and_eq_true]
    refine ⟨hv.1, ?_⟩
    rw [List.all_eq_true] at hv ⊢
    intro x hx
    have := hv.2 x hx
    simp only [V.pkc, Ror.nopk x (RorL_iff.1 h x hx), Bool.or_false] at this
    exact this

theorem LkL_at {H : Nat → Option Blk} : ∀ {cs as : List V} {L : List Nat} {j : Nat} {c : V}, LkL β H cs as L → cs[j]? = some c → ∃ a L1 Lj L2, as[j]? = some a ∧ L = L1 ++ Lj ++ L2 ∧ Lk β H c a Lj ∧
    ∀ (β' : Bet) (H' : Nat → Option Blk) (v : V), (∀ b x, β b = some x → β' b = some x) → (∀ x ∈ L1 ++ L2, H' x = H x) → Lk β' H' v a [] → LkL β' H' (cs.set j v) as (L1 ++ L2)
  | [], as, L, j, c, h, hc => by simp at hc
  | d :: cs, as, L, 0, c, h, hc => by
    obtain ⟨a, as', L1, L2, rfl, rfl, h1, h2⟩ := LkL_cons_inv h
    simp at hc; subst hc
    refine ⟨a, [], L1, L2, rfl, by simp, h1, fun β' H' v hβ hH hv => ?_⟩
    simp only [List.set_cons_zero, List.nil_append, LkL]
    exact ⟨a, as', [], L2, rfl, rfl, hv, LkL.frame hβ _ _ _ h2 (by simpa using hH)⟩
  | d :: cs, as, L, j + 1, c, h, hc => by
    obtain ⟨a, as', L1, L2, rfl, rfl, h1, h2⟩ := LkL_cons_inv h
    obtain ⟨a', K1, Kj, K2, g1, rfl, g3, g4⟩ := LkL_at h2 (by simpa using hc)
    refine ⟨a', L1 ++ K1, Kj, K2, by simpa using g1, by simp, g3, fun β' H' v hβ hH hv => ?_⟩
    simp only [List.set_cons_succ, List.append_assoc, LkL]
    exact ⟨a, as', L1, K1 ++ K2, rfl, rfl, Lk.frame hβ _ _ _ h1 (fun x hx => hH x (by simp [hx])), g4 β' H' v hβ (fun x hx => hH x (by simp only [List.mem_append] at hx ⊢; rcases hx with h | h <;> simp [h])) hv⟩

theorem upd_self {H : Nat → Option Blk} {x : Nat} {A : Blk} (h : H x = some A) : upd H x (some A) = H := by
  funext y; simp only [upd]; split
  · rename_i e; rw [e, h]
  · rfl

theorem unp1_okc {y v : V} {s s1 : S} (hu : unp1 y s = some (v, s1)) (hp : y.pkc = true) : v.okc = true := by
  cases y <;> simp only [unp1, V.pkc, V.okc, pkd, Bool.or_self, Bool.false_eq_true] at hu hp
  all_goals (obtain ⟨rfl, rfl⟩ := Prod.mk.inj (Option.some.inj hu); first | rfl | (simpa [V.okc] using hp))

theorem unpL_okc : ∀ (cs vs : List V) (s s2 : S), takeL unp1 cs s = some (vs, s2) → cs.all V.pkc = true → vs.length = cs.length ∧ vs.all V.okc = true
  | [], vs, s, s2, h, _ => by simp only [takeL, Option.some.injEq, Prod.mk.injEq] at h; obtain ⟨rfl, rfl⟩ := h; exact ⟨rfl, rfl⟩
  | c :: cs, vs, s, s2, h, hp => by
    simp only [takeL] at h
    split at h
    case h_2 => cases h
    rename_i t s1 ht
    split at h
    case h_2 => cases h
    rename_i ts s3 hts
    obtain ⟨rfl, rfl⟩ := Prod.mk.inj (Option.some.inj h)
    simp only [List.all_cons, Bool.and_eq_true] at hp
    obtain ⟨h1, h2⟩ := unpL_okc cs _ _ _ hts hp.2
    refine ⟨by simp [h1], ?_⟩
    simp only [List.all_cons, Bool.and_eq_true]
    exact ⟨unp1_okc ht hp.1, h2⟩

theorem unp_fits {q : Option Nat} {y v : V} {s s1 : S} (hu : unp y s = some (v, s1)) (hfb : y.fitsB q = true) : v.fits q = true := by
  cases q with
  | none =>
    simp only [V.fitsB] at hfb
    have hu' : unp1 y s = some (v, s1) := by
      cases y <;> first | exact hu | simp [V.pkc, V.okc, pkd] at hfb
    exact unp1_okc hu' hfb
  | some n =>
    cases y <;> simp only [V.fitsB, Bool.false_eq_true] at hfb
    rename_i cs
    simp only [unp] at hu
    split at hu
    case h_2 => cases hu
    rename_i vs s2 hvs
    obtain ⟨rfl, rfl⟩ := Prod.mk.inj (Option.some.inj hu)
    simp only [V.fits, Bool.and_eq_true] at hfb ⊢
    obtain ⟨h1, h2⟩ := unpL_okc _ _ _ _ hvs hfb.2
    simp only [beq_iff_eq] at hfb ⊢
    exact ⟨by rw [h1]; exact hfb.1, h2⟩

/-- Loads. -/
theorem ld_sim (qs : Sim β ω no2 sB sA) {ca' : V → List V → S → Option (V × S)} {q : Option Nat} {x : O} (hk : x.kok = true) {v : V} {sB' : S} (h : ldB sB q (Am.val sB.e x) = some (v, sB')) : Out β sA sB' v (opA ca' sA (.ld q x)) := by
  have hun : isUn (Am.val sB.e x) = false := by
    cases hu : isUn (Am.val sB.e x) with
    | false => rfl
    | true => rw [isUn_iff.1 hu] at h; simp [ldB, derefB] at h
  have r := qs.val' hk hun
  unfold ldB at h
  split at h
  case h_2 => cases h
  rename_i y hy
  simp only [opA]
  generalize Am.val sB.e x = p at *
  generalize Am.val sA.e x = pa at *
  cases p <;> simp only [derefB] at hy <;> try (cases hy; done)
  case rp u =>
    obtain rfl := Option.some.inj hy
    obtain ⟨rfl, hr⟩ := Lk_rp r
    have hf : u.fits q = true := by
      split at h
      · assumption
      · split at h
        · rename_i hb; exact hr.fits hb
        · cases h
    rw [if_pos hf] at h
    obtain ⟨rfl, rfl⟩ := Prod.mk.inj (Option.some.inj h)
    simp only [deref]
    rw [if_pos hf]
    exact Out.same qs rfl (.inr (Ror.lk _ hr))
  case hp b i =>
    obtain ⟨xa, hx, rfl⟩ := Lk_hp r
    obtain ⟨B, hB, hy⟩ := Option.bind_eq_some_iff.1 hy
    obtain ⟨A, hA, hAk, hfr, hfrB, hal, he⟩ := qs.get hB hx
    have hlt : i < A.es.length := by rw [hal]; exact (List.getElem?_eq_some_iff.1 hy).1
    have ha := List.getElem?_eq_getElem hlt
    have hel := he i y _ (fun h => h) hy ha
    simp only [deref, hA, Option.bind_some, ha]
    split at h
    · rename_i hf
      obtain ⟨rfl, rfl⟩ := Prod.mk.inj (Option.some.inj h)
      have hl := hel.fits hf
      try simp only
      rw [if_pos (fits_rel hl hf)]
      exact Out.same qs rfl (.inr hl)
    · split at h
      case isFalse => cases h
      rename_i hfb
      split at h
      case h_2 => cases h
      rename_i v' s1 hu
      obtain ⟨rfl, rfl⟩ := Prod.mk.inj (Option.some.inj h)
      rcases hel with rfl | ⟨L, hl, hn, ho⟩
      · cases q <;> cases hfb
      have hbl := qs.lt hx
      obtain ⟨β', ω', k1, k2, k3, k4, k5, k6, k7, k8⟩ := unp_sim (ep := fun b' i' => b' = b ∧ i' = i) (qs.less fun _ _ h => h.elim) ⟨rfl, rfl⟩ (fun n i hn hh => by omega) hl hfb hn ho hu
      have hB1 : s1.H b = some B := (k8 b hbl).trans hB
      have q2 := k1.set (ω' := ω') (ep' := no2) hB1 (k3 _ _ hx) hA (es := B.es.set i v') (as := A.es) (by simp [hal]) (fun j u w _ hu' hw => ?_) (fun y p h _ _ => h) (fun b2 i hb _ hh => hb hh.1)
      · have hA' : ({ sA with H := upd sA.H xa (some { A with es := A.es }) } : S) = sA := by
          have : upd sA.H xa (some { A with es := A.es }) = sA.H := upd_self hA
          rw [this]
        rw [hA'] at q2
        have hfit : A.es[i].fits q = true := by
          have hnp : ∀ {w : V}, Lk β' sA.H w A.es[i] [] → w.fits q = true → A.es[i].fits q = true := fun h1 h2 => fits_rel h1 h2
          exact hnp k2 (unp_fits hu hfb)
        try simp only
        rw [if_pos hfit]
        refine ⟨β', ω', _, _, rfl, ?_, .inr k2, k3⟩
        simp only [putB, hB1]
        exact q2
      · rw [List.getElem?_set] at hu'
        split at hu'
        · rename_i hij
          subst hij
          rw [if_pos (by rw [← hal]; exact hlt)] at hu'
          rw [ha] at hw
          cases hu'; cases hw
          exact Elt.nil k2
        · rename_i hij
          refine (he j u w (fun h => h) hu' hw).frame k3 fun z hz h6 h7 => ⟨rfl, ?_, fun b2 hh => ?_⟩
          · rw [k4 z, h6]
            intro hzL
            have := (ho z hzL).1
            rw [h6] at this; cases this; exact hij rfl
          · rcases k5 b2 z hh with h | h
            · exact h7 b2 h
            · have := (ho z h).1
              rw [h6] at this; cases this; exact hij rfl
  case hf b i j =>
    obtain ⟨xa, hx, rfl⟩ := Lk_hf r
    obtain ⟨B, hB, hy⟩ := Option.bind_eq_some_iff.1 hy
    split at hy
    case h_2 => cases hy
    rename_i cs hcs
    obtain ⟨c, hc, hy⟩ := Option.bind_eq_some_iff.1 hy
    split at hy
    case isFalse => cases hy
    rename_i hpk
    obtain rfl := Option.some.inj hy
    obtain ⟨A, hA, hAk, hfr, hfrB, hal, he⟩ := qs.get hB hx
    have hlt : i < A.es.length := by rw [hal]; exact (List.getElem?_eq_some_iff.1 hcs).1
    have ha := List.getElem?_eq_getElem hlt
    have hel := he i _ _ (fun h => h) hcs ha
    rcases hel with hel | ⟨L, hl, hn, ho⟩
    · cases hel
    simp only [Lk] at hl
    obtain ⟨as, has, hll⟩ := hl
    rw [has] at ha
    obtain ⟨a, L1, Lj, L2, haj, rfl, hlj, hset⟩ := LkL_at hll hc
    simp only [deref, hA, Option.bind_some, ha, haj]
    split at h
    · rename_i hf
      obtain ⟨rfl, rfl⟩ := Prod.mk.inj (Option.some.inj h)
      have hLj := fits_nopk hlj hf
      subst hLj
      have hq : q = none := by
        cases q with
        | none => rfl
        | some n => cases c <;> simp_all [V.fits, V.pkc, V.okc, pkd]
      subst hq
      rw [if_pos (okc_rel hlj hf)]
      simp only
      rw [if_pos (fits_rel hlj hf)]
      exact Out.same qs rfl (.inr hlj)
    · rename_i hnf
      split at h
      case isFalse => cases h
      rename_i hfb
      split at h
      case h_2 => cases h
      rename_i v' s1 hu
      obtain ⟨rfl, rfl⟩ := Prod.mk.inj (Option.some.inj h)
      have hbl := qs.lt hx
      have hnj : Lj.Nodup := by
        rw [List.nodup_append] at hn
        have := hn.1
        rw [List.nodup_append] at this
        exact this.2.1
      obtain ⟨β', ω', k1, k2, k3, k4, k5, k6, k7, k8⟩ := unp_sim (ep := fun b' i' => b' = b ∧ i' = i) (qs.less fun _ _ h => h.elim) ⟨rfl, rfl⟩ (fun n i hn hh => by omega) hlj hfb hnj (fun z hz => ho z (by simp [hz])) hu
      have hB1 : s1.H b = some B := (k8 b hbl).trans hB
      have hq : q = none := by
        cases q with
        | none => rfl
        | some n => cases c <;> simp_all [V.fitsB, V.pkc, V.okc, pkd]
      subst hq
      have hvok : v'.okc = true := by
        exact unp_fits (q := none) hu hpk
      have q2 := k1.set (ω' := ω') (ep' := no2) hB1 (k3 _ _ hx) hA (es := B.es.set i (.st (cs.set j v'))) (as := A.es) (by simp [hal]) (fun m u w _ hu' hw => ?_) (fun y p h _ _ => h) (fun b2 i hb _ hh => hb hh.1)
      · have hA' : ({ sA with H := upd sA.H xa (some { A with es := A.es }) } : S) = sA := by
          have : upd sA.H xa (some { A with es := A.es }) = sA.H := upd_self hA
          rw [this]
        rw [hA'] at q2
        rw [if_pos (okc_rel k2 hvok)]
        simp only
        rw [if_pos (fits_rel (q := none) k2 hvok)]
        refine ⟨β', ω', _, _, rfl, ?_, .inr k2, k3⟩
        simp only [putB, hB1, hcs]
        exact q2
      · rw [List.getElem?_set] at hu'
        split at hu'
        · rename_i hij
          subst hij
          rw [if_pos (by rw [← hal]; exact hlt)] at hu'
          rw [ha] at hw
          cases hu'; cases hw
          have hsub : (L1 ++ L2).Sublist (L1 ++ Lj ++ L2) := by
            rw [List.append_assoc]
            exact List.Sublist.append (List.Sublist.refl _) (List.sublist_append_right _ _)
          have hdis : ∀ z ∈ L1 ++ L2, z ∉ Lj := by
            intro z hz hzj
            rw [List.append_assoc, List.nodup_append] at hn
            obtain ⟨n1, n2, n3⟩ := hn
            rw [List.nodup_append] at n2
            rcases List.mem_append.1 hz with h | h
            · exact n3 z h z (by simp [hzj]) rfl
            · exact n2.2.2 z hzj z h rfl
          refine .inr ⟨L1 ++ L2, by simp only [Lk]; exact ⟨as, rfl, hset β' _ v' k3 (fun _ _ => rfl) k2⟩, hn.sublist hsub, fun z hz => ⟨?_, fun b2 hh => ?_⟩⟩
          · rw [k4 z (hdis z hz)]; exact (ho z (hsub.subset hz)).1
          · rcases k5 b2 z hh with h | h
            · exact (ho z (hsub.subset hz)).2 b2 h
            · exact hdis z hz h
        · rename_i hij
          refine (he m u w (fun h => h) hu' hw).frame k3 fun z hz h6 h7 => ⟨rfl, ?_, fun b2 hh => ?_⟩
          · rw [k4 z, h6]
            intro hzL
            have := (ho z (by simp [hzL])).1
            rw [h6] at this; cases this; exact hij rfl
          · rcases k5 b2 z hh with h | h
            · exact h7 b2 h
            · have := (ho z (by simp [h])).1
              rw [h6] at this; cases this; exact hij rfl

end Go.Am

/- The B-machine, part 7: what is taken over. -/
namespace Go.Am
variable {β : Bet} {ω : Omg} {sB sA : S}

/-- Only new blocks have come. -/
structure Gr (s s1 : S) : Prop where
  e : s1.e = s.e
  fz : s1.fz = s.fz
  nx : s.nx ≤ s1.nx
  old : ∀ x, x < s.nx → s1.H x = s.H x
  bd : Bd s1
  fr : ∀ x A, s.nx ≤ x → s1.H x = some A → A.fr = false
theorem Gr.refl {s : S} (h : Bd s) : Gr s s := ⟨rfl, rfl, Nat.le_refl _, fun _ _ => rfl, h, fun x A hx hA => by rw [h x hx] at hA; cases hA⟩
theorem Gr.trans {s s1 s2 : S} (h : Gr s s1) (k : Gr s1 s2) : Gr s s2 :=
  ⟨k.e.trans h.e, k.fz.trans h.fz, Nat.le_trans h.nx k.nx, fun x hx => (k.old x (Nat.lt_of_lt_of_le hx h.nx)).trans (h.old x hx), k.bd, fun x A hx hA => by
    rcases Nat.lt_or_ge x s1.nx with h' | h'
    · rw [k.old x h'] at hA; exact h.fr x A hx hA
    · exact k.fr x A h' hA⟩
theorem Gr.new {s : S} (h : Bd s) (k : Nat) (es : List V) : Gr s (s.new k es) := by
  refine ⟨rfl, rfl, Nat.le_succ _, fun x hx => ?_, fun x hx => ?_, fun x A hx hA => ?_⟩
  · simp only [S.new]; rw [upd_ne _ _ (by omega)]
  · simp only [S.new] at hx ⊢; rw [upd_ne _ _ (by omega)]; exact h x (by omega)
  · simp only [S.new] at hA
    by_cases e : x = s.nx
    · subst e; rw [upd_same] at hA; obtain rfl := Option.some.inj hA; rfl
    · rw [upd_ne _ _ e, h x hx] at hA; cases hA

/-- Taken over, a pure tree lies packed. -/
theorem takeIn_X : ∀ (d : Nat) (t : V) (s : S), okD d t = true → Bd s → ∃ a s1 L, takeIn d t s = some (a, s1) ∧ Gr s s1 ∧ giveX d s1.H a = some (t, L) ∧ L.Nodup ∧ ∀ y ∈ L, s.nx ≤ y ∧ y < s1.nx
  | 0, _, _, h, _ => by simp [okD] at h
  | d + 1, t, s, h, hb => by
    have lst : ∀ (ts : List V) (s : S), allL (okD d) ts = true → Bd s → ∃ vs s1 L, takeL (takeIn d) ts s = some (vs, s1) ∧ Gr s s1 ∧ overL (giveX d s1.H) vs = some (ts, L) ∧ L.Nodup ∧ ∀ y ∈ L, s.nx ≤ y ∧ y < s1.nx := by
      intro ts
      induction ts with
      | nil => intro s _ hb; exact ⟨[], s, [], rfl, Gr.refl hb, rfl, List.nodup_nil, by simp⟩
      | cons t ts ih =>
        intro s h hb
        simp only [allL, Bool.and_eq_true] at h
        obtain ⟨a, s1, L1, h1, g1, x1, n1, r1⟩ := takeIn_X d t s h.1 hb
        obtain ⟨vs, s2, L2, h2, g2, x2, n2, r2⟩ := ih s1 h.2 g1.bd
        refine ⟨a :: vs, s2, L1 ++ L2, by simp only [takeL, h1, h2], g1.trans g2, ?_, ?_, fun y hy => ?_⟩
        · exact overL_mk (giveX_congr d _ _ _ x1 fun x hx => g2.old x (r1 x hx).2) x2
        · rw [List.nodup_append]
          refine ⟨n1, n2, fun y hy z hz e => ?_⟩
          subst e
          have := (r1 y hy).2; have := (r2 y hz).1; omega
        · rcases List.mem_append.1 hy with hy | hy
          · have := r1 y hy; have := g2.nx; omega
          · have := r2 y hy; have := g1.nx; omega
    cases t <;> simp only [okD, Bool.false_eq_true] at h
    case im x => exact ⟨_, s, [], rfl, Gr.refl hb, rfl, List.nodup_nil, by simp⟩
    case sl x => exact ⟨_, s, [], rfl, Gr.refl hb, rfl, List.nodup_nil, by simp⟩
    case rp x => exact ⟨_, s, [], rfl, Gr.refl hb, rfl, List.nodup_nil, by simp⟩
    case e0 => exact ⟨_, s, [], rfl, Gr.refl hb, rfl, List.nodup_nil, by simp⟩
    case cl f cs =>
      rw [List.isEmpty_iff] at h; subst h
      exact ⟨.cl f [], s, [], rfl, Gr.refl hb, by simp [giveX], List.nodup_nil, by simp⟩
    case st cs =>
      obtain ⟨vs, s1, L, h1, g, x, n, r⟩ := lst cs s h hb
      exact ⟨.st vs, s1, L, by simp only [takeIn, h1], g, by simp only [giveX, x], n, r⟩
    case ow k es =>
      obtain ⟨vs, s1, L, h1, g, x, n, r⟩ := lst es s h hb
      have g2 := Gr.new g.bd k vs
      refine ⟨.hs s1.nx 0 vs.length vs.length, s1.new k vs, s1.nx :: L, by simp only [takeIn, h1], g.trans g2, ?_, ?_, fun y hy => ?_⟩
      · simp only [giveX, S.new, upd_same, and_self, if_true]
        have : overL (giveX d (upd s1.H s1.nx (some { k, es := vs }))) vs = some (es, L) := overL_imp (fun v _ t L' h3 h4 => giveX_congr d v t L' h3 fun y hy => by rw [upd_ne]; have := (r y (h4 y hy)).2; omega) x
        rw [this]
      · rw [List.nodup_cons]; exact ⟨fun hh => by have := (r _ hh).2; omega, n⟩
      · rcases List.mem_cons.1 hy with rfl | hy
        · have := g.nx; simp only [S.new]; omega
        · have := r y hy; simp only [S.new]; omega
    case op v =>
      obtain ⟨a, s1, L, h1, g, x, n, r⟩ := takeIn_X d v s h hb
      have g2 := Gr.new g.bd a.size [a]
      refine ⟨.hp s1.nx 0, s1.new a.size [a], s1.nx :: L, by simp only [takeIn, h1], g.trans g2, ?_, ?_, fun y hy => ?_⟩
      · simp only [giveX, S.new, upd_same, if_true]
        rw [giveX_congr d a v L x fun y hy => by rw [upd_ne]; have := (r y hy).2; omega]
        simp only [giveX_size x, if_true]
      · rw [List.nodup_cons]; exact ⟨fun hh => by have := (r _ hh).2; omega, n⟩
      · rcases List.mem_cons.1 hy with rfl | hy
        · have := g.nx; simp only [S.new]; omega
        · have := r y hy; simp only [S.new]; omega

theorem takeInL_X {d : Nat} : ∀ (ts : List V) (s : S), allL (okD d) ts = true → Bd s → ∃ vs s1 L, takeL (takeIn d) ts s = some (vs, s1) ∧ Gr s s1 ∧ overL (giveX d s1.H) vs = some (ts, L) ∧ L.Nodup ∧ ∀ y ∈ L, s.nx ≤ y ∧ y < s1.nx
  | [], s, _, hb => ⟨[], s, [], rfl, Gr.refl hb, rfl, List.nodup_nil, by simp⟩
  | t :: ts, s, h, hb => by
    simp only [allL, Bool.and_eq_true] at h
    obtain ⟨a, s1, L1, h1, g1, x1, n1, r1⟩ := takeIn_X d t s h.1 hb
    obtain ⟨vs, s2, L2, h2, g2, x2, n2, r2⟩ := takeInL_X ts s1 h.2 g1.bd
    refine ⟨a :: vs, s2, L1 ++ L2, by simp only [takeL, h1, h2], g1.trans g2, ?_, ?_, fun y hy => ?_⟩
    · exact overL_mk (giveX_congr d _ _ _ x1 fun x hx => g2.old x (r1 x hx).2) x2
    · rw [List.nodup_append]
      refine ⟨n1, n2, fun y hy z hz e => ?_⟩
      subst e
      have := (r1 y hy).2; have := (r2 y hz).1; omega
    · rcases List.mem_append.1 hy with hy | hy
      · have := r1 y hy; have := g2.nx; omega
      · have := r2 y hy; have := g1.nx; omega

/-- On A's side new blocks come. -/
theorem Sim.grow {ep : Nat → Nat → Prop} {s1 : S} (q : Sim β ω ep sB sA) (g : Gr sA s1) : Sim β ω ep sB s1 := by
  refine ⟨q.fzB, g.fz.trans q.fzA, fun x A hA => ?_, q.inj, q.dom, fun b x hx => Nat.lt_of_lt_of_le (q.rng b x hx) g.nx, g.bd, q.bdB, fun t => ?_, fun b B hB => ?_⟩
  · rcases Nat.lt_or_ge x sA.nx with h | h
    · rw [g.old x h] at hA; exact q.nofr x A hA
    · exact g.fr x A h hA
  · rw [g.e]
    rcases q.env t with h | h
    · exact .inl h
    · exact .inr (Lk.nil (fun _ _ h => h) h)
  · obtain ⟨h0, x, A, h1, h2, h3, h4, h5⟩ := q.blk b B hB
    refine ⟨h0, x, A, h1, by rw [g.old x (q.rng b x h1)]; exact h2, h3, h4, fun i v a hi hv ha => ?_⟩
    exact (h5 i v a hi hv ha).frame (fun _ _ h => h) fun y hy h6 h7 => ⟨g.old y (q.there hy), h6, h7⟩

/-- Elements that have just been taken over. -/
theorem elts_new {H : Nat → Option Blk} {d b : Nat} {es vs : List V} {L : List Nat} (h : overL (giveX d H) vs = some (es, L)) (hn : L.Nodup) (hp : PurL es) (hβ : ∀ y ∈ L, ∀ b2, β b2 ≠ some y) {ω' : Omg}
    (hω : ∀ (Ls : List (List Nat)), Ls.flatten = L → ∀ y ∈ L, ω' y = some (b, ownr Ls y)) : ∀ i v a, es[i]? = some v → vs[i]? = some a → Elt β ω' H b i v a := by
  intro i v a hv ha
  obtain ⟨Ls, h1, h2, h3, h4⟩ := overL_split h
  obtain ⟨l, hl1, hl2⟩ := h4 i a v ha hv
  have hlL : ∀ z ∈ l, z ∈ L := fun z hz => by rw [← h1]; exact List.mem_flatten.2 ⟨l, List.mem_of_getElem? hl1, hz⟩
  have hsub : l.Sublist L := by rw [← h1]; exact List.sublist_flatten_of_mem (List.mem_of_getElem? hl1)
  refine .inr ⟨l, Lk_of_giveX d a v l hl2 (PurL_iff.1 hp v (List.mem_of_getElem? hv)), hn.sublist hsub, fun y hy => ⟨?_, hβ y (hlL y hy)⟩⟩
  rw [hω Ls h1 y (hlL y hy), ownr_spec (by rw [h1]; exact hn) hl1 hy]

theorem split_ex {f : V → Option (V × List Nat)} {es0 es : List V} {L : List Nat} (h : overL f es0 = some (es, L)) : ∃ Ls : List (List Nat), Ls.flatten = L ∧ Ls.length = es.length ∧ es0.length = es.length ∧ ∀ (j : Nat) (a v : V), es0[j]? = some a → es[j]? = some v → ∃ l, Ls[j]? = some l ∧ f a = some (v, l) := overL_split h

/-- What the callee hands back is taken over. -/
theorem takeB_sim : ∀ (d : Nat) {β : Bet} {ω : Omg} {sB sA : S} (t v : V) (sB' : S), Sim β ω no2 sB sA → Pur t → takeB d t sB = some (v, sB') →
    ∃ β' ω' a sA', takeIn d t sA = some (a, sA') ∧ Sim β' ω' no2 sB' sA' ∧ Lk β' sA'.H v a [] ∧ ∀ b x, β b = some x → β' b = some x
  | 0, _, _, _, _, _, _, _, _, _, h => by simp [takeB] at h
  | d + 1, β, ω, sB, sA, t, v, sB', q, hp, h => by
    have lst : ∀ (ts : List V) {β : Bet} {ω : Omg} {sB sA : S} (vs : List V) (sB' : S), Sim β ω no2 sB sA → PurL ts → takeL (takeB d) ts sB = some (vs, sB') →
        ∃ β' ω' as sA', takeL (takeIn d) ts sA = some (as, sA') ∧ Sim β' ω' no2 sB' sA' ∧ LkL β' sA'.H vs as [] ∧ ∀ b x, β b = some x → β' b = some x := by
      intro ts
      induction ts with
      | nil =>
        intro β ω sB sA vs sB' q _ h
        simp only [takeL, Option.some.injEq, Prod.mk.injEq] at h
        obtain ⟨rfl, rfl⟩ := h
        exact ⟨β, ω, [], sA, rfl, q, by simp [LkL], fun _ _ h => h⟩
      | cons t ts ih =>
        intro β ω sB sA vs sB' q hp h
        simp only [PurL] at hp
        simp only [takeL] at h
        split at h
        case h_2 => cases h
        rename_i v s1 hv
        split at h
        case h_2 => cases h
        rename_i vs' s2 hvs
        obtain ⟨rfl, rfl⟩ := Prod.mk.inj (Option.some.inj h)
        obtain ⟨β1, ω1, a, sA1, h1, q1, l1, m1⟩ := takeB_sim d t v s1 q hp.1 hv
        obtain ⟨β2, ω2, as, sA2, h2, q2, l2, m2⟩ := ih vs' s2 q1 hp.2 hvs
        refine ⟨β2, ω2, a :: as, sA2, by simp only [takeL, h1, h2], q2, ?_, fun b x hx => m2 b x (m1 b x hx)⟩
        simp only [LkL]; exact ⟨a, as, [], [], rfl, rfl, Lk.nil m2 l1, l2⟩
    cases t <;> simp only [takeB] at h
    case im x => obtain ⟨rfl, rfl⟩ := Prod.mk.inj (Option.some.inj h); exact ⟨β, ω, _, sA, rfl, q, by simp [Lk], fun _ _ h => h⟩
    case e0 => obtain ⟨rfl, rfl⟩ := Prod.mk.inj (Option.some.inj h); exact ⟨β, ω, _, sA, rfl, q, by simp [Lk], fun _ _ h => h⟩
    case sl es => obtain ⟨rfl, rfl⟩ := Prod.mk.inj (Option.some.inj h); simp only [Pur] at hp; exact ⟨β, ω, _, sA, rfl, q, by simp [Lk, hp], fun _ _ h => h⟩
    case rp u => obtain ⟨rfl, rfl⟩ := Prod.mk.inj (Option.some.inj h); simp only [Pur] at hp; exact ⟨β, ω, _, sA, rfl, q, by simp [Lk, hp], fun _ _ h => h⟩
    case st cs =>
      split at h
      case h_2 => cases h
      rename_i vs s1 hvs
      obtain ⟨rfl, rfl⟩ := Prod.mk.inj (Option.some.inj h)
      simp only [Pur] at hp
      obtain ⟨β', ω', as, sA', h1, h2, h3, h4⟩ := lst cs vs s1 q hp hvs
      exact ⟨β', ω', .st as, sA', by simp only [takeIn, h1], h2, by simp only [Lk]; exact ⟨as, rfl, h3⟩, h4⟩
    case tu cs =>
      split at h
      case h_2 => cases h
      rename_i vs s1 hvs
      obtain ⟨rfl, rfl⟩ := Prod.mk.inj (Option.some.inj h)
      simp only [Pur] at hp
      obtain ⟨β', ω', as, sA', h1, h2, h3, h4⟩ := lst cs vs s1 q hp hvs
      exact ⟨β', ω', .tu as, sA', by simp only [takeIn, h1], h2, by simp only [Lk]; exact ⟨as, rfl, h3⟩, h4⟩
    case cl f cs =>
      split at h
      case h_2 => cases h
      rename_i vs s1 hvs
      obtain ⟨rfl, rfl⟩ := Prod.mk.inj (Option.some.inj h)
      simp only [Pur] at hp
      obtain ⟨β', ω', as, sA', h1, h2, h3, h4⟩ := lst cs vs s1 q hp hvs
      exact ⟨β', ω', .cl f as, sA', by simp only [takeIn, h1], h2, by simp only [Lk, and_true]; exact ⟨as, rfl, h3⟩, h4⟩
    case ow k es =>
      split at h
      case isFalse => cases h
      rename_i hok
      obtain ⟨rfl, rfl⟩ := Prod.mk.inj (Option.some.inj h)
      simp only [Pur] at hp
      simp only [okD] at hok
      obtain ⟨vs, s1, L, h1, g, x, n, r⟩ := takeInL_X es sA hok q.bdA
      obtain ⟨Ls, e1, e2, e3, e4⟩ := split_ex x
      have hβ : ∀ y ∈ L, ∀ b2, β b2 ≠ some y := fun y hy b2 hh => by have := q.rng b2 y hh; have := (r y hy).1; omega
      have q1 := ((q.omega (ω' := fun y => if sA.nx ≤ y then none else ω y) (fun y hy => if_neg (by have := q.there hy; omega))).grow g)
      have q2 := q1.new (ω' := fun y => if y ∈ L then some (sB.nx, ownr Ls y) else if sA.nx ≤ y then none else ω y) (k := k) (es := es) (as := vs) e3 (fun i v a hv ha => ?_) (fun y p hy _ _ _ _ => ?_)
      · refine ⟨_, _, .hs s1.nx 0 vs.length vs.length, _, by simp only [takeIn, h1], q2, ?_, upd_beta (q.dom _ (Nat.le_refl _))⟩
        simp only [Lk, and_true]; exact ⟨_, upd_same _ _ _, by rw [e3]⟩
      · obtain ⟨l, hl1, hl2⟩ := e4 i a v ha hv
        have hlL : ∀ z ∈ l, z ∈ L := fun z hz => by rw [← e1]; exact List.mem_flatten.2 ⟨l, List.mem_of_getElem? hl1, hz⟩
        have hsub : l.Sublist L := by rw [← e1]; exact List.sublist_flatten_of_mem (List.mem_of_getElem? hl1)
        refine .inr ⟨l, Lk_of_giveX d a v l hl2 (PurL_iff.1 hp v (List.mem_of_getElem? hv)), n.sublist hsub, fun y hy => ⟨?_, hβ y (hlL y hy)⟩⟩
        show (if y ∈ L then some (sB.nx, ownr Ls y) else if sA.nx ≤ y then none else ω y) = _
        rw [if_pos (hlL y hy), ownr_spec (by rw [e1]; exact n) hl1 hy]
      · rw [if_neg]
        · exact hy
        · intro hyL
          have := (r y hyL).1
          have hy' : (if sA.nx ≤ y then none else ω y) = some p := hy
          rw [if_pos this] at hy'; cases hy'
    case op u =>
      split at h
      case isFalse => cases h
      rename_i hok
      obtain ⟨rfl, rfl⟩ := Prod.mk.inj (Option.some.inj h)
      simp only [Pur] at hp
      simp only [okD] at hok
      obtain ⟨a, s1, L, h1, g, x, n, r⟩ := takeIn_X d u sA hok q.bdA
      have hβ : ∀ y ∈ L, ∀ b2, β b2 ≠ some y := fun y hy b2 hh => by have := q.rng b2 y hh; have := (r y hy).1; omega
      have q1 := ((q.omega (ω' := fun y => if sA.nx ≤ y then none else ω y) (fun y hy => if_neg (by have := q.there hy; omega))).grow g)
      have hsz : u.size = a.size := giveX_size x
      have q2 := q1.new (ω' := fun y => if y ∈ L then some (sB.nx, 0) else if sA.nx ≤ y then none else ω y) (k := u.size) (es := [u]) (as := [a]) rfl (fun i v w hv hw => ?_) (fun y p hy _ _ _ _ => ?_)
      · refine ⟨_, _, .hp s1.nx 0, s1.new u.size [a], by simp only [takeIn, h1]; rw [hsz], q2, ?_, upd_beta (q.dom _ (Nat.le_refl _))⟩
        simp only [Lk, and_true]; exact ⟨_, upd_same _ _ _, rfl⟩
      · cases i with
        | succ i => simp at hv
        | zero =>
          simp at hv hw
          subst hv hw
          refine .inr ⟨L, Lk_of_giveX d _ _ L x hp, n, fun y hy => ⟨?_, hβ y hy⟩⟩
          exact if_pos hy
      · rw [if_neg]
        · exact hy
        · intro hyL
          have := (r y hyL).1
          have hy' : (if sA.nx ≤ y then none else ω y) = some p := hy
          rw [if_pos this] at hy'; cases hy'
    all_goals cases h

end Go.Am

/- The B-machine, part 8: what is handed over, what is read. -/
namespace Go.Am
variable {β : Bet} {ω : Omg} {sB sA : S}

theorem giveX_give {H : Nat → Option Blk} : ∀ (d d0 : Nat) (a t : V) (L : List Nat), giveX d0 H a = some (t, L) → okD d t = true → give d H a = some (t, L)
  | 0, _, _, _, _, _, h => by simp [okD] at h
  | _ + 1, 0, _, _, _, h, _ => by simp [giveX] at h
  | d + 1, d0 + 1, a, t, L, h, hk => by
    have lst : ∀ (cs ts : List V) (L : List Nat), overL (giveX d0 H) cs = some (ts, L) → allL (okD d) ts = true → overL (give d H) cs = some (ts, L) := by
      intro cs
      induction cs with
      | nil => intro ts L h _; exact h
      | cons c cs ih =>
        intro ts L h hk
        obtain ⟨t, ts', i, j, h2, h3, rfl, rfl⟩ := overL_cons h
        simp only [allL, Bool.and_eq_true] at hk
        exact overL_mk (giveX_give d d0 c t i h2 hk.1) (ih _ _ h3 hk.2)
    cases a <;> simp only [giveX] at h <;> try (cases h; done)
    case im => simpa only [give] using h
    case sl => simpa only [give] using h
    case rp => simpa only [give] using h
    case e0 => simpa only [give] using h
    case st cs =>
      split at h
      · rename_i h1
        obtain ⟨rfl, rfl⟩ := Prod.mk.inj (Option.some.inj h)
        simp only [okD] at hk
        simp only [give, lst _ _ _ h1 hk]
      · cases h
    case cl f cs =>
      split at h
      · rename_i h1
        obtain ⟨rfl, rfl⟩ := Prod.mk.inj (Option.some.inj h)
        subst h1
        simp [give, overL]
      · cases h
    case hs b off n c =>
      split at h
      · rename_i B hB
        split at h
        · rename_i hc
          obtain ⟨rfl, rfl, rfl⟩ := hc
          split at h
          · rename_i h1
            obtain ⟨rfl, rfl⟩ := Prod.mk.inj (Option.some.inj h)
            simp only [okD] at hk
            simp only [give, hB]
            rw [if_pos (by omega)]
            simp only [List.drop_zero, List.take_length, lst _ _ _ h1 hk]
          · cases h
        · cases h
      · cases h
    case hp b i =>
      split at h
      · rename_i B hB
        split at h
        · rename_i hc
          subst hc
          split at h
          · rename_i e he
            split at h
            · rename_i t' j h1
              split at h
              · obtain ⟨rfl, rfl⟩ := Prod.mk.inj (Option.some.inj h)
                simp only [okD] at hk
                simp only [give, hB, he, List.length_singleton, and_self, if_true]
                simp only [overL, giveX_give d d0 _ _ _ h1 hk, List.append_nil]
              · cases h
            · cases h
          · cases h
        · cases h
      · cases h

theorem roT_list {d : Nat} : ∀ {es rs : List V} {L : List Nat}, overL (fun c => (roT d c).map fun t => (t, ([] : List Nat))) es = some (rs, L) → L = [] ∧ rs.length = es.length ∧ ∀ (i : Nat) (e r : V), es[i]? = some e → rs[i]? = some r → roT d e = some r
  | [], rs, L, h => by simp only [overL, Option.some.injEq, Prod.mk.injEq] at h; obtain ⟨rfl, rfl⟩ := h; exact ⟨rfl, rfl, fun i e r h => by simp at h⟩
  | e :: es, rs, L, h => by
    obtain ⟨t, ts', i, j, h2, h3, rfl, rfl⟩ := overL_cons h
    obtain ⟨x, hx, hh⟩ := Option.map_eq_some_iff.1 h2
    obtain ⟨rfl, rfl⟩ := Prod.mk.inj hh
    obtain ⟨rfl, h4, h5⟩ := roT_list h3
    refine ⟨rfl, by simp [h4], fun k e' r hk hk' => ?_⟩
    cases k with
    | zero => simp at hk hk'; subst hk hk'; exact hx
    | succ k => exact h5 k e' r (by simpa using hk) (by simpa using hk')

theorem giveX_snap {H : Nat → Option Blk} : ∀ (d d0 : Nat) (a t r : V) (L : List Nat), giveX d0 H a = some (t, L) → roT d t = some r → ∃ xs, snap d H a = some (r, xs) ∧ ∀ x ∈ xs, x ∈ L
  | 0, _, _, _, _, _, _, h => by simp [roT] at h
  | _ + 1, 0, _, _, _, _, h, _ => by simp [giveX] at h
  | d + 1, d0 + 1, a, t, r, L, h, hk => by
    have lst : ∀ (cs ts rs : List V) (L L' : List Nat), overL (giveX d0 H) cs = some (ts, L) → overL (fun c => (roT d c).map fun t => (t, ([] : List Nat))) ts = some (rs, L') → ∃ xs, overL (snap d H) cs = some (rs, xs) ∧ ∀ x ∈ xs, x ∈ L := by
      intro cs
      induction cs with
      | nil => intro ts rs L L' h hr; simp only [overL, Option.some.injEq, Prod.mk.injEq] at h; obtain ⟨rfl, rfl⟩ := h; simp only [overL, Option.some.injEq, Prod.mk.injEq] at hr; obtain ⟨rfl, rfl⟩ := hr; exact ⟨[], rfl, by simp⟩
      | cons c cs ih =>
        intro ts rs L L' h hr
        obtain ⟨t, ts', i, j, h2, h3, rfl, rfl⟩ := overL_cons h
        obtain ⟨r, rs', i', j', h5, h6, rfl, rfl⟩ := overL_cons hr
        obtain ⟨x, hx, hh⟩ := Option.map_eq_some_iff.1 h5
        obtain ⟨rfl, rfl⟩ := Prod.mk.inj hh
        obtain ⟨xs1, g1, g2⟩ := giveX_snap d d0 c t x i h2 hx
        obtain ⟨xs2, g3, g4⟩ := ih _ _ _ _ h3 h6
        exact ⟨xs1 ++ xs2, overL_mk g1 g3, fun y hy => by rcases List.mem_append.1 hy with h | h; exact List.mem_append_left _ (g2 y h); exact List.mem_append_right _ (g4 y h)⟩
    cases a <;> simp only [giveX] at h <;> try (cases h; done)
    case im => obtain ⟨rfl, rfl⟩ := Prod.mk.inj (Option.some.inj h); simp only [roT, Option.some.injEq] at hk; subst hk; exact ⟨[], rfl, by simp⟩
    case sl => obtain ⟨rfl, rfl⟩ := Prod.mk.inj (Option.some.inj h); simp only [roT, Option.some.injEq] at hk; subst hk; exact ⟨[], rfl, by simp⟩
    case rp => obtain ⟨rfl, rfl⟩ := Prod.mk.inj (Option.some.inj h); simp only [roT, Option.some.injEq] at hk; subst hk; exact ⟨[], rfl, by simp⟩
    case e0 => obtain ⟨rfl, rfl⟩ := Prod.mk.inj (Option.some.inj h); simp only [roT, Option.some.injEq] at hk; subst hk; exact ⟨[], rfl, by simp⟩
    case st cs =>
      split at h
      · rename_i h1
        obtain ⟨rfl, rfl⟩ := Prod.mk.inj (Option.some.inj h)
        simp only [roT] at hk
        obtain ⟨rs, hr, rfl⟩ := Option.map_eq_some_iff.1 hk
        split at hr
        · rename_i rs' L' hrs
          obtain rfl := Option.some.inj hr
          obtain ⟨xs, g1, g2⟩ := lst _ _ _ _ _ h1 hrs
          exact ⟨xs, by simp only [snap, g1], g2⟩
        · cases hr
      · cases h
    case cl f cs =>
      split at h
      · rename_i h1
        obtain ⟨rfl, rfl⟩ := Prod.mk.inj (Option.some.inj h)
        subst h1
        simp only [roT, overL, Option.map_some, Option.some.injEq] at hk
        subst hk
        exact ⟨[], by simp [snap, overL], by simp⟩
      · cases h
    case hs b off n c =>
      split at h
      · rename_i B hB
        split at h
        · rename_i hc
          obtain ⟨rfl, rfl, rfl⟩ := hc
          split at h
          · rename_i h1
            obtain ⟨rfl, rfl⟩ := Prod.mk.inj (Option.some.inj h)
            simp only [roT] at hk
            obtain ⟨rs, hr, rfl⟩ := Option.map_eq_some_iff.1 hk
            split at hr
            · rename_i rs' L' hrs
              obtain rfl := Option.some.inj hr
              obtain ⟨xs, g1, g2⟩ := lst _ _ _ _ _ h1 hrs
              simp only [snap]
              split
              · rename_i hn
                have he : B.es = [] := List.length_eq_zero_iff.1 hn
                rw [he] at h1
                simp only [overL, Option.some.injEq, Prod.mk.injEq] at h1
                obtain ⟨rfl, rfl⟩ := h1
                simp only [overL, Option.some.injEq, Prod.mk.injEq] at hrs
                obtain ⟨rfl, rfl⟩ := hrs
                exact ⟨[], rfl, by simp⟩
              · simp only [hB]
                rw [if_pos (by omega)]
                simp only [List.drop_zero, List.take_length, g1]
                exact ⟨b :: xs, rfl, fun y hy => by rcases List.mem_cons.1 hy with rfl | h; simp; exact List.mem_cons_of_mem _ (g2 y h)⟩
            · cases hr
          · cases h
        · cases h
      · cases h
    case hp b i =>
      split at h
      · rename_i B hB
        split at h
        · rename_i hc
          subst hc
          split at h
          · rename_i e he
            split at h
            · rename_i t' j h1
              split at h
              · obtain ⟨rfl, rfl⟩ := Prod.mk.inj (Option.some.inj h)
                simp only [roT] at hk
                obtain ⟨x, hx, rfl⟩ := Option.map_eq_some_iff.1 hk
                obtain ⟨xs, g1, g2⟩ := giveX_snap d d0 e t' x j h1 hx
                simp only [snap, hB, he, List.getElem?_cons_zero, g1]
                exact ⟨b :: xs, rfl, fun y hy => by rcases List.mem_cons.1 hy with rfl | h; simp; exact List.mem_cons_of_mem _ (g2 y h)⟩
              · cases h
            · cases h
          · cases h
        · cases h
      · cases h

theorem roT_ror : ∀ (d : Nat) (t r : V), roT d t = some r → Pur t → Ror r
  | 0, _, _, h, _ => by simp [roT] at h
  | d + 1, t, r, h, hp => by
    have lst : ∀ (ts rs : List V) (L' : List Nat), overL (fun c => (roT d c).map fun t => (t, ([] : List Nat))) ts = some (rs, L') → PurL ts → RorL rs := by
      intro ts rs L' h hp
      obtain ⟨_, h2, h3⟩ := roT_list h
      rw [RorL_iff]
      intro v hv
      obtain ⟨i, hi⟩ := List.mem_iff_getElem?.1 hv
      have hlt : i < ts.length := by rw [← h2]; exact (List.getElem?_eq_some_iff.1 hi).1
      exact roT_ror d _ _ (h3 i ts[i] v (List.getElem?_eq_getElem hlt) hi) (PurL_iff.1 hp _ (List.getElem_mem hlt))
    cases t <;> simp only [roT] at h <;> try (cases h; done)
    case im => obtain rfl := Option.some.inj h; trivial
    case e0 => obtain rfl := Option.some.inj h; simp [Ror, RorL]
    case sl => obtain rfl := Option.some.inj h; simpa only [Ror, Pur] using hp
    case rp => obtain rfl := Option.some.inj h; simpa only [Ror, Pur] using hp
    case op v =>
      obtain ⟨x, hx, rfl⟩ := Option.map_eq_some_iff.1 h
      simp only [Pur] at hp
      simp only [Ror]; exact roT_ror d v x hx hp
    all_goals
      obtain ⟨rs, hr, rfl⟩ := Option.map_eq_some_iff.1 h
      split at hr
      · rename_i rs' L' hrs
        obtain rfl := Option.some.inj hr
        simp only [Pur] at hp
        simp only [Ror]; exact lst _ _ _ hrs hp
      · cases hr

/-- The block of B that a block of A belongs to is one of these. -/
def Rtd (β : Bet) (ω : Omg) (os : List Nat) (x : Nat) : Prop := ∃ b ∈ os, β b = some x ∨ ((∀ b2, β b2 ≠ some x) ∧ ∃ i, ω x = some (b, i))
theorem Rtd.mono {os os' : List Nat} {x : Nat} (h : Rtd β ω os x) (hs : ∀ b ∈ os, b ∈ os') : Rtd β ω os' x := let ⟨b, hb, h⟩ := h; ⟨b, hs b hb, h⟩

/-- One block of A belongs to one block of B. -/
theorem Rtd.uniq {ep : Nat → Nat → Prop} (q : Sim β ω ep sB sA) {os os' : List Nat} {x : Nat} (h : Rtd β ω os x) (h' : Rtd β ω os' x) : ∃ b, b ∈ os ∧ b ∈ os' := by
  obtain ⟨b, hb, h⟩ := h
  obtain ⟨b', hb', h'⟩ := h'
  refine ⟨b, hb, ?_⟩
  rcases h with h | ⟨h1, i, h2⟩ <;> rcases h' with h' | ⟨h1', i', h2'⟩
  · rw [q.inj _ _ _ h h']; exact hb'
  · exact absurd h (h1' b)
  · exact absurd h' (h1 b')
  · rw [h2] at h2'; cases h2'; exact hb'

theorem overL_ne {f : V → Option (V × List Nat)} (hf : f V.dd = none) : ∀ {vs ts : List V} {L : List Nat}, overL f vs = some (ts, L) → ∀ v ∈ vs, v ≠ V.dd
  | [], _, _, _ => by simp
  | v :: vs, ts, L, h => by
    obtain ⟨t, ts', L1, L2, rfl, rfl, h1, h2⟩ := overL_cons' h
    intro u hu
    rcases List.mem_cons.1 hu with rfl | hu
    · rintro rfl; rw [hf] at h1; cases h1
    · exact overL_ne hf h2 u hu
theorem giveB_dd {d : Nat} {H : Nat → Option Blk} : giveB d H V.dd = none := by cases d <;> rfl
theorem snapB_dd {d : Nat} {H : Nat → Option Blk} : snapB d H V.dd = none := by cases d <;> rfl
theorem packB_dd {d : Nat} {H : Nat → Option Blk} : packB d H V.dd = none := by cases d <;> rfl
theorem one_ne {f : V → Option (V × List Nat)} (hf : f V.dd = none) {B : Blk} {e : V} {r : V × List Nat} (he : B.es = [e]) (h : f e = some r) : ∀ v ∈ (B.es.drop 0).take 1, v ≠ V.dd := by
  rw [he]
  intro v hv
  obtain rfl : v = e := by simpa using hv
  rintro rfl; rw [hf] at h; cases h

/-- The elements of a block, their packed memory together. -/
theorem seg_lk {b : Nat} {H : Nat → Option Blk} : ∀ (es as : List V) (i0 : Nat), as.length = es.length → (∀ v ∈ es, v ≠ V.dd) → (∀ i v a, es[i]? = some v → as[i]? = some a → Elt β ω H b (i0 + i) v a) →
    ∃ L, LkL β H es as L ∧ L.Nodup ∧ ∀ y ∈ L, (∃ i, i0 ≤ i ∧ ω y = some (b, i)) ∧ ∀ b2, β b2 ≠ some y
  | [], as, i0, hl, _, _ => ⟨[], by simp only [LkL]; exact ⟨List.length_eq_zero_iff.1 hl, trivial⟩, List.nodup_nil, by simp⟩
  | v :: es, [], i0, hl, _, _ => by simp at hl
  | v :: es, a :: as, i0, hl, hd, he => by
    obtain ⟨L1, h1, n1, o1⟩ := (he 0 v a rfl rfl).resolve_left (hd v (by simp))
    obtain ⟨L2, h2, n2, o2⟩ := seg_lk es as (i0 + 1) (by simpa using hl) (fun v hv => hd v (by simp [hv])) (fun i v' a' hv ha => by
      have := he (i + 1) v' a' (by simpa using hv) (by simpa using ha)
      rwa [show i0 + (i + 1) = i0 + 1 + i by omega] at this)
    refine ⟨L1 ++ L2, by simp only [LkL]; exact ⟨a, as, L1, L2, rfl, rfl, h1, h2⟩, ?_, fun y hy => ?_⟩
    · rw [List.nodup_append]
      refine ⟨n1, n2, fun y hy z hz e => ?_⟩
      subst e
      obtain ⟨i, hi, h3⟩ := (o2 y hz).1
      have h4 := (o1 y hy).1
      rw [h3] at h4; cases h4; omega
    · rcases List.mem_append.1 hy with hy | hy
      · exact ⟨⟨_, by omega, (o1 y hy).1⟩, (o1 y hy).2⟩
      · obtain ⟨⟨i, hi, h3⟩, h4⟩ := o2 y hy
        exact ⟨⟨i, by omega, h3⟩, h4⟩

theorem seg_of {ep : Nat → Nat → Prop} (q : Sim β ω ep sB sA) (hep : ∀ b i, ¬ ep b i) {b x : Nat} {B : Blk} (hB : sB.H b = some B) (hx : β b = some x) (off n : Nat) (hd : ∀ v ∈ (B.es.drop off).take n, v ≠ V.dd) : ∃ A L, sA.H x = some A ∧ A.k = B.k ∧ A.es.length = B.es.length ∧ A.fr = false ∧
    LkL β sA.H ((B.es.drop off).take n) ((A.es.drop off).take n) L ∧ L.Nodup ∧ (∀ y ∈ L, Rtd β ω [b] y ∧ ∀ b2, β b2 ≠ some y) := by
  obtain ⟨A, hA, hk, hfr, _, hal, he⟩ := q.get hB hx
  obtain ⟨L, h1, h2, h3⟩ := seg_lk (β := β) (ω := ω) (b := b) (H := sA.H) ((B.es.drop off).take n) ((A.es.drop off).take n) off (by simp [hal]) hd (fun i v a hv ha => by
    rw [List.getElem?_take] at hv ha
    split at hv
    · rename_i hi
      rw [if_pos hi] at ha
      rw [List.getElem?_drop] at hv ha
      exact he _ v a (hep _ _) hv ha
    · cases hv)
  refine ⟨A, L, hA, hk, hal, hfr, h1, h2, fun y hy => ⟨?_, (h3 y hy).2⟩⟩
  obtain ⟨⟨i, _, h4⟩, h5⟩ := h3 y hy
  exact ⟨b, by simp, .inr ⟨h5, i, h4⟩⟩

/-- Handed over in B, handed over in A. -/
theorem giveB_sim (q : Sim β ω no2 sB sA) : ∀ (d : Nat) (v t a : V) (os L : List Nat), giveB d sB.H v = some (t, os) → Lk β sA.H v a L →
    ∃ xs, give d sA.H a = some (t, xs) ∧ (∀ x ∈ xs, x ∈ L ∨ Rtd β ω os x) ∧ (os.Nodup → L.Nodup → (∀ y ∈ L, ¬ Rtd β ω os y) → xs.Nodup) ∧ Pur t
  | 0, _, _, _, _, _, h, _ => by simp [giveB] at h
  | d + 1, v, t, a, os, L, h, hl => by
    have lst : ∀ (vs ts as : List V) (os L : List Nat), overL (giveB d sB.H) vs = some (ts, os) → LkL β sA.H vs as L →
        ∃ xs, overL (give d sA.H) as = some (ts, xs) ∧ (∀ x ∈ xs, x ∈ L ∨ Rtd β ω os x) ∧ (os.Nodup → L.Nodup → (∀ y ∈ L, ¬ Rtd β ω os y) → xs.Nodup) ∧ PurL ts := by
      intro vs
      induction vs with
      | nil =>
        intro ts as os L h hl
        simp only [overL, Option.some.injEq, Prod.mk.injEq] at h
        obtain ⟨rfl, rfl⟩ := h
        simp only [LkL] at hl
        obtain ⟨rfl, rfl⟩ := hl
        exact ⟨[], rfl, by simp, fun _ _ _ => List.nodup_nil, trivial⟩
      | cons v vs ih =>
        intro ts as os L h hl
        obtain ⟨t, ts', o1, o2, h2, h3, rfl, rfl⟩ := overL_cons h
        obtain ⟨a, as', L1, L2, rfl, rfl, l1, l2⟩ := LkL_cons_inv hl
        obtain ⟨xs1, g1, g2, g3, g4⟩ := giveB_sim q d v t a o1 L1 h2 l1
        obtain ⟨xs2, k1, k2, k3, k4⟩ := ih _ _ _ _ h3 l2
        refine ⟨xs1 ++ xs2, overL_mk g1 k1, fun x hx => ?_, fun hn hL hd => ?_, ⟨g4, k4⟩⟩
        · rcases List.mem_append.1 hx with hx | hx
          · rcases g2 x hx with h | h
            · exact .inl (by simp [h])
            · exact .inr (h.mono (by simp +contextual))
          · rcases k2 x hx with h | h
            · exact .inl (by simp [h])
            · exact .inr (h.mono (by simp +contextual))
        · rw [List.nodup_append] at hn hL ⊢
          refine ⟨g3 hn.1 hL.1 (fun y hy hh => hd y (by simp [hy]) (hh.mono (by simp +contextual))), k3 hn.2.1 hL.2.1 (fun y hy hh => hd y (by simp [hy]) (hh.mono (by simp +contextual))), fun x hx y hy e => ?_⟩
          subst e
          rcases g2 x hx with h | h <;> rcases k2 x hy with h' | h'
          · exact hL.2.2 x h x h' rfl
          · exact hd x (by simp [h]) (h'.mono (by simp +contextual))
          · exact hd x (by simp [h']) (h.mono (by simp +contextual))
          · obtain ⟨b, hb, hb'⟩ := h.uniq q h'
            exact hn.2.2 b hb b hb' rfl
    cases v <;> simp only [giveB] at h
    case im x =>
      obtain ⟨rfl, rfl⟩ := Prod.mk.inj (Option.some.inj h); simp only [Lk] at hl; obtain ⟨rfl, rfl⟩ := hl
      exact ⟨[], rfl, by simp, fun _ _ _ => List.nodup_nil, trivial⟩
    case e0 =>
      obtain ⟨rfl, rfl⟩ := Prod.mk.inj (Option.some.inj h); simp only [Lk] at hl; obtain ⟨rfl, rfl⟩ := hl
      exact ⟨[], rfl, by simp, fun _ _ _ => List.nodup_nil, trivial⟩
    case sl es =>
      obtain ⟨rfl, rfl⟩ := Prod.mk.inj (Option.some.inj h); simp only [Lk] at hl; obtain ⟨rfl, rfl, hr⟩ := hl
      exact ⟨[], rfl, by simp, fun _ _ _ => List.nodup_nil, by simpa only [Pur] using hr⟩
    case rp u =>
      obtain ⟨rfl, rfl⟩ := Prod.mk.inj (Option.some.inj h); simp only [Lk] at hl; obtain ⟨rfl, rfl, hr⟩ := hl
      exact ⟨[], rfl, by simp, fun _ _ _ => List.nodup_nil, by simpa only [Pur] using hr⟩
    case st cs =>
      split at h
      · rename_i h1
        obtain ⟨rfl, rfl⟩ := Prod.mk.inj (Option.some.inj h)
        simp only [Lk] at hl
        obtain ⟨as, rfl, hl⟩ := hl
        obtain ⟨xs, g1, g2, g3, g4⟩ := lst _ _ _ _ _ h1 hl
        exact ⟨xs, by simp only [give, g1], g2, g3, by simpa only [Pur] using g4⟩
      · cases h
    case tu cs =>
      cases cs with
      | nil => cases h
      | cons c cs =>
      simp only at h
      split at h
      · rename_i h1
        obtain ⟨rfl, rfl⟩ := Prod.mk.inj (Option.some.inj h)
        simp only [Lk] at hl
        obtain ⟨as, rfl, hl⟩ := hl
        obtain ⟨xs, g1, g2, g3, g4⟩ := lst _ _ _ _ _ h1 hl
        exact ⟨xs, by simp only [give, g1], g2, g3, by simpa only [Pur] using g4⟩
      · cases h
    case cl f cs =>
      split at h
      · rename_i h1
        obtain ⟨rfl, rfl⟩ := Prod.mk.inj (Option.some.inj h)
        subst h1
        simp only [Lk, LkL, and_true] at hl
        obtain ⟨⟨as, rfl, rfl⟩, rfl⟩ := hl
        exact ⟨[], by simp [give, overL], by simp, fun _ _ _ => List.nodup_nil, by simp [Pur, PurL]⟩
      · cases h
    case hs b off n c =>
      split at h
      case h_2 => cases h
      rename_i B hB
      split at h
      case isFalse => cases h
      rename_i hle
      split at h
      case h_2 => cases h
      rename_i ts o1 h1
      obtain ⟨rfl, rfl⟩ := Prod.mk.inj (Option.some.inj h)
      simp only [Lk] at hl
      obtain ⟨⟨x, hx, rfl⟩, rfl⟩ := hl
      obtain ⟨A, L', hA, hk, hal, hfr, hll, hn', ho⟩ := seg_of q (fun _ _ h => h) hB hx off n (overL_ne giveB_dd h1)
      obtain ⟨xs, g1, g2, g3, g4⟩ := lst _ _ _ _ _ h1 hll
      refine ⟨x :: xs, ?_, fun y hy => ?_, fun hn _ _ => ?_, by simpa only [Pur] using g4⟩
      · simp only [give, hA]
        rw [if_pos (by omega), g1, hk]
      · rcases List.mem_cons.1 hy with rfl | hy
        · exact .inr ⟨b, by simp, .inl hx⟩
        · rcases g2 y hy with h | h
          · exact .inr ((ho y h).1.mono (by simp))
          · exact .inr (h.mono (by simp +contextual))
      · obtain ⟨hb1, hn1⟩ := List.nodup_cons.1 hn
        have hdis : ∀ y ∈ L', ¬ Rtd β ω o1 y := fun y hy hh => by
          obtain ⟨b', h4, h5⟩ := (ho y hy).1.uniq q hh
          rw [List.mem_singleton] at h4; subst h4; exact hb1 h5
        rw [List.nodup_cons]
        refine ⟨fun hh => ?_, g3 hn1 hn' hdis⟩
        rcases g2 x hh with h | h
        · exact (ho x h).2 b hx
        · have h6 : Rtd β ω [b] x := ⟨b, by simp, .inl hx⟩
          obtain ⟨b', h4, h5⟩ := h6.uniq q h
          rw [List.mem_singleton] at h4; subst h4; exact hb1 h5
    case hp b i =>
      split at h
      case h_2 => cases h
      rename_i B hB
      split at h
      case isFalse => cases h
      rename_i hi
      subst hi
      split at h
      case h_2 => cases h
      rename_i e he
      split at h
      case h_2 => cases h
      rename_i t' o1 h1
      obtain ⟨rfl, rfl⟩ := Prod.mk.inj (Option.some.inj h)
      simp only [Lk] at hl
      obtain ⟨⟨x, hx, rfl⟩, rfl⟩ := hl
      obtain ⟨A, L', hA, hk, hal, hfr, hll, hn', ho⟩ := seg_of q (fun _ _ h => h) hB hx 0 1 (one_ne giveB_dd he h1)
      rw [he] at hll hal
      cases hes : A.es with
      | nil => rw [hes] at hal; simp at hal
      | cons e' es' =>
        rw [hes] at hll hal
        have hes' : es' = [] := by simpa using hal
        subst hes'
        simp only [List.drop_zero, List.take_succ_cons, List.take_zero] at hll
        have h1' : overL (giveB d sB.H) [e] = some ([t'], o1) := by simp only [overL, h1, List.append_nil]
        obtain ⟨xs, g1, g2, g3, g4⟩ := lst _ _ _ _ _ h1' hll
        refine ⟨x :: xs, ?_, fun y hy => ?_, fun hn _ _ => ?_, by simp only [PurL] at g4; simpa only [Pur] using g4.1⟩
        · simp only [give, hA, hes, List.length_singleton, and_self, if_true, g1]
        · rcases List.mem_cons.1 hy with rfl | hy
          · exact .inr ⟨b, by simp, .inl hx⟩
          · rcases g2 y hy with h | h
            · exact .inr ((ho y h).1.mono (by simp))
            · exact .inr (h.mono (by simp +contextual))
        · obtain ⟨hb1, hn1⟩ := List.nodup_cons.1 hn
          have hdis : ∀ y ∈ L', ¬ Rtd β ω o1 y := fun y hy hh => by
            obtain ⟨b', h4, h5⟩ := (ho y hy).1.uniq q hh
            rw [List.mem_singleton] at h4; subst h4; exact hb1 h5
          rw [List.nodup_cons]
          refine ⟨fun hh => ?_, g3 hn1 hn' hdis⟩
          rcases g2 x hh with h | h
          · exact (ho x h).2 b hx
          · have h6 : Rtd β ω [b] x := ⟨b, by simp, .inl hx⟩
            obtain ⟨b', h4, h5⟩ := h6.uniq q h
            rw [List.mem_singleton] at h4; subst h4; exact hb1 h5
    case ow k es =>
      split at h
      case isFalse => cases h
      rename_i hok
      obtain ⟨rfl, rfl⟩ := Prod.mk.inj (Option.some.inj h)
      simp only [Lk] at hl
      obtain ⟨⟨d0, hg⟩, hp⟩ := hl
      exact ⟨L, giveX_give (d + 1) d0 a _ L hg hok, fun x hx => .inl hx, fun _ h _ => h, by simpa only [Pur] using hp⟩
    case op u =>
      split at h
      case isFalse => cases h
      rename_i hok
      obtain ⟨rfl, rfl⟩ := Prod.mk.inj (Option.some.inj h)
      simp only [Lk] at hl
      obtain ⟨⟨d0, hg⟩, hp⟩ := hl
      exact ⟨L, giveX_give (d + 1) d0 a _ L hg hok, fun x hx => .inl hx, fun _ h _ => h, by simpa only [Pur] using hp⟩
    case hf => cases h

/-- Read in B, read in A. -/
theorem snapB_sim (q : Sim β ω no2 sB sA) : ∀ (d : Nat) (v t a : V) (rs L : List Nat), snapB d sB.H v = some (t, rs) → Lk β sA.H v a L →
    ∃ xs, snap d sA.H a = some (t, xs) ∧ (∀ x ∈ xs, x ∈ L ∨ Rtd β ω rs x) ∧ Ror t
  | 0, _, _, _, _, _, h, _ => by simp [snapB] at h
  | d + 1, v, t, a, rs, L, h, hl => by
    have lst : ∀ (vs ts as : List V) (rs L : List Nat), overL (snapB d sB.H) vs = some (ts, rs) → LkL β sA.H vs as L →
        ∃ xs, overL (snap d sA.H) as = some (ts, xs) ∧ (∀ x ∈ xs, x ∈ L ∨ Rtd β ω rs x) ∧ RorL ts := by
      intro vs
      induction vs with
      | nil =>
        intro ts as os L h hl
        simp only [overL, Option.some.injEq, Prod.mk.injEq] at h
        obtain ⟨rfl, rfl⟩ := h
        simp only [LkL] at hl
        obtain ⟨rfl, rfl⟩ := hl
        exact ⟨[], rfl, by simp, trivial⟩
      | cons v vs ih =>
        intro ts as os L h hl
        obtain ⟨t, ts', o1, o2, h2, h3, rfl, rfl⟩ := overL_cons h
        obtain ⟨a, as', L1, L2, rfl, rfl, l1, l2⟩ := LkL_cons_inv hl
        obtain ⟨xs1, g1, g2, g4⟩ := snapB_sim q d v t a o1 L1 h2 l1
        obtain ⟨xs2, k1, k2, k4⟩ := ih _ _ _ _ h3 l2
        refine ⟨xs1 ++ xs2, overL_mk g1 k1, fun x hx => ?_, ⟨g4, k4⟩⟩
        rcases List.mem_append.1 hx with hx | hx
        · rcases g2 x hx with h | h
          · exact .inl (by simp [h])
          · exact .inr (h.mono (by simp +contextual))
        · rcases k2 x hx with h | h
          · exact .inl (by simp [h])
          · exact .inr (h.mono (by simp +contextual))
    cases v <;> simp only [snapB] at h
    case im x =>
      obtain ⟨rfl, rfl⟩ := Prod.mk.inj (Option.some.inj h); simp only [Lk] at hl; obtain ⟨rfl, rfl⟩ := hl
      exact ⟨[], rfl, by simp, trivial⟩
    case e0 =>
      obtain ⟨rfl, rfl⟩ := Prod.mk.inj (Option.some.inj h); simp only [Lk] at hl; obtain ⟨rfl, rfl⟩ := hl
      exact ⟨[], rfl, by simp, by simp [Ror, RorL]⟩
    case sl es =>
      obtain ⟨rfl, rfl⟩ := Prod.mk.inj (Option.some.inj h); simp only [Lk] at hl; obtain ⟨rfl, rfl, hr⟩ := hl
      exact ⟨[], rfl, by simp, by simpa only [Ror] using hr⟩
    case rp u =>
      obtain ⟨rfl, rfl⟩ := Prod.mk.inj (Option.some.inj h); simp only [Lk] at hl; obtain ⟨rfl, rfl, hr⟩ := hl
      exact ⟨[], rfl, by simp, by simpa only [Ror] using hr⟩
    case st cs =>
      split at h
      · rename_i h1
        obtain ⟨rfl, rfl⟩ := Prod.mk.inj (Option.some.inj h)
        simp only [Lk] at hl
        obtain ⟨as, rfl, hl⟩ := hl
        obtain ⟨xs, g1, g2, g4⟩ := lst _ _ _ _ _ h1 hl
        exact ⟨xs, by simp only [snap, g1], g2, by simpa only [Ror] using g4⟩
      · cases h
    case cl f cs =>
      split at h
      · rename_i h1
        obtain ⟨rfl, rfl⟩ := Prod.mk.inj (Option.some.inj h)
        simp only [Lk] at hl
        obtain ⟨⟨as, rfl, hl⟩, rfl⟩ := hl
        obtain ⟨xs, g1, g2, g4⟩ := lst _ _ _ _ _ h1 hl
        exact ⟨xs, by simp only [snap, g1], g2, by simpa only [Ror] using g4⟩
      · cases h
    case hs b off n c =>
      split at h
      case h_2 => cases h
      rename_i B hB
      split at h
      case isFalse => cases h
      rename_i hle
      split at h
      case h_2 => cases h
      rename_i ts o1 h1
      obtain ⟨rfl, rfl⟩ := Prod.mk.inj (Option.some.inj h)
      simp only [Lk] at hl
      obtain ⟨⟨x, hx, rfl⟩, rfl⟩ := hl
      obtain ⟨A, L', hA, hk, hal, hfr, hll, hn', ho⟩ := seg_of q (fun _ _ h => h) hB hx off n (overL_ne snapB_dd h1)
      obtain ⟨xs, g1, g2, g4⟩ := lst _ _ _ _ _ h1 hll
      simp only [snap]
      split
      · rename_i hn
        subst hn
        simp only [List.take_zero, overL, Option.some.injEq, Prod.mk.injEq] at h1
        obtain ⟨rfl, rfl⟩ := h1
        exact ⟨[], rfl, by simp, by simp [Ror, RorL]⟩
      · simp only [hA]
        rw [if_pos (by omega), g1]
        refine ⟨x :: xs, rfl, fun y hy => ?_, by simpa only [Ror] using g4⟩
        rcases List.mem_cons.1 hy with rfl | hy
        · exact .inr ⟨b, by simp, .inl hx⟩
        · rcases g2 y hy with h | h
          · exact .inr ((ho y h).1.mono (by simp))
          · exact .inr (h.mono (by simp +contextual))
    case hp b i =>
      split at h
      case h_2 => cases h
      rename_i B hB
      split at h
      case h_2 => cases h
      rename_i e he
      split at h
      case h_2 => cases h
      rename_i t' o1 h1
      obtain ⟨rfl, rfl⟩ := Prod.mk.inj (Option.some.inj h)
      simp only [Lk] at hl
      obtain ⟨⟨x, hx, rfl⟩, rfl⟩ := hl
      obtain ⟨A, hA, hk, hfr, _, hal, hel⟩ := q.get hB hx
      have hlt : i < A.es.length := by rw [hal]; exact (List.getElem?_eq_some_iff.1 he).1
      obtain ⟨L', hl', _, ho⟩ := (hel i _ _ (fun h => h) he (List.getElem?_eq_getElem hlt)).resolve_left (by rintro rfl; rw [snapB_dd] at h1; cases h1)
      obtain ⟨xs, g1, g2, g4⟩ := snapB_sim q d e t' _ o1 L' h1 hl'
      simp only [snap, hA, List.getElem?_eq_getElem hlt, g1]
      refine ⟨x :: xs, rfl, fun y hy => ?_, by simpa only [Ror] using g4⟩
      rcases List.mem_cons.1 hy with rfl | hy
      · exact .inr ⟨b, by simp, .inl hx⟩
      · rcases g2 y hy with h | h
        · exact .inr ⟨b, by simp, .inr ⟨(ho y h).2, i, (ho y h).1⟩⟩
        · exact .inr (h.mono (by simp +contextual))
    case ow k es =>
      obtain ⟨r, hr, hh⟩ := Option.map_eq_some_iff.1 h
      obtain ⟨rfl, rfl⟩ := Prod.mk.inj hh
      simp only [Lk] at hl
      obtain ⟨⟨d0, hg⟩, hp⟩ := hl
      obtain ⟨xs, g1, g2⟩ := giveX_snap (d + 1) d0 a _ r L hg hr
      exact ⟨xs, g1, fun x hx => .inl (g2 x hx), roT_ror _ _ _ hr (by simpa only [Pur] using hp)⟩
    case op u =>
      obtain ⟨r, hr, hh⟩ := Option.map_eq_some_iff.1 h
      obtain ⟨rfl, rfl⟩ := Prod.mk.inj hh
      simp only [Lk] at hl
      obtain ⟨⟨d0, hg⟩, hp⟩ := hl
      obtain ⟨xs, g1, g2⟩ := giveX_snap (d + 1) d0 a _ r L hg hr
      exact ⟨xs, g1, fun x hx => .inl (g2 x hx), roT_ror _ _ _ hr (by simpa only [Pur] using hp)⟩
    all_goals cases h

end Go.Am

/- The B-machine, part 9: canonical states. -/
namespace Go.Am
variable {β : Bet} {ω : Omg} {sB sA : S}

/-- Packed in B, given in A. -/
theorem packB_sim (q : Sim β ω no2 sB sA) : ∀ (d : Nat) (v t a : V) (os L : List Nat), packB d sB.H v = some (t, os) → Lk β sA.H v a L →
    ∃ d' xs, giveX d' sA.H a = some (t, xs) ∧ (∀ x ∈ xs, x ∈ L ∨ Rtd β ω os x) ∧ (os.Nodup → L.Nodup → (∀ y ∈ L, ¬ Rtd β ω os y) → xs.Nodup) ∧ Pur t
  | 0, _, _, _, _, _, h, _ => by simp [packB] at h
  | d + 1, v, t, a, os, L, h, hl => by
    have lst : ∀ (vs ts as : List V) (os L : List Nat), overL (packB d sB.H) vs = some (ts, os) → LkL β sA.H vs as L →
        ∃ d' xs, overL (giveX d' sA.H) as = some (ts, xs) ∧ (∀ x ∈ xs, x ∈ L ∨ Rtd β ω os x) ∧ (os.Nodup → L.Nodup → (∀ y ∈ L, ¬ Rtd β ω os y) → xs.Nodup) ∧ PurL ts := by
      intro vs
      induction vs with
      | nil =>
        intro ts as os L h hl
        simp only [overL, Option.some.injEq, Prod.mk.injEq] at h
        obtain ⟨rfl, rfl⟩ := h
        simp only [LkL] at hl
        obtain ⟨rfl, rfl⟩ := hl
        exact ⟨0, [], rfl, by simp, fun _ _ _ => List.nodup_nil, trivial⟩
      | cons v vs ih =>
        intro ts as os L h hl
        obtain ⟨t, ts', o1, o2, h2, h3, rfl, rfl⟩ := overL_cons h
        obtain ⟨a, as', L1, L2, rfl, rfl, l1, l2⟩ := LkL_cons_inv hl
        obtain ⟨d1, xs1, g1, g2, g3, g4⟩ := packB_sim q d v t a o1 L1 h2 l1
        obtain ⟨d2, xs2, k1, k2, k3, k4⟩ := ih _ _ _ _ h3 l2
        refine ⟨max d1 d2, xs1 ++ xs2, overL_mk (giveX_mono (Nat.le_max_left _ _) g1) (overL_imp (fun v _ t L' h _ => giveX_mono (Nat.le_max_right _ _) h) k1), fun x hx => ?_, fun hn hL hd => ?_, ⟨g4, k4⟩⟩
        · rcases List.mem_append.1 hx with hx | hx
          · rcases g2 x hx with h | h
            · exact .inl (by simp [h])
            · exact .inr (h.mono (by simp +contextual))
          · rcases k2 x hx with h | h
            · exact .inl (by simp [h])
            · exact .inr (h.mono (by simp +contextual))
        · rw [List.nodup_append] at hn hL ⊢
          refine ⟨g3 hn.1 hL.1 (fun y hy hh => hd y (by simp [hy]) (hh.mono (by simp +contextual))), k3 hn.2.1 hL.2.1 (fun y hy hh => hd y (by simp [hy]) (hh.mono (by simp +contextual))), fun x hx y hy e => ?_⟩
          subst e
          rcases g2 x hx with h | h <;> rcases k2 x hy with h' | h'
          · exact hL.2.2 x h x h' rfl
          · exact hd x (by simp [h]) (h'.mono (by simp +contextual))
          · exact hd x (by simp [h']) (h.mono (by simp +contextual))
          · obtain ⟨b, hb, hb'⟩ := h.uniq q h'
            exact hn.2.2 b hb b hb' rfl
    cases v <;> simp only [packB] at h
    case im x =>
      obtain ⟨rfl, rfl⟩ := Prod.mk.inj (Option.some.inj h); simp only [Lk] at hl; obtain ⟨rfl, rfl⟩ := hl
      exact ⟨1, [], rfl, by simp, fun _ _ _ => List.nodup_nil, trivial⟩
    case e0 =>
      obtain ⟨rfl, rfl⟩ := Prod.mk.inj (Option.some.inj h); simp only [Lk] at hl; obtain ⟨rfl, rfl⟩ := hl
      exact ⟨1, [], rfl, by simp, fun _ _ _ => List.nodup_nil, trivial⟩
    case sl es =>
      obtain ⟨rfl, rfl⟩ := Prod.mk.inj (Option.some.inj h); simp only [Lk] at hl; obtain ⟨rfl, rfl, hr⟩ := hl
      exact ⟨1, [], rfl, by simp, fun _ _ _ => List.nodup_nil, by simpa only [Pur] using hr⟩
    case rp u =>
      obtain ⟨rfl, rfl⟩ := Prod.mk.inj (Option.some.inj h); simp only [Lk] at hl; obtain ⟨rfl, rfl, hr⟩ := hl
      exact ⟨1, [], rfl, by simp, fun _ _ _ => List.nodup_nil, by simpa only [Pur] using hr⟩
    case st cs =>
      split at h
      · rename_i h1
        obtain ⟨rfl, rfl⟩ := Prod.mk.inj (Option.some.inj h)
        simp only [Lk] at hl
        obtain ⟨as, rfl, hl⟩ := hl
        obtain ⟨d', xs, g1, g2, g3, g4⟩ := lst _ _ _ _ _ h1 hl
        exact ⟨d' + 1, xs, by simp only [giveX, g1], g2, g3, by simpa only [Pur] using g4⟩
      · cases h
    case cl f cs =>
      split at h
      · rename_i h1
        obtain ⟨rfl, rfl⟩ := Prod.mk.inj (Option.some.inj h)
        subst h1
        simp only [Lk, LkL, and_true] at hl
        obtain ⟨⟨as, rfl, rfl⟩, rfl⟩ := hl
        exact ⟨1, [], by simp [giveX], by simp, fun _ _ _ => List.nodup_nil, by simp [Pur, PurL]⟩
      · cases h
    case hs b off n c =>
      split at h
      case h_2 => cases h
      rename_i B hB
      split at h
      case isFalse => cases h
      rename_i hle
      obtain ⟨rfl, rfl, rfl⟩ := hle
      split at h
      case h_2 => cases h
      rename_i ts o1 h1
      obtain ⟨rfl, rfl⟩ := Prod.mk.inj (Option.some.inj h)
      simp only [Lk] at hl
      obtain ⟨⟨x, hx, rfl⟩, rfl⟩ := hl
      obtain ⟨A, L', hA, hk, hal, hfr, hll, hn', ho⟩ := seg_of q (fun _ _ h => h) hB hx 0 B.es.length (by simpa using overL_ne packB_dd h1)
      simp only [List.drop_zero, List.take_length] at hll
      rw [← hal, List.take_length] at hll
      obtain ⟨d', xs, g1, g2, g3, g4⟩ := lst _ _ _ _ _ h1 hll
      refine ⟨d' + 1, x :: xs, ?_, fun y hy => ?_, fun hn _ _ => ?_, by simpa only [Pur] using g4⟩
      · simp only [giveX, hA]
        rw [if_pos ⟨trivial, hal.symm, trivial⟩, g1, hk]
      · rcases List.mem_cons.1 hy with rfl | hy
        · exact .inr ⟨b, by simp, .inl hx⟩
        · rcases g2 y hy with h | h
          · exact .inr ((ho y h).1.mono (by simp))
          · exact .inr (h.mono (by simp +contextual))
      · obtain ⟨hb1, hn1⟩ := List.nodup_cons.1 hn
        have hdis : ∀ y ∈ L', ¬ Rtd β ω o1 y := fun y hy hh => by
          obtain ⟨b', h4, h5⟩ := (ho y hy).1.uniq q hh
          rw [List.mem_singleton] at h4; subst h4; exact hb1 h5
        rw [List.nodup_cons]
        refine ⟨fun hh => ?_, g3 hn1 hn' hdis⟩
        rcases g2 x hh with h | h
        · exact (ho x h).2 b hx
        · have h6 : Rtd β ω [b] x := ⟨b, by simp, .inl hx⟩
          obtain ⟨b', h4, h5⟩ := h6.uniq q h
          rw [List.mem_singleton] at h4; subst h4; exact hb1 h5
    case hp b i =>
      split at h
      case h_2 => cases h
      rename_i B hB
      split at h
      case isFalse => cases h
      rename_i hi
      subst hi
      split at h
      case h_2 => cases h
      rename_i e he
      split at h
      case h_2 => cases h
      rename_i t' o1 h1
      split at h
      case isFalse => cases h
      rename_i hkt
      obtain ⟨rfl, rfl⟩ := Prod.mk.inj (Option.some.inj h)
      simp only [Lk] at hl
      obtain ⟨⟨x, hx, rfl⟩, rfl⟩ := hl
      obtain ⟨A, L', hA, hk, hal, hfr, hll, hn', ho⟩ := seg_of q (fun _ _ h => h) hB hx 0 1 (one_ne packB_dd he h1)
      rw [he] at hll hal
      cases hes : A.es with
      | nil => rw [hes] at hal; simp at hal
      | cons e' es' =>
        rw [hes] at hll hal
        have hes' : es' = [] := by simpa using hal
        subst hes'
        simp only [List.drop_zero, List.take_succ_cons, List.take_zero] at hll
        obtain ⟨a1, as1, L1, L2, e1, rfl, l1, l2⟩ := LkL_cons_inv hll
        obtain ⟨rfl, rfl⟩ := List.cons.inj e1
        simp only [LkL] at l2
        obtain ⟨_, rfl⟩ := l2
        rw [List.append_nil] at ho hn'
        obtain ⟨d', xs, g1, g2, g3, g4⟩ := packB_sim q d e t' _ o1 L1 h1 l1
        refine ⟨d' + 1, x :: xs, ?_, fun y hy => ?_, fun hn _ _ => ?_, by simpa only [Pur] using g4⟩
        · simp only [giveX, hA, hes, if_true, g1]
          rw [if_pos (hk.trans hkt)]
        · rcases List.mem_cons.1 hy with rfl | hy
          · exact .inr ⟨b, by simp, .inl hx⟩
          · rcases g2 y hy with h | h
            · exact .inr ((ho y h).1.mono (by simp))
            · exact .inr (h.mono (by simp +contextual))
        · obtain ⟨hb1, hn1⟩ := List.nodup_cons.1 hn
          have hdis : ∀ y ∈ L1, ¬ Rtd β ω o1 y := fun y hy hh => by
            obtain ⟨b', h4, h5⟩ := (ho y hy).1.uniq q hh
            rw [List.mem_singleton] at h4; subst h4; exact hb1 h5
          rw [List.nodup_cons]
          refine ⟨fun hh => ?_, g3 hn1 hn' hdis⟩
          rcases g2 x hh with h | h
          · exact (ho x h).2 b hx
          · have h6 : Rtd β ω [b] x := ⟨b, by simp, .inl hx⟩
            obtain ⟨b', h4, h5⟩ := h6.uniq q h
            rw [List.mem_singleton] at h4; subst h4; exact hb1 h5
    case ow k es =>
      obtain ⟨rfl, rfl⟩ := Prod.mk.inj (Option.some.inj h)
      simp only [Lk] at hl
      obtain ⟨⟨d0, hg⟩, hp⟩ := hl
      exact ⟨d0, L, hg, fun x hx => .inl hx, fun _ h _ => h, by simpa only [Pur] using hp⟩
    case op u =>
      obtain ⟨rfl, rfl⟩ := Prod.mk.inj (Option.some.inj h)
      simp only [Lk] at hl
      obtain ⟨⟨d0, hg⟩, hp⟩ := hl
      exact ⟨d0, L, hg, fun x hx => .inl hx, fun _ h _ => h, by simpa only [Pur] using hp⟩
    all_goals cases h

theorem posOf_some : ∀ {r : List Nat} {b j : Nat}, posOf r b = some j → r[j]? = some b
  | [], b, j, h => by simp [posOf] at h
  | a :: l, b, j, h => by
    simp only [posOf] at h
    split at h
    · rename_i e; obtain rfl := Option.some.inj h; simp [e]
    · obtain ⟨k, hk, rfl⟩ := Option.map_eq_some_iff.1 h
      simpa using posOf_some hk
theorem posOf_none : ∀ {r : List Nat} {b : Nat}, posOf r b = none → b ∉ r
  | [], b, _ => by simp
  | a :: l, b, h => by
    simp only [posOf] at h
    split at h
    · cases h
    · rename_i e
      rw [Option.map_eq_none_iff] at h
      simp only [List.mem_cons, not_or]
      exact ⟨e, posOf_none h⟩

/-- Renaming: the blocks of r have new numbers. -/
def betR (β : Bet) (r : List Nat) : Bet := fun j => (r[j]?).bind β

theorem ren_sim (q : Sim β ω no2 sB sA) {r : List Nat} : ∀ (d : Nat) (v t a : V) (os L : List Nat), ren sB.H r d v = some (t, os) → Lk β sA.H v a L →
    ∃ xs, Lk (betR β r) sA.H t a xs ∧ (∀ x ∈ xs, x ∈ L ∨ Rtd β ω os x) ∧ (os.Nodup → L.Nodup → (∀ y ∈ L, ¬ Rtd β ω os y) → xs.Nodup) ∧ (os = [] → L = [] → xs = []) ∧ ∀ b ∈ os, b ∉ r ∨ True
  | 0, _, _, _, _, _, h, _ => by simp [ren] at h
  | d + 1, v, t, a, os, L, h, hl => by
    have lst : ∀ (vs ts as : List V) (os L : List Nat), overL (ren sB.H r d) vs = some (ts, os) → LkL β sA.H vs as L →
        ∃ xs, LkL (betR β r) sA.H ts as xs ∧ (∀ x ∈ xs, x ∈ L ∨ Rtd β ω os x) ∧ (os.Nodup → L.Nodup → (∀ y ∈ L, ¬ Rtd β ω os y) → xs.Nodup) ∧ (os = [] → L = [] → xs = []) := by
      intro vs
      induction vs with
      | nil =>
        intro ts as os L h hl
        simp only [overL, Option.some.injEq, Prod.mk.injEq] at h
        obtain ⟨rfl, rfl⟩ := h
        simp only [LkL] at hl
        obtain ⟨rfl, rfl⟩ := hl
        exact ⟨[], by simp [LkL], by simp, fun _ _ _ => List.nodup_nil, fun _ _ => rfl⟩
      | cons v vs ih =>
        intro ts as os L h hl
        obtain ⟨t, ts', o1, o2, h2, h3, rfl, rfl⟩ := overL_cons h
        obtain ⟨a, as', L1, L2, rfl, rfl, l1, l2⟩ := LkL_cons_inv hl
        obtain ⟨xs1, g1, g2, g3, g4, _⟩ := ren_sim q d v t a o1 L1 h2 l1
        obtain ⟨xs2, k1, k2, k3, k4⟩ := ih _ _ _ _ h3 l2
        refine ⟨xs1 ++ xs2, by simp only [LkL]; exact ⟨a, as', xs1, xs2, rfl, rfl, g1, k1⟩, fun x hx => ?_, fun hn hL hd => ?_, fun ho hL => ?_⟩
        · rcases List.mem_append.1 hx with hx | hx
          · rcases g2 x hx with h | h
            · exact .inl (by simp [h])
            · exact .inr (h.mono (by simp +contextual))
          · rcases k2 x hx with h | h
            · exact .inl (by simp [h])
            · exact .inr (h.mono (by simp +contextual))
        · rw [List.nodup_append] at hn hL ⊢
          refine ⟨g3 hn.1 hL.1 (fun y hy hh => hd y (by simp [hy]) (hh.mono (by simp +contextual))), k3 hn.2.1 hL.2.1 (fun y hy hh => hd y (by simp [hy]) (hh.mono (by simp +contextual))), fun x hx y hy e => ?_⟩
          subst e
          rcases g2 x hx with h | h <;> rcases k2 x hy with h' | h'
          · exact hL.2.2 x h x h' rfl
          · exact hd x (by simp [h]) (h'.mono (by simp +contextual))
          · exact hd x (by simp [h']) (h.mono (by simp +contextual))
          · obtain ⟨b, hb, hb'⟩ := h.uniq q h'
            exact hn.2.2 b hb b hb' rfl
        · obtain ⟨rfl, rfl⟩ := List.append_eq_nil_iff.1 ho
          obtain ⟨rfl, rfl⟩ := List.append_eq_nil_iff.1 hL
          rw [g4 rfl rfl, k4 rfl rfl]; rfl
    have pk : ∀ {u : V}, packB (d + 1) sB.H u = some (t, os) → Lk β sA.H u a [] → L = [] → (os = [] → False) → ∃ xs, Lk (betR β r) sA.H t a xs ∧ (∀ x ∈ xs, x ∈ L ∨ Rtd β ω os x) ∧ (os.Nodup → L.Nodup → (∀ y ∈ L, ¬ Rtd β ω os y) → xs.Nodup) ∧ (os = [] → L = [] → xs = []) ∧ ∀ b ∈ os, b ∉ r ∨ True := by
      intro u h hl' e hne
      subst e
      obtain ⟨d', xs, g1, g2, g3, g4⟩ := packB_sim q (d + 1) u t a os [] h hl'
      exact ⟨xs, Lk_of_giveX d' a t xs g1 g4, g2, g3, fun h => (hne h).elim, fun _ _ => .inr trivial⟩
    cases v <;> simp only [ren] at h
    case hs b off n c =>
      simp only [Lk] at hl
      obtain ⟨⟨x, hx, rfl⟩, rfl⟩ := hl
      split at h
      · rename_i j hj
        obtain ⟨rfl, rfl⟩ := Prod.mk.inj (Option.some.inj h)
        refine ⟨[], ?_, by simp, fun _ _ _ => List.nodup_nil, fun _ _ => rfl, by simp⟩
        simp only [Lk, and_true]
        exact ⟨x, by simp [betR, posOf_some hj, hx], rfl⟩
      · refine pk h (by simp only [Lk, and_true]; exact ⟨x, hx, rfl⟩) rfl ?_
        intro e; subst e
        simp only [packB] at h
        split at h
        · split at h
          · split at h
            · obtain ⟨_, h⟩ := Prod.mk.inj (Option.some.inj h); cases h
            · cases h
          · cases h
        · cases h
    case hp b i =>
      simp only [Lk] at hl
      obtain ⟨⟨x, hx, rfl⟩, rfl⟩ := hl
      split at h
      · rename_i j hj
        obtain ⟨rfl, rfl⟩ := Prod.mk.inj (Option.some.inj h)
        refine ⟨[], ?_, by simp, fun _ _ _ => List.nodup_nil, fun _ _ => rfl, by simp⟩
        simp only [Lk, and_true]
        exact ⟨x, by simp [betR, posOf_some hj, hx], rfl⟩
      · refine pk h (by simp only [Lk, and_true]; exact ⟨x, hx, rfl⟩) rfl ?_
        intro e; subst e
        simp only [packB] at h
        split at h
        · split at h
          · split at h
            · split at h
              · split at h
                · obtain ⟨_, h⟩ := Prod.mk.inj (Option.some.inj h); cases h
                · cases h
              · cases h
            · cases h
          · cases h
        · cases h
    case hf b i j =>
      simp only [Lk] at hl
      obtain ⟨⟨x, hx, rfl⟩, rfl⟩ := hl
      split at h
      · rename_i j' hj
        obtain ⟨rfl, rfl⟩ := Prod.mk.inj (Option.some.inj h)
        refine ⟨[], ?_, by simp, fun _ _ _ => List.nodup_nil, fun _ _ => rfl, by simp⟩
        simp only [Lk, and_true]
        exact ⟨x, by simp [betR, posOf_some hj, hx], rfl⟩
      · cases h
    case st cs =>
      split at h
      · rename_i h1
        obtain ⟨rfl, rfl⟩ := Prod.mk.inj (Option.some.inj h)
        simp only [Lk] at hl
        obtain ⟨as, rfl, hl⟩ := hl
        obtain ⟨xs, g1, g2, g3, g4⟩ := lst _ _ _ _ _ h1 hl
        exact ⟨xs, by simp only [Lk]; exact ⟨as, rfl, g1⟩, g2, g3, g4, fun _ _ => .inr trivial⟩
      · cases h
    case tu cs =>
      split at h
      · rename_i h1
        obtain ⟨rfl, rfl⟩ := Prod.mk.inj (Option.some.inj h)
        simp only [Lk] at hl
        obtain ⟨as, rfl, hl⟩ := hl
        obtain ⟨xs, g1, g2, g3, g4⟩ := lst _ _ _ _ _ h1 hl
        exact ⟨xs, by simp only [Lk]; exact ⟨as, rfl, g1⟩, g2, g3, g4, fun _ _ => .inr trivial⟩
      · cases h
    case cl f cs =>
      split at h
      · rename_i h1
        obtain ⟨rfl, rfl⟩ := Prod.mk.inj (Option.some.inj h)
        simp only [Lk] at hl
        obtain ⟨⟨as, rfl, hl⟩, rfl⟩ := hl
        obtain ⟨xs, g1, g2, g3, g4⟩ := lst _ _ _ _ _ h1 hl
        obtain rfl := g4 rfl rfl
        exact ⟨[], by simp only [Lk, and_true]; exact ⟨as, rfl, g1⟩, by simp, fun _ _ _ => List.nodup_nil, fun _ _ => rfl, by simp⟩
      · cases h
    case im x => obtain ⟨rfl, rfl⟩ := Prod.mk.inj (Option.some.inj h); exact ⟨L, by simpa only [Lk] using hl, fun x hx => .inl hx, fun _ h _ => h, fun _ h => h, by simp⟩
    case e0 => obtain ⟨rfl, rfl⟩ := Prod.mk.inj (Option.some.inj h); exact ⟨L, by simpa only [Lk] using hl, fun x hx => .inl hx, fun _ h _ => h, fun _ h => h, by simp⟩
    case sl x => obtain ⟨rfl, rfl⟩ := Prod.mk.inj (Option.some.inj h); exact ⟨L, by simpa only [Lk] using hl, fun x hx => .inl hx, fun _ h _ => h, fun _ h => h, by simp⟩
    case rp x => obtain ⟨rfl, rfl⟩ := Prod.mk.inj (Option.some.inj h); exact ⟨L, by simpa only [Lk] using hl, fun x hx => .inl hx, fun _ h _ => h, fun _ h => h, by simp⟩
    case ow k x => obtain ⟨rfl, rfl⟩ := Prod.mk.inj (Option.some.inj h); exact ⟨L, by simpa only [Lk] using hl, fun x hx => .inl hx, fun _ h _ => h, fun _ h => h, by simp⟩
    case op x => obtain ⟨rfl, rfl⟩ := Prod.mk.inj (Option.some.inj h); exact ⟨L, by simpa only [Lk] using hl, fun x hx => .inl hx, fun _ h _ => h, fun _ h => h, by simp⟩


theorem overL_pcs {f : V → Option (V × List Nat)} : ∀ {es ts : List V} {L : List Nat}, overL f es = some (ts, L) →
    L = (es.map fun e => ((f e).map (·.2)).getD []).flatten ∧ ts.length = es.length ∧ ∀ (i : Nat) (e : V), es[i]? = some e → ∃ t l, ts[i]? = some t ∧ f e = some (t, l)
  | [], ts, L, h => by simp only [overL, Option.some.injEq, Prod.mk.injEq] at h; obtain ⟨rfl, rfl⟩ := h; exact ⟨rfl, rfl, fun i e h => by simp at h⟩
  | x :: es, ts, L, h => by
    obtain ⟨t, ts', i, j, h2, h3, rfl, rfl⟩ := overL_cons h
    obtain ⟨h4, h5, h6⟩ := overL_pcs h3
    refine ⟨by simp [h2, ← h4], by simp [h5], fun k e hk => ?_⟩
    cases k with
    | zero => simp at hk; subst hk; exact ⟨t, i, rfl, h2⟩
    | succ k => exact h6 k e (by simpa using hk)

/-- The blocks that an element's packing takes in. -/
def pieces (H : Nat → Option Blk) (r : List Nat) (b : Nat) : List (List Nat) := match H b with | some B => B.es.map fun e => ((ren H r DEP e).map (·.2)).getD [] | none => []

theorem renBs_get {H : Nat → Option Blk} {r : List Nat} : ∀ {rs : List Nat} {bs : List (Option Blk)} {ids : List Nat}, renBs H r rs = some (bs, ids) →
    ids = (rs.map fun b => (pieces H r b).flatten).flatten ∧ ∀ (j b : Nat), rs[j]? = some b → ∃ X, bs[j]? = some X ∧ ((H b = none ∧ X = none) ∨ ∃ B es' l, H b = some B ∧ overL (ren H r DEP) B.es = some (es', l) ∧ X = some { B with es := es' })
  | [], bs, ids, h => by simp only [renBs, Option.some.injEq, Prod.mk.injEq] at h; obtain ⟨rfl, rfl⟩ := h; exact ⟨rfl, fun j b h => by simp at h⟩
  | b :: rs, bs, ids, h => by
    simp only [renBs] at h
    split at h
    case h_2 => cases h
    rename_i x i hx
    split at h
    case h_2 => cases h
    rename_i xs j hxs
    obtain ⟨rfl, rfl⟩ := Prod.mk.inj (Option.some.inj h)
    obtain ⟨h1, h2⟩ := renBs_get hxs
    cases hb : H b with
    | none =>
      rw [hb] at hx
      obtain ⟨rfl, rfl⟩ := Prod.mk.inj (Option.some.inj hx)
      refine ⟨by rw [List.map_cons, List.flatten_cons, ← h1]; simp [pieces, hb], fun k b' hk => ?_⟩
      cases k with
      | zero => simp at hk; subst hk; exact ⟨none, rfl, .inl ⟨hb, rfl⟩⟩
      | succ k => exact h2 k b' (by simpa using hk)
    | some B =>
      rw [hb] at hx
      obtain ⟨y, hy, hh⟩ := Option.map_eq_some_iff.1 hx
      obtain ⟨rfl, rfl⟩ := Prod.mk.inj hh
      obtain ⟨es', l⟩ := y
      obtain ⟨h4, _, _⟩ := overL_pcs hy
      refine ⟨by rw [List.map_cons, List.flatten_cons, ← h1]; congr 1; simp only [pieces, hb]; exact h4, fun k b' hk => ?_⟩
      cases k with
      | zero => simp at hk; subst hk; exact ⟨_, rfl, .inr ⟨B, es', l, hb, hy, rfl⟩⟩
      | succ k => exact h2 k b' (by simpa using hk)

theorem renBs_len {H : Nat → Option Blk} {r : List Nat} : ∀ {rs : List Nat} {bs : List (Option Blk)} {ids : List Nat}, renBs H r rs = some (bs, ids) → bs.length = rs.length
  | [], bs, ids, h => by simp only [renBs, Option.some.injEq, Prod.mk.injEq] at h; obtain ⟨rfl, rfl⟩ := h; rfl
  | b :: rs, bs, ids, h => by
    simp only [renBs] at h
    split at h
    case h_2 => cases h
    split at h
    case h_2 => cases h
    rename_i xs j hxs
    obtain ⟨rfl, rfl⟩ := Prod.mk.inj (Option.some.inj h)
    simp [renBs_len hxs]

def pieceOf (H : Nat → Option Blk) (r : List Nat) (p : Nat × Nat) : List Nat := match r[p.1]? with | some b => (pieces H r b).getD p.2 [] | none => []

theorem pieceOf_uniq {H : Nat → Option Blk} {r : List Nat} (hn : (r.map fun b => (pieces H r b).flatten).flatten.Nodup) {p p' : Nat × Nat} {y : Nat} (h : y ∈ pieceOf H r p) (h' : y ∈ pieceOf H r p') : p = p' := by
  obtain ⟨j, i⟩ := p
  obtain ⟨j', i'⟩ := p'
  have get : ∀ {j i : Nat}, y ∈ pieceOf H r (j, i) → ∃ b l, r[j]? = some b ∧ (pieces H r b)[i]? = some l ∧ y ∈ l := by
    intro j i h
    unfold pieceOf at h
    split at h
    · rename_i b hb
      rw [List.getD_eq_getElem?_getD] at h
      cases hl : (pieces H r b)[i]? with
      | none => rw [hl] at h; simp at h
      | some l => rw [hl] at h; exact ⟨b, l, hb, hl, by simpa using h⟩
    · simp at h
  obtain ⟨b, l, h1, h2, h3⟩ := get h
  obtain ⟨b', l', h1', h2', h3'⟩ := get h'
  have m : y ∈ (pieces H r b).flatten := List.mem_flatten.2 ⟨l, List.mem_of_getElem? h2, h3⟩
  have m' : y ∈ (pieces H r b').flatten := List.mem_flatten.2 ⟨l', List.mem_of_getElem? h2', h3'⟩
  have e1 := ownr_spec hn (j := j) (l := (pieces H r b).flatten) (by simp [h1]) m
  have e2 := ownr_spec hn (j := j') (l := (pieces H r b').flatten) (by simp [h1']) m'
  have hj : j = j' := e1.symm.trans e2
  subst hj
  rw [h1] at h1'; obtain rfl := Option.some.inj h1'
  have hsub : (pieces H r b).flatten.Nodup := hn.sublist (List.sublist_flatten_of_mem (List.mem_map.2 ⟨b, List.mem_of_getElem? h1, rfl⟩))
  have e3 := ownr_spec hsub h2 h3
  have e4 := ownr_spec hsub h2' h3'
  rw [← e3, ← e4]

theorem nodup_get {r : List Nat} (h : r.Nodup) {i j b : Nat} (hi : r[i]? = some b) (hj : r[j]? = some b) : i = j := by
  obtain ⟨h1, h2⟩ := List.getElem?_eq_some_iff.1 hi
  obtain ⟨h3, h4⟩ := List.getElem?_eq_some_iff.1 hj
  have hp := List.pairwise_iff_getElem.1 h
  rcases Nat.lt_trichotomy i j with h5 | h5 | h5
  · exact absurd (h2.trans h4.symm) (hp i j h1 h3 h5)
  · exact h5
  · exact absurd (h4.trans h2.symm) (hp j i h3 h1 h5)

theorem envA_map (L : List Nat) (g : Nat → V) (t : Nat) : envA (L.map fun t => (t, g t)) t = V.dd ∨ envA (L.map fun t => (t, g t)) t = g t := by
  induction L with
  | nil => exact .inl rfl
  | cons a L ih =>
    simp only [List.map_cons, envA]
    by_cases h : a = t
    · rw [if_pos h, h]; exact .inr rfl
    · rw [if_neg h]; exact ih

open Classical in
theorem nm_sim (q : Sim β ω no2 sB sA) {L : List Nat} {sB' : S} (h : nmS L sB = some sB') : ∃ β' ω', Sim β' ω' no2 sB' sA := by
  unfold nmS at h
  simp only at h
  generalize dedup (L.flatMap fun t => refs 3 (sB.e t)) = r at h
  split at h
  case h_2 => cases h
  rename_i bs ids hbs
  split at h
  case isFalse => cases h
  rename_i hnd
  obtain rfl := Option.some.inj h
  obtain ⟨hids, hget⟩ := renBs_get hbs
  rw [List.nodup_append] at hnd
  obtain ⟨hn1, hn2, hn3⟩ := hnd
  have hpu : ∀ {p p' : Nat × Nat} {y : Nat}, y ∈ pieceOf sB.H r p → y ∈ pieceOf sB.H r p' → p = p' := fun h h' => pieceOf_uniq (by rw [← hids]; exact hn1) h h'
  have hpm : ∀ {p : Nat × Nat} {y : Nat}, y ∈ pieceOf sB.H r p → y ∈ ids := by
    intro p y h
    unfold pieceOf at h
    split at h
    · rename_i b hb
      rw [List.getD_eq_getElem?_getD] at h
      cases hl : (pieces sB.H r b)[p.2]? with
      | none => rw [hl] at h; simp at h
      | some l =>
        rw [hl] at h
        rw [hids]
        exact List.mem_flatten.2 ⟨_, List.mem_map.2 ⟨b, List.mem_of_getElem? hb, rfl⟩, List.mem_flatten.2 ⟨l, List.mem_of_getElem? hl, by simpa using h⟩⟩
    · simp at h
  let Q : Nat × Nat → Nat → Prop := fun p y => ∃ b, r[p.1]? = some b ∧ ((ω y = some (b, p.2) ∧ ∀ b2, β b2 ≠ some y) ∨ Rtd β ω (pieceOf sB.H r p) y)
  have hQ : ∀ p p' y, Q p y → Q p' y → p = p' := by
    rintro p p' y ⟨b, hb, h⟩ ⟨b', hb', h'⟩
    have own : ∀ {b i : Nat}, (ω y = some (b, i) ∧ ∀ b2, β b2 ≠ some y) → Rtd β ω [b] y := fun h => ⟨_, List.mem_singleton.2 rfl, .inr ⟨h.2, _, h.1⟩⟩
    rcases h with h | h <;> rcases h' with h' | h'
    · have e := h.1.symm.trans h'.1
      obtain ⟨rfl, e2⟩ := Prod.mk.inj (Option.some.inj e)
      exact Prod.ext (nodup_get hn2 hb hb') e2
    · obtain ⟨b2, h1, h2⟩ := (own h).uniq q h'
      rw [List.mem_singleton] at h1; subst h1
      exact absurd rfl (hn3 b2 (hpm h2) b2 (List.mem_of_getElem? hb))
    · obtain ⟨b2, h1, h2⟩ := (own h').uniq q h
      rw [List.mem_singleton] at h1; subst h1
      exact absurd rfl (hn3 b2 (hpm h2) b2 (List.mem_of_getElem? hb'))
    · obtain ⟨b2, h1, h2⟩ := h.uniq q h'
      exact hpu h1 h2
  refine ⟨betR β r, fun y => if h : ∃ p, Q p y then some (Classical.choose h) else none, rfl, q.fzA, q.nofr, fun j j2 x h1 h2 => ?_, fun j hj => ?_, fun j x hx => ?_, q.bdA, fun j hj => ?_, fun t => ?_, fun j B hB => ?_⟩
  · obtain ⟨b, hb, h1⟩ := Option.bind_eq_some_iff.1 h1
    obtain ⟨b2, hb2, h2⟩ := Option.bind_eq_some_iff.1 h2
    obtain rfl := q.inj _ _ _ h1 h2
    exact nodup_get hn2 hb hb2
  · simp only [betR]; rw [List.getElem?_eq_none hj]; rfl
  · obtain ⟨b, hb, h1⟩ := Option.bind_eq_some_iff.1 hx
    exact q.rng b x h1
  · show (bs[j]?).bind id = none
    cases hbj : bs[j]? with
    | none => rfl
    | some X =>
      exfalso
      have hl : bs.length = r.length := renBs_len hbs
      have := (List.getElem?_eq_some_iff.1 hbj).1
      simp only at hj
      omega
  · have one : isUn (match ren sB.H r 3 (sB.e t) with | some (v, []) => v | _ => V.dd) = true ∨ Lk (betR β r) sA.H (match ren sB.H r 3 (sB.e t) with | some (v, []) => v | _ => V.dd) (sA.e t) [] := by
      split
      · rename_i v hv
        rcases q.env t with h | h
        · left
          rw [isUn_iff.1 h] at hv
          have e : ren sB.H r 3 V.dd = some (V.dd, []) := rfl
          rw [e] at hv
          rw [← (Prod.mk.inj (Option.some.inj hv)).1]; rfl
        · right
          obtain ⟨xs, g1, _, _, g4, _⟩ := ren_sim q (r := r) 3 _ _ _ _ _ hv h
          rw [g4 rfl rfl] at g1
          exact g1
      · exact .inl rfl
    have key : ∀ E : V, E = V.dd ∨ E = (match ren sB.H r 3 (sB.e t) with | some (v, []) => v | _ => V.dd) → isUn E = true ∨ Lk (betR β r) sA.H E (sA.e t) [] := by
      rintro E (rfl | rfl)
      · exact .inl rfl
      · exact one
    exact key _ (envA_map L (fun t => match ren sB.H r 3 (sB.e t) with | some (v, []) => v | _ => V.dd) t)
  · have hB' : (bs[j]?).bind id = some B := hB
    obtain ⟨X, hX, hXB⟩ := Option.bind_eq_some_iff.1 hB'
    simp only [id] at hXB
    subst hXB
    have hjl : j < r.length := by
      rw [← renBs_len hbs]; exact (List.getElem?_eq_some_iff.1 hX).1
    obtain ⟨X, hX', hcase⟩ := hget j r[j] (List.getElem?_eq_getElem hjl)
    rw [hX] at hX'
    obtain rfl := Option.some.inj hX'
    rcases hcase with ⟨_, h⟩ | ⟨B0, es', l, hB0, hov, h⟩
    · cases h
    obtain rfl := Option.some.inj h
    obtain ⟨h0, x, A, h1, h2, h3, h4, h5⟩ := q.blk _ B0 hB0
    obtain ⟨k1, k2, k3⟩ := overL_pcs hov
    refine ⟨h0, x, A, by simp [betR, hjl, h1], h2, h3, by rw [k2]; exact h4, fun i v a _ hv ha => ?_⟩
    have hlt : i < B0.es.length := by rw [← k2]; exact (List.getElem?_eq_some_iff.1 hv).1
    obtain ⟨t, li, ht, hr⟩ := k3 i _ (List.getElem?_eq_getElem hlt)
    rw [hv] at ht; obtain rfl := Option.some.inj ht
    rcases h5 i _ a (fun h => h) (List.getElem?_eq_getElem hlt) ha with hdd | ⟨Li, hLi, hLn, hLo⟩
    · left
      rw [hdd] at hr
      have hr' : ren sB.H r DEP V.dd = some (V.dd, []) := rfl
      rw [hr'] at hr
      exact (Prod.mk.inj (Option.some.inj hr)).1.symm
    right
    have hpi : pieceOf sB.H r (j, i) = li := by
      simp only [pieceOf, List.getElem?_eq_getElem hjl, pieces, hB0, List.getD_eq_getElem?_getD, List.getElem?_map, List.getElem?_eq_getElem hlt, Option.map_some, hr, Option.getD_some]
    have hown : ∀ y ∈ Li, Rtd β ω [r[j]] y := fun y hy => ⟨_, by simp, .inr ⟨(hLo y hy).2, i, (hLo y hy).1⟩⟩
    have hnli : li.Nodup := by
      have : li.Sublist ids := by
        rw [hids]
        refine List.Sublist.trans (List.sublist_flatten_of_mem (L := pieces sB.H r r[j]) ?_) (List.sublist_flatten_of_mem (List.mem_map.2 ⟨r[j], List.getElem_mem hjl, rfl⟩))
        simp only [pieces, hB0]
        exact List.mem_map.2 ⟨B0.es[i], List.getElem_mem hlt, by simp [hr]⟩
      exact hn1.sublist this
    obtain ⟨xs, g1, g2, g3, _, _⟩ := ren_sim q (r := r) DEP _ _ _ _ _ hr hLi
    refine ⟨xs, g1, g3 hnli hLn (fun y hy hh => ?_), fun y hy => ⟨?_, fun b2 hh => ?_⟩⟩
    · obtain ⟨b, e1, e2⟩ := (hown y hy).uniq q hh
      rw [List.mem_singleton] at e1; subst e1
      exact absurd rfl (hn3 _ (hpm (p := (j, i)) (by rw [hpi]; exact e2)) _ (List.getElem_mem hjl))
    · have hq : Q (j, i) y := by
        refine ⟨r[j], List.getElem?_eq_getElem hjl, ?_⟩
        rcases g2 y hy with h | h
        · exact .inl (hLo y h)
        · right; rw [hpi]; exact h
      show (if h : ∃ p, Q p y then some (Classical.choose h) else none) = _
      have hex : ∃ p, Q p y := ⟨_, hq⟩
      rw [dif_pos hex]
      rw [hQ _ _ _ (Classical.choose_spec hex) hq]
    · obtain ⟨b, hb, h6⟩ := Option.bind_eq_some_iff.1 hh
      rcases g2 y hy with h | h
      · exact (hLo y h).2 b h6
      · have : Rtd β ω [b] y := ⟨b, by simp, .inl h6⟩
        obtain ⟨b3, e1, e2⟩ := this.uniq q h
        rw [List.mem_singleton] at e1; subst e1
        exact absurd rfl (hn3 _ (hpm (p := (j, i)) (by rw [hpi]; exact e2)) _ (List.mem_of_getElem? hb))

end Go.Am
