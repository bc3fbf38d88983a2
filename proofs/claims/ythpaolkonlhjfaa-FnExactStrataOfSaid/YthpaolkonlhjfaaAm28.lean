/- The B-machine, part 7: what is taken over. -/
import Derived.Test.YthpaolkonlhjfaaAm27
set_option linter.all false
namespace Go.Am
variable {β : Bet} {ω : Omg} {sB sA : S}

/-- Only new blocks have come. -/
structure Gr (s s1 : S) : Prop where
  e : s1.e = s.e
  fz : s1.fz = s.fz
  nx : s.nx ≤ s1.nx
  old : ∀ x, x < s.nx → s1.H x = s.H x
  bd : Bd s1
  fr : ∀ x A, s.nx ≤ x → s1.H x = some A → A.fr = false
theorem Gr.refl {s : S} (h : Bd s) : Gr s s := ⟨rfl, rfl, Nat.le_refl _, fun _ _ => rfl, h, fun x A hx hA => by rw [h x hx] at hA; cases hA⟩
theorem Gr.trans {s s1 s2 : S} (h : Gr s s1) (k : Gr s1 s2) : Gr s s2 :=
  ⟨k.e.trans h.e, k.fz.trans h.fz, Nat.le_trans h.nx k.nx, fun x hx => (k.old x (Nat.lt_of_lt_of_le hx h.nx)).trans (h.old x hx), k.bd, fun x A hx hA => by
    rcases Nat.lt_or_ge x s1.nx with h' | h'
    · rw [k.old x h'] at hA; exact h.fr x A hx hA
    · exact k.fr x A h' hA⟩
theorem Gr.new {s : S} (h : Bd s) (k : Nat) (es : List V) : Gr s (s.new k es) := by
  refine ⟨rfl, rfl, Nat.le_succ _, fun x hx => ?_, fun x hx => ?_, fun x A hx hA => ?_⟩
  · simp only [S.new]; rw [upd_ne _ _ (by omega)]
  · simp only [S.new] at hx ⊢; rw [upd_ne _ _ (by omega)]; exact h x (by omega)
  · simp only [S.new] at hA
    by_cases e : x = s.nx
    · subst e; rw [upd_same] at hA; obtain rfl := Option.some.inj hA; rfl
    · rw [upd_ne _ _ e, h x hx] at hA; cases hA

/-- Taken over, a pure tree lies packed. -/
theorem takeIn_X : ∀ (d : Nat) (t : V) (s : S), okD d t = true → Bd s → ∃ a s1 L, takeIn d t s = some (a, s1) ∧ Gr s s1 ∧ giveX d s1.H a = some (t, L) ∧ L.Nodup ∧ ∀ y ∈ L, s.nx ≤ y ∧ y < s1.nx
  | 0, _, _, h, _ => by simp [okD] at h
  | d + 1, t, s, h, hb => by
    have lst : ∀ (ts : List V) (s : S), allL (okD d) ts = true → Bd s → ∃ vs s1 L, takeL (takeIn d) ts s = some (vs, s1) ∧ Gr s s1 ∧ overL (giveX d s1.H) vs = some (ts, L) ∧ L.Nodup ∧ ∀ y ∈ L, s.nx ≤ y ∧ y < s1.nx := by
      intro ts
      induction ts with
      | nil => intro s _ hb; exact ⟨[], s, [], rfl, Gr.refl hb, rfl, List.nodup_nil, by simp⟩
      | cons t ts ih =>
        intro s h hb
        simp only [allL, Bool.and_eq_true] at h
        obtain ⟨a, s1, L1, h1, g1, x1, n1, r1⟩ := takeIn_X d t s h.1 hb
        obtain ⟨vs, s2, L2, h2, g2, x2, n2, r2⟩ := ih s1 h.2 g1.bd
        refine ⟨a :: vs, s2, L1 ++ L2, by simp only [takeL, h1, h2], g1.trans g2, ?_, ?_, fun y hy => ?_⟩
        · exact overL_mk (giveX_congr d _ _ _ x1 fun x hx => g2.old x (r1 x hx).2) x2
        · rw [List.nodup_append]
          refine ⟨n1, n2, fun y hy z hz e => ?_⟩
          subst e
          have := (r1 y hy).2; have := (r2 y hz).1; omega
        · rcases List.mem_append.1 hy with hy | hy
          · have := r1 y hy; have := g2.nx; omega
          · have := r2 y hy; have := g1.nx; omega
    cases t <;> simp only [okD, Bool.false_eq_true] at h
    case im x => exact ⟨_, s, [], rfl, Gr.refl hb, rfl, List.nodup_nil, by simp⟩
    case sl x => exact ⟨_, s, [], rfl, Gr.refl hb, rfl, List.nodup_nil, by simp⟩
    case rp x => exact ⟨_, s, [], rfl, Gr.refl hb, rfl, List.nodup_nil, by simp⟩
    case e0 => exact ⟨_, s, [], rfl, Gr.refl hb, rfl, List.nodup_nil, by simp⟩
    case cl f cs =>
      rw [List.isEmpty_iff] at h; subst h
      exact ⟨.cl f [], s, [], rfl, Gr.refl hb, by simp [giveX], List.nodup_nil, by simp⟩
    case st cs =>
      obtain ⟨vs, s1, L, h1, g, x, n, r⟩ := lst cs s h hb
      exact ⟨.st vs, s1, L, by simp only [takeIn, h1], g, by simp only [giveX, x], n, r⟩
    case ow k es =>
      obtain ⟨vs, s1, L, h1, g, x, n, r⟩ := lst es s h hb
      have g2 := Gr.new g.bd k vs
      refine ⟨.hs s1.nx 0 vs.length vs.length, s1.new k vs, s1.nx :: L, by simp only [takeIn, h1], g.trans g2, ?_, ?_, fun y hy => ?_⟩
      · simp only [giveX, S.new, upd_same, and_self, if_true]
        have : overL (giveX d (upd s1.H s1.nx (some { k, es := vs }))) vs = some (es, L) := overL_imp (fun v _ t L' h3 h4 => giveX_congr d v t L' h3 fun y hy => by rw [upd_ne]; have := (r y (h4 y hy)).2; omega) x
        rw [this]
      · rw [List.nodup_cons]; exact ⟨fun hh => by have := (r _ hh).2; omega, n⟩
      · rcases List.mem_cons.1 hy with rfl | hy
        · have := g.nx; simp only [S.new]; omega
        · have := r y hy; simp only [S.new]; omega
    case op v =>
      obtain ⟨a, s1, L, h1, g, x, n, r⟩ := takeIn_X d v s h hb
      have g2 := Gr.new g.bd a.size [a]
      refine ⟨.hp s1.nx 0, s1.new a.size [a], s1.nx :: L, by simp only [takeIn, h1], g.trans g2, ?_, ?_, fun y hy => ?_⟩
      · simp only [giveX, S.new, upd_same, if_true]
        rw [giveX_congr d a v L x fun y hy => by rw [upd_ne]; have := (r y hy).2; omega]
        simp only [giveX_size x, if_true]
      · rw [List.nodup_cons]; exact ⟨fun hh => by have := (r _ hh).2; omega, n⟩
      · rcases List.mem_cons.1 hy with rfl | hy
        · have := g.nx; simp only [S.new]; omega
        · have := r y hy; simp only [S.new]; omega

theorem takeInL_X {d : Nat} : ∀ (ts : List V) (s : S), allL (okD d) ts = true → Bd s → ∃ vs s1 L, takeL (takeIn d) ts s = some (vs, s1) ∧ Gr s s1 ∧ overL (giveX d s1.H) vs = some (ts, L) ∧ L.Nodup ∧ ∀ y ∈ L, s.nx ≤ y ∧ y < s1.nx
  | [], s, _, hb => ⟨[], s, [], rfl, Gr.refl hb, rfl, List.nodup_nil, by simp⟩
  | t :: ts, s, h, hb => by
    simp only [allL, Bool.and_eq_true] at h
    obtain ⟨a, s1, L1, h1, g1, x1, n1, r1⟩ := takeIn_X d t s h.1 hb
    obtain ⟨vs, s2, L2, h2, g2, x2, n2, r2⟩ := takeInL_X ts s1 h.2 g1.bd
    refine ⟨a :: vs, s2, L1 ++ L2, by simp only [takeL, h1, h2], g1.trans g2, ?_, ?_, fun y hy => ?_⟩
    · exact overL_mk (giveX_congr d _ _ _ x1 fun x hx => g2.old x (r1 x hx).2) x2
    · rw [List.nodup_append]
      refine ⟨n1, n2, fun y hy z hz e => ?_⟩
      subst e
      have := (r1 y hy).2; have := (r2 y hz).1; omega
    · rcases List.mem_append.1 hy with hy | hy
      · have := r1 y hy; have := g2.nx; omega
      · have := r2 y hy; have := g1.nx; omega

/-- On A's side new blocks come. -/
theorem Sim.grow {ep : Nat → Nat → Prop} {s1 : S} (q : Sim β ω ep sB sA) (g : Gr sA s1) : Sim β ω ep sB s1 := by
  refine ⟨q.fzB, g.fz.trans q.fzA, fun x A hA => ?_, q.inj, q.dom, fun b x hx => Nat.lt_of_lt_of_le (q.rng b x hx) g.nx, g.bd, q.bdB, fun t => ?_, fun b B hB => ?_⟩
  · rcases Nat.lt_or_ge x sA.nx with h | h
    · rw [g.old x h] at hA; exact q.nofr x A hA
    · exact g.fr x A h hA
  · rw [g.e]
    rcases q.env t with h | h
    · exact .inl h
    · exact .inr (Lk.nil (fun _ _ h => h) h)
  · obtain ⟨h0, x, A, h1, h2, h3, h4, h5⟩ := q.blk b B hB
    refine ⟨h0, x, A, h1, by rw [g.old x (q.rng b x h1)]; exact h2, h3, h4, fun i v a hi hv ha => ?_⟩
    exact (h5 i v a hi hv ha).frame (fun _ _ h => h) fun y hy h6 h7 => ⟨g.old y (q.there hy), h6, h7⟩

/-- Elements that have just been taken over. -/
theorem elts_new {H : Nat → Option Blk} {d b : Nat} {es vs : List V} {L : List Nat} (h : overL (giveX d H) vs = some (es, L)) (hn : L.Nodup) (hp : PurL es) (hβ : ∀ y ∈ L, ∀ b2, β b2 ≠ some y) {ω' : Omg}
    (hω : ∀ (Ls : List (List Nat)), Ls.flatten = L → ∀ y ∈ L, ω' y = some (b, ownr Ls y)) : ∀ i v a, es[i]? = some v → vs[i]? = some a → Elt β ω' H b i v a := by
  intro i v a hv ha
  obtain ⟨Ls, h1, h2, h3, h4⟩ := overL_split h
  obtain ⟨l, hl1, hl2⟩ := h4 i a v ha hv
  have hlL : ∀ z ∈ l, z ∈ L := fun z hz => by rw [← h1]; exact List.mem_flatten.2 ⟨l, List.mem_of_getElem? hl1, hz⟩
  have hsub : l.Sublist L := by rw [← h1]; exact List.sublist_flatten_of_mem (List.mem_of_getElem? hl1)
  refine .inr ⟨l, Lk_of_giveX d a v l hl2 (PurL_iff.1 hp v (List.mem_of_getElem? hv)), hn.sublist hsub, fun y hy => ⟨?_, hβ y (hlL y hy)⟩⟩
  rw [hω Ls h1 y (hlL y hy), ownr_spec (by rw [h1]; exact hn) hl1 hy]

theorem split_ex {f : V → Option (V × List Nat)} {es0 es : List V} {L : List Nat} (h : overL f es0 = some (es, L)) : ∃ Ls : List (List Nat), Ls.flatten = L ∧ Ls.length = es.length ∧ es0.length = es.length ∧ ∀ (j : Nat) (a v : V), es0[j]? = some a → es[j]? = some v → ∃ l, Ls[j]? = some l ∧ f a = some (v, l) := overL_split h

/-- What the callee hands back is taken over. -/
theorem takeB_sim : ∀ (d : Nat) {β : Bet} {ω : Omg} {sB sA : S} (t v : V) (sB' : S), Sim β ω no2 sB sA → Pur t → takeB d t sB = some (v, sB') →
    ∃ β' ω' a sA', takeIn d t sA = some (a, sA') ∧ Sim β' ω' no2 sB' sA' ∧ Lk β' sA'.H v a [] ∧ ∀ b x, β b = some x → β' b = some x
  | 0, _, _, _, _, _, _, _, _, _, h => by simp [takeB] at h
  | d + 1, β, ω, sB, sA, t, v, sB', q, hp, h => by
    have lst : ∀ (ts : List V) {β : Bet} {ω : Omg} {sB sA : S} (vs : List V) (sB' : S), Sim β ω no2 sB sA → PurL ts → takeL (takeB d) ts sB = some (vs, sB') →
        ∃ β' ω' as sA', takeL (takeIn d) ts sA = some (as, sA') ∧ Sim β' ω' no2 sB' sA' ∧ LkL β' sA'.H vs as [] ∧ ∀ b x, β b = some x → β' b = some x := by
      intro ts
      induction ts with
      | nil =>
        intro β ω sB sA vs sB' q _ h
        simp only [takeL, Option.some.injEq, Prod.mk.injEq] at h
        obtain ⟨rfl, rfl⟩ := h
        exact ⟨β, ω, [], sA, rfl, q, by simp [LkL], fun _ _ h => h⟩
      | cons t ts ih =>
        intro β ω sB sA vs sB' q hp h
        simp only [PurL] at hp
        simp only [takeL] at h
        split at h
        case h_2 => cases h
        rename_i v s1 hv
        split at h
        case h_2 => cases h
        rename_i vs' s2 hvs
        obtain ⟨rfl, rfl⟩ := Prod.mk.inj (Option.some.inj h)
        obtain ⟨β1, ω1, a, sA1, h1, q1, l1, m1⟩ := takeB_sim d t v s1 q hp.1 hv
        obtain ⟨β2, ω2, as, sA2, h2, q2, l2, m2⟩ := ih vs' s2 q1 hp.2 hvs
        refine ⟨β2, ω2, a :: as, sA2, by simp only [takeL, h1, h2], q2, ?_, fun b x hx => m2 b x (m1 b x hx)⟩
        simp only [LkL]; exact ⟨a, as, [], [], rfl, rfl, Lk.nil m2 l1, l2⟩
    cases t <;> simp only [takeB] at h
    case im x => obtain ⟨rfl, rfl⟩ := Prod.mk.inj (Option.some.inj h); exact ⟨β, ω, _, sA, rfl, q, by simp [Lk], fun _ _ h => h⟩
    case e0 => obtain ⟨rfl, rfl⟩ := Prod.mk.inj (Option.some.inj h); exact ⟨β, ω, _, sA, rfl, q, by simp [Lk], fun _ _ h => h⟩
    case sl es => obtain ⟨rfl, rfl⟩ := Prod.mk.inj (Option.some.inj h); simp only [Pur] at hp; exact ⟨β, ω, _, sA, rfl, q, by simp [Lk, hp], fun _ _ h => h⟩
    case rp u => obtain ⟨rfl, rfl⟩ := Prod.mk.inj (Option.some.inj h); simp only [Pur] at hp; exact ⟨β, ω, _, sA, rfl, q, by simp [Lk, hp], fun _ _ h => h⟩
    case st cs =>
      split at h
      case h_2 => cases h
      rename_i vs s1 hvs
      obtain ⟨rfl, rfl⟩ := Prod.mk.inj (Option.some.inj h)
      simp only [Pur] at hp
      obtain ⟨β', ω', as, sA', h1, h2, h3, h4⟩ := lst cs vs s1 q hp hvs
      exact ⟨β', ω', .st as, sA', by simp only [takeIn, h1], h2, by simp only [Lk]; exact ⟨as, rfl, h3⟩, h4⟩
    case tu cs =>
      split at h
      case h_2 => cases h
      rename_i vs s1 hvs
      obtain ⟨rfl, rfl⟩ := Prod.mk.inj (Option.some.inj h)
      simp only [Pur] at hp
      obtain ⟨β', ω', as, sA', h1, h2, h3, h4⟩ := lst cs vs s1 q hp hvs
      exact ⟨β', ω', .tu as, sA', by simp only [takeIn, h1], h2, by simp only [Lk]; exact ⟨as, rfl, h3⟩, h4⟩
    case cl f cs =>
      split at h
      case h_2 => cases h
      rename_i vs s1 hvs
      obtain ⟨rfl, rfl⟩ := Prod.mk.inj (Option.some.inj h)
      simp only [Pur] at hp
      obtain ⟨β', ω', as, sA', h1, h2, h3, h4⟩ := lst cs vs s1 q hp hvs
      exact ⟨β', ω', .cl f as, sA', by simp only [takeIn, h1], h2, by simp only [Lk, and_true]; exact ⟨as, rfl, h3⟩, h4⟩
    case ow k es =>
      split at h
      case isFalse => cases h
      rename_i hok
      obtain ⟨rfl, rfl⟩ := Prod.mk.inj (Option.some.inj h)
      simp only [Pur] at hp
      simp only [okD] at hok
      obtain ⟨vs, s1, L, h1, g, x, n, r⟩ := takeInL_X es sA hok q.bdA
      obtain ⟨Ls, e1, e2, e3, e4⟩ := split_ex x
      have hβ : ∀ y ∈ L, ∀ b2, β b2 ≠ some y := fun y hy b2 hh => by have := q.rng b2 y hh; have := (r y hy).1; omega
      have q1 := ((q.omega (ω' := fun y => if sA.nx ≤ y then none else ω y) (fun y hy => if_neg (by have := q.there hy; omega))).grow g)
      have q2 := q1.new (ω' := fun y => if y ∈ L then some (sB.nx, ownr Ls y) else if sA.nx ≤ y then none else ω y) (k := k) (es := es) (as := vs) e3 (fun i v a hv ha => ?_) (fun y p hy _ _ _ _ => ?_)
      · refine ⟨_, _, .hs s1.nx 0 vs.length vs.length, _, by simp only [takeIn, h1], q2, ?_, upd_beta (q.dom _ (Nat.le_refl _))⟩
        simp only [Lk, and_true]; exact ⟨_, upd_same _ _ _, by rw [e3]⟩
      · obtain ⟨l, hl1, hl2⟩ := e4 i a v ha hv
        have hlL : ∀ z ∈ l, z ∈ L := fun z hz => by rw [← e1]; exact List.mem_flatten.2 ⟨l, List.mem_of_getElem? hl1, hz⟩
        have hsub : l.Sublist L := by rw [← e1]; exact List.sublist_flatten_of_mem (List.mem_of_getElem? hl1)
        refine .inr ⟨l, Lk_of_giveX d a v l hl2 (PurL_iff.1 hp v (List.mem_of_getElem? hv)), n.sublist hsub, fun y hy => ⟨?_, hβ y (hlL y hy)⟩⟩
        show (if y ∈ L then some (sB.nx, ownr Ls y) else if sA.nx ≤ y then none else ω y) = _
        rw [if_pos (hlL y hy), ownr_spec (by rw [e1]; exact n) hl1 hy]
      · rw [if_neg]
        · exact hy
        · intro hyL
          have := (r y hyL).1
          have hy' : (if sA.nx ≤ y then none else ω y) = some p := hy
          rw [if_pos this] at hy'; cases hy'
    case op u =>
      split at h
      case isFalse => cases h
      rename_i hok
      obtain ⟨rfl, rfl⟩ := Prod.mk.inj (Option.some.inj h)
      simp only [Pur] at hp
      simp only [okD] at hok
      obtain ⟨a, s1, L, h1, g, x, n, r⟩ := takeIn_X d u sA hok q.bdA
      have hβ : ∀ y ∈ L, ∀ b2, β b2 ≠ some y := fun y hy b2 hh => by have := q.rng b2 y hh; have := (r y hy).1; omega
      have q1 := ((q.omega (ω' := fun y => if sA.nx ≤ y then none else ω y) (fun y hy => if_neg (by have := q.there hy; omega))).grow g)
      have hsz : u.size = a.size := giveX_size x
      have q2 := q1.new (ω' := fun y => if y ∈ L then some (sB.nx, 0) else if sA.nx ≤ y then none else ω y) (k := u.size) (es := [u]) (as := [a]) rfl (fun i v w hv hw => ?_) (fun y p hy _ _ _ _ => ?_)
      · refine ⟨_, _, .hp s1.nx 0, s1.new u.size [a], by simp only [takeIn, h1]; rw [hsz], q2, ?_, upd_beta (q.dom _ (Nat.le_refl _))⟩
        simp only [Lk, and_true]; exact ⟨_, upd_same _ _ _, rfl⟩
      · cases i with
        | succ i => simp at hv
        | zero =>
          simp at hv hw
          subst hv hw
          refine .inr ⟨L, Lk_of_giveX d _ _ L x hp, n, fun y hy => ⟨?_, hβ y hy⟩⟩
          exact if_pos hy
      · rw [if_neg]
        · exact hy
        · intro hyL
          have := (r y hyL).1
          have hy' : (if sA.nx ≤ y then none else ω y) = some p := hy
          rw [if_pos this] at hy'; cases hy'
    all_goals cases h

end Go.Am
