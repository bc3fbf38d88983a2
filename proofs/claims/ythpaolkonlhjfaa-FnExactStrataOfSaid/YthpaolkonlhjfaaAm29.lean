/- The B-machine, part 8: what is handed over, what is read. -/
import Derived.Test.YthpaolkonlhjfaaAm28
set_option linter.all false
namespace Go.Am
variable {β : Bet} {ω : Omg} {sB sA : S}

theorem giveX_give {H : Nat → Option Blk} : ∀ (d d0 : Nat) (a t : V) (L : List Nat), giveX d0 H a = some (t, L) → okD d t = true → give d H a = some (t, L)
  | 0, _, _, _, _, _, h => by simp [okD] at h
  | _ + 1, 0, _, _, _, h, _ => by simp [giveX] at h
  | d + 1, d0 + 1, a, t, L, h, hk => by
    have lst : ∀ (cs ts : List V) (L : List Nat), overL (giveX d0 H) cs = some (ts, L) → allL (okD d) ts = true → overL (give d H) cs = some (ts, L) := by
      intro cs
      induction cs with
      | nil => intro ts L h _; exact h
      | cons c cs ih =>
        intro ts L h hk
        obtain ⟨t, ts', i, j, h2, h3, rfl, rfl⟩ := overL_cons h
        simp only [allL, Bool.and_eq_true] at hk
        exact overL_mk (giveX_give d d0 c t i h2 hk.1) (ih _ _ h3 hk.2)
    cases a <;> simp only [giveX] at h <;> try (cases h; done)
    case im => simpa only [give] using h
    case sl => simpa only [give] using h
    case rp => simpa only [give] using h
    case e0 => simpa only [give] using h
    case st cs =>
      split at h
      · rename_i h1
        obtain ⟨rfl, rfl⟩ := Prod.mk.inj (Option.some.inj h)
        simp only [okD] at hk
        simp only [give, lst _ _ _ h1 hk]
      · cases h
    case cl f cs =>
      split at h
      · rename_i h1
        obtain ⟨rfl, rfl⟩ := Prod.mk.inj (Option.some.inj h)
        subst h1
        simp [give, overL]
      · cases h
    case hs b off n c =>
      split at h
      · rename_i B hB
        split at h
        · rename_i hc
          obtain ⟨rfl, rfl, rfl⟩ := hc
          split at h
          · rename_i h1
            obtain ⟨rfl, rfl⟩ := Prod.mk.inj (Option.some.inj h)
            simp only [okD] at hk
            simp only [give, hB]
            rw [if_pos (by omega)]
            simp only [List.drop_zero, List.take_length, lst _ _ _ h1 hk]
          · cases h
        · cases h
      · cases h
    case hp b i =>
      split at h
      · rename_i B hB
        split at h
        · rename_i hc
          subst hc
          split at h
          · rename_i e he
            split at h
            · rename_i t' j h1
              split at h
              · obtain ⟨rfl, rfl⟩ := Prod.mk.inj (Option.some.inj h)
                simp only [okD] at hk
                simp only [give, hB, he, List.length_singleton, and_self, if_true]
                simp only [overL, giveX_give d d0 _ _ _ h1 hk, List.append_nil]
              · cases h
            · cases h
          · cases h
        · cases h
      · cases h

theorem roT_list {d : Nat} : ∀ {es rs : List V} {L : List Nat}, overL (fun c => (roT d c).map fun t => (t, ([] : List Nat))) es = some (rs, L) → L = [] ∧ rs.length = es.length ∧ ∀ (i : Nat) (e r : V), es[i]? = some e → rs[i]? = some r → roT d e = some r
  | [], rs, L, h => by simp only [overL, Option.some.injEq, Prod.mk.injEq] at h; obtain ⟨rfl, rfl⟩ := h; exact ⟨rfl, rfl, fun i e r h => by simp at h⟩
  | e :: es, rs, L, h => by
    obtain ⟨t, ts', i, j, h2, h3, rfl, rfl⟩ := overL_cons h
    obtain ⟨x, hx, hh⟩ := Option.map_eq_some_iff.1 h2
    obtain ⟨rfl, rfl⟩ := Prod.mk.inj hh
    obtain ⟨rfl, h4, h5⟩ := roT_list h3
    refine ⟨rfl, by simp [h4], fun k e' r hk hk' => ?_⟩
    cases k with
    | zero => simp at hk hk'; subst hk hk'; exact hx
    | succ k => exact h5 k e' r (by simpa using hk) (by simpa using hk')

theorem giveX_snap {H : Nat → Option Blk} : ∀ (d d0 : Nat) (a t r : V) (L : List Nat), giveX d0 H a = some (t, L) → roT d t = some r → ∃ xs, snap d H a = some (r, xs) ∧ ∀ x ∈ xs, x ∈ L
  | 0, _, _, _, _, _, _, h => by simp [roT] at h
  | _ + 1, 0, _, _, _, _, h, _ => by simp [giveX] at h
  | d + 1, d0 + 1, a, t, r, L, h, hk => by
    have lst : ∀ (cs ts rs : List V) (L L' : List Nat), overL (giveX d0 H) cs = some (ts, L) → overL (fun c => (roT d c).map fun t => (t, ([] : List Nat))) ts = some (rs, L') → ∃ xs, overL (snap d H) cs = some (rs, xs) ∧ ∀ x ∈ xs, x ∈ L := by
      intro cs
      induction cs with
      | nil => intro ts rs L L' h hr; simp only [overL, Option.some.injEq, Prod.mk.injEq] at h; obtain ⟨rfl, rfl⟩ := h; simp only [overL, Option.some.injEq, Prod.mk.injEq] at hr; obtain ⟨rfl, rfl⟩ := hr; exact ⟨[], rfl, by simp⟩
      | cons c cs ih =>
        intro ts rs L L' h hr
        obtain ⟨t, ts', i, j, h2, h3, rfl, rfl⟩ := overL_cons h
        obtain ⟨r, rs', i', j', h5, h6, rfl, rfl⟩ := overL_cons hr
        obtain ⟨x, hx, hh⟩ := Option.map_eq_some_iff.1 h5
        obtain ⟨rfl, rfl⟩ := Prod.mk.inj hh
        obtain ⟨xs1, g1, g2⟩ := giveX_snap d d0 c t x i h2 hx
        obtain ⟨xs2, g3, g4⟩ := ih _ _ _ _ h3 h6
        exact ⟨xs1 ++ xs2, overL_mk g1 g3, fun y hy => by rcases List.mem_append.1 hy with h | h; exact List.mem_append_left _ (g2 y h); exact List.mem_append_right _ (g4 y h)⟩
    cases a <;> simp only [giveX] at h <;> try (cases h; done)
    case im => obtain ⟨rfl, rfl⟩ := Prod.mk.inj (Option.some.inj h); simp only [roT, Option.some.injEq] at hk; subst hk; exact ⟨[], rfl, by simp⟩
    case sl => obtain ⟨rfl, rfl⟩ := Prod.mk.inj (Option.some.inj h); simp only [roT, Option.some.injEq] at hk; subst hk; exact ⟨[], rfl, by simp⟩
    case rp => obtain ⟨rfl, rfl⟩ := Prod.mk.inj (Option.some.inj h); simp only [roT, Option.some.injEq] at hk; subst hk; exact ⟨[], rfl, by simp⟩
    case e0 => obtain ⟨rfl, rfl⟩ := Prod.mk.inj (Option.some.inj h); simp only [roT, Option.some.injEq] at hk; subst hk; exact ⟨[], rfl, by simp⟩
    case st cs =>
      split at h
      · rename_i h1
        obtain ⟨rfl, rfl⟩ := Prod.mk.inj (Option.some.inj h)
        simp only [roT] at hk
        obtain ⟨rs, hr, rfl⟩ := Option.map_eq_some_iff.1 hk
        split at hr
        · rename_i rs' L' hrs
          obtain rfl := Option.some.inj hr
          obtain ⟨xs, g1, g2⟩ := lst _ _ _ _ _ h1 hrs
          exact ⟨xs, by simp only [snap, g1], g2⟩
        · cases hr
      · cases h
    case cl f cs =>
      split at h
      · rename_i h1
        obtain ⟨rfl, rfl⟩ := Prod.mk.inj (Option.some.inj h)
        subst h1
        simp only [roT, overL, Option.map_some, Option.some.injEq] at hk
        subst hk
        exact ⟨[], by simp [snap, overL], by simp⟩
      · cases h
    case hs b off n c =>
      split at h
      · rename_i B hB
        split at h
        · rename_i hc
          obtain ⟨rfl, rfl, rfl⟩ := hc
          split at h
          · rename_i h1
            obtain ⟨rfl, rfl⟩ := Prod.mk.inj (Option.some.inj h)
            simp only [roT] at hk
            obtain ⟨rs, hr, rfl⟩ := Option.map_eq_some_iff.1 hk
            split at hr
            · rename_i rs' L' hrs
              obtain rfl := Option.some.inj hr
              obtain ⟨xs, g1, g2⟩ := lst _ _ _ _ _ h1 hrs
              simp only [snap]
              split
              · rename_i hn
                have he : B.es = [] := List.length_eq_zero_iff.1 hn
                rw [he] at h1
                simp only [overL, Option.some.injEq, Prod.mk.injEq] at h1
                obtain ⟨rfl, rfl⟩ := h1
                simp only [overL, Option.some.injEq, Prod.mk.injEq] at hrs
                obtain ⟨rfl, rfl⟩ := hrs
                exact ⟨[], rfl, by simp⟩
              · simp only [hB]
                rw [if_pos (by omega)]
                simp only [List.drop_zero, List.take_length, g1]
                exact ⟨b :: xs, rfl, fun y hy => by rcases List.mem_cons.1 hy with rfl | h; simp; exact List.mem_cons_of_mem _ (g2 y h)⟩
            · cases hr
          · cases h
        · cases h
      · cases h
    case hp b i =>
      split at h
      · rename_i B hB
        split at h
        · rename_i hc
          subst hc
          split at h
          · rename_i e he
            split at h
            · rename_i t' j h1
              split at h
              · obtain ⟨rfl, rfl⟩ := Prod.mk.inj (Option.some.inj h)
                simp only [roT] at hk
                obtain ⟨x, hx, rfl⟩ := Option.map_eq_some_iff.1 hk
                obtain ⟨xs, g1, g2⟩ := giveX_snap d d0 e t' x j h1 hx
                simp only [snap, hB, he, List.getElem?_cons_zero, g1]
                exact ⟨b :: xs, rfl, fun y hy => by rcases List.mem_cons.1 hy with rfl | h; simp; exact List.mem_cons_of_mem _ (g2 y h)⟩
              · cases h
            · cases h
          · cases h
        · cases h
      · cases h

theorem roT_ror : ∀ (d : Nat) (t r : V), roT d t = some r → Pur t → Ror r
  | 0, _, _, h, _ => by simp [roT] at h
  | d + 1, t, r, h, hp => by
    have lst : ∀ (ts rs : List V) (L' : List Nat), overL (fun c => (roT d c).map fun t => (t, ([] : List Nat))) ts = some (rs, L') → PurL ts → RorL rs := by
      intro ts rs L' h hp
      obtain ⟨_, h2, h3⟩ := roT_list h
      rw [RorL_iff]
      intro v hv
      obtain ⟨i, hi⟩ := List.mem_iff_getElem?.1 hv
      have hlt : i < ts.length := by rw [← h2]; exact (List.getElem?_eq_some_iff.1 hi).1
      exact roT_ror d _ _ (h3 i ts[i] v (List.getElem?_eq_getElem hlt) hi) (PurL_iff.1 hp _ (List.getElem_mem hlt))
    cases t <;> simp only [roT] at h <;> try (cases h; done)
    case im => obtain rfl := Option.some.inj h; trivial
    case e0 => obtain rfl := Option.some.inj h; simp [Ror, RorL]
    case sl => obtain rfl := Option.some.inj h; simpa only [Ror, Pur] using hp
    case rp => obtain rfl := Option.some.inj h; simpa only [Ror, Pur] using hp
    case op v =>
      obtain ⟨x, hx, rfl⟩ := Option.map_eq_some_iff.1 h
      simp only [Pur] at hp
      simp only [Ror]; exact roT_ror d v x hx hp
    all_goals
      obtain ⟨rs, hr, rfl⟩ := Option.map_eq_some_iff.1 h
      split at hr
      · rename_i rs' L' hrs
        obtain rfl := Option.some.inj hr
        simp only [Pur] at hp
        simp only [Ror]; exact lst _ _ _ hrs hp
      · cases hr

/-- The block of B that a block of A belongs to is one of these. -/
def Rtd (β : Bet) (ω : Omg) (os : List Nat) (x : Nat) : Prop := ∃ b ∈ os, β b = some x ∨ ((∀ b2, β b2 ≠ some x) ∧ ∃ i, ω x = some (b, i))
theorem Rtd.mono {os os' : List Nat} {x : Nat} (h : Rtd β ω os x) (hs : ∀ b ∈ os, b ∈ os') : Rtd β ω os' x := let ⟨b, hb, h⟩ := h; ⟨b, hs b hb, h⟩

/-- One block of A belongs to one block of B. -/
theorem Rtd.uniq {ep : Nat → Nat → Prop} (q : Sim β ω ep sB sA) {os os' : List Nat} {x : Nat} (h : Rtd β ω os x) (h' : Rtd β ω os' x) : ∃ b, b ∈ os ∧ b ∈ os' := by
  obtain ⟨b, hb, h⟩ := h
  obtain ⟨b', hb', h'⟩ := h'
  refine ⟨b, hb, ?_⟩
  rcases h with h | ⟨h1, i, h2⟩ <;> rcases h' with h' | ⟨h1', i', h2'⟩
  · rw [q.inj _ _ _ h h']; exact hb'
  · exact absurd h (h1' b)
  · exact absurd h' (h1 b')
  · rw [h2] at h2'; cases h2'; exact hb'

theorem overL_ne {f : V → Option (V × List Nat)} (hf : f V.dd = none) : ∀ {vs ts : List V} {L : List Nat}, overL f vs = some (ts, L) → ∀ v ∈ vs, v ≠ V.dd
  | [], _, _, _ => by simp
  | v :: vs, ts, L, h => by
    obtain ⟨t, ts', L1, L2, rfl, rfl, h1, h2⟩ := overL_cons' h
    intro u hu
    rcases List.mem_cons.1 hu with rfl | hu
    · rintro rfl; rw [hf] at h1; cases h1
    · exact overL_ne hf h2 u hu
theorem giveB_dd {d : Nat} {H : Nat → Option Blk} : giveB d H V.dd = none := by cases d <;> rfl
theorem snapB_dd {d : Nat} {H : Nat → Option Blk} : snapB d H V.dd = none := by cases d <;> rfl
theorem packB_dd {d : Nat} {H : Nat → Option Blk} : packB d H V.dd = none := by cases d <;> rfl
theorem one_ne {f : V → Option (V × List Nat)} (hf : f V.dd = none) {B : Blk} {e : V} {r : V × List Nat} (he : B.es = [e]) (h : f e = some r) : ∀ v ∈ (B.es.drop 0).take 1, v ≠ V.dd := by
  rw [he]
  intro v hv
  obtain rfl : v = e := by simpa using hv
  rintro rfl; rw [hf] at h; cases h

/-- The elements of a block, their packed memory together. -/
theorem seg_lk {b : Nat} {H : Nat → Option Blk} : ∀ (es as : List V) (i0 : Nat), as.length = es.length → (∀ v ∈ es, v ≠ V.dd) → (∀ i v a, es[i]? = some v → as[i]? = some a → Elt β ω H b (i0 + i) v a) →
    ∃ L, LkL β H es as L ∧ L.Nodup ∧ ∀ y ∈ L, (∃ i, i0 ≤ i ∧ ω y = some (b, i)) ∧ ∀ b2, β b2 ≠ some y
  | [], as, i0, hl, _, _ => ⟨[], by simp only [LkL]; exact ⟨List.length_eq_zero_iff.1 hl, trivial⟩, List.nodup_nil, by simp⟩
  | v :: es, [], i0, hl, _, _ => by simp at hl
  | v :: es, a :: as, i0, hl, hd, he => by
    obtain ⟨L1, h1, n1, o1⟩ := (he 0 v a rfl rfl).resolve_left (hd v (by simp))
    obtain ⟨L2, h2, n2, o2⟩ := seg_lk es as (i0 + 1) (by simpa using hl) (fun v hv => hd v (by simp [hv])) (fun i v' a' hv ha => by
      have := he (i + 1) v' a' (by simpa using hv) (by simpa using ha)
      rwa [show i0 + (i + 1) = i0 + 1 + i by omega] at this)
    refine ⟨L1 ++ L2, by simp only [LkL]; exact ⟨a, as, L1, L2, rfl, rfl, h1, h2⟩, ?_, fun y hy => ?_⟩
    · rw [List.nodup_append]
      refine ⟨n1, n2, fun y hy z hz e => ?_⟩
      subst e
      obtain ⟨i, hi, h3⟩ := (o2 y hz).1
      have h4 := (o1 y hy).1
      rw [h3] at h4; cases h4; omega
    · rcases List.mem_append.1 hy with hy | hy
      · exact ⟨⟨_, by omega, (o1 y hy).1⟩, (o1 y hy).2⟩
      · obtain ⟨⟨i, hi, h3⟩, h4⟩ := o2 y hy
        exact ⟨⟨i, by omega, h3⟩, h4⟩

theorem seg_of {ep : Nat → Nat → Prop} (q : Sim β ω ep sB sA) (hep : ∀ b i, ¬ ep b i) {b x : Nat} {B : Blk} (hB : sB.H b = some B) (hx : β b = some x) (off n : Nat) (hd : ∀ v ∈ (B.es.drop off).take n, v ≠ V.dd) : ∃ A L, sA.H x = some A ∧ A.k = B.k ∧ A.es.length = B.es.length ∧ A.fr = false ∧
    LkL β sA.H ((B.es.drop off).take n) ((A.es.drop off).take n) L ∧ L.Nodup ∧ (∀ y ∈ L, Rtd β ω [b] y ∧ ∀ b2, β b2 ≠ some y) := by
  obtain ⟨A, hA, hk, hfr, _, hal, he⟩ := q.get hB hx
  obtain ⟨L, h1, h2, h3⟩ := seg_lk (β := β) (ω := ω) (b := b) (H := sA.H) ((B.es.drop off).take n) ((A.es.drop off).take n) off (by simp [hal]) hd (fun i v a hv ha => by
    rw [List.getElem?_take] at hv ha
    split at hv
    · rename_i hi
      rw [if_pos hi] at ha
      rw [List.getElem?_drop] at hv ha
      exact he _ v a (hep _ _) hv ha
    · cases hv)
  refine ⟨A, L, hA, hk, hal, hfr, h1, h2, fun y hy => ⟨?_, (h3 y hy).2⟩⟩
  obtain ⟨⟨i, _, h4⟩, h5⟩ := h3 y hy
  exact ⟨b, by simp, .inr ⟨h5, i, h4⟩⟩

/-- Handed over in B, handed over in A. -/
theorem giveB_sim (q : Sim β ω no2 sB sA) : ∀ (d : Nat) (v t a : V) (os L : List Nat), giveB d sB.H v = some (t, os) → Lk β sA.H v a L →
    ∃ xs, give d sA.H a = some (t, xs) ∧ (∀ x ∈ xs, x ∈ L ∨ Rtd β ω os x) ∧ (os.Nodup → L.Nodup → (∀ y ∈ L, ¬ Rtd β ω os y) → xs.Nodup) ∧ Pur t
  | 0, _, _, _, _, _, h, _ => by simp [giveB] at h
  | d + 1, v, t, a, os, L, h, hl => by
    have lst : ∀ (vs ts as : List V) (os L : List Nat), overL (giveB d sB.H) vs = some (ts, os) → LkL β sA.H vs as L →
        ∃ xs, overL (give d sA.H) as = some (ts, xs) ∧ (∀ x ∈ xs, x ∈ L ∨ Rtd β ω os x) ∧ (os.Nodup → L.Nodup → (∀ y ∈ L, ¬ Rtd β ω os y) → xs.Nodup) ∧ PurL ts := by
      intro vs
      induction vs with
      | nil =>
        intro ts as os L h hl
        simp only [overL, Option.some.injEq, Prod.mk.injEq] at h
        obtain ⟨rfl, rfl⟩ := h
        simp only [LkL] at hl
        obtain ⟨rfl, rfl⟩ := hl
        exact ⟨[], rfl, by simp, fun _ _ _ => List.nodup_nil, trivial⟩
      | cons v vs ih =>
        intro ts as os L h hl
        obtain ⟨t, ts', o1, o2, h2, h3, rfl, rfl⟩ := overL_cons h
        obtain ⟨a, as', L1, L2, rfl, rfl, l1, l2⟩ := LkL_cons_inv hl
        obtain ⟨xs1, g1, g2, g3, g4⟩ := giveB_sim q d v t a o1 L1 h2 l1
        obtain ⟨xs2, k1, k2, k3, k4⟩ := ih _ _ _ _ h3 l2
        refine ⟨xs1 ++ xs2, overL_mk g1 k1, fun x hx => ?_, fun hn hL hd => ?_, ⟨g4, k4⟩⟩
        · rcases List.mem_append.1 hx with hx | hx
          · rcases g2 x hx with h | h
            · exact .inl (by simp [h])
            · exact .inr (h.mono (by simp +contextual))
          · rcases k2 x hx with h | h
            · exact .inl (by simp [h])
            · exact .inr (h.mono (by simp +contextual))
        · rw [List.nodup_append] at hn hL ⊢
          refine ⟨g3 hn.1 hL.1 (fun y hy hh => hd y (by simp [hy]) (hh.mono (by simp +contextual))), k3 hn.2.1 hL.2.1 (fun y hy hh => hd y (by simp [hy]) (hh.mono (by simp +contextual))), fun x hx y hy e => ?_⟩
          subst e
          rcases g2 x hx with h | h <;> rcases k2 x hy with h' | h'
          · exact hL.2.2 x h x h' rfl
          · exact hd x (by simp [h]) (h'.mono (by simp +contextual))
          · exact hd x (by simp [h']) (h.mono (by simp +contextual))
          · obtain ⟨b, hb, hb'⟩ := h.uniq q h'
            exact hn.2.2 b hb b hb' rfl
    cases v <;> simp only [giveB] at h
    case im x =>
      obtain ⟨rfl, rfl⟩ := Prod.mk.inj (Option.some.inj h); simp only [Lk] at hl; obtain ⟨rfl, rfl⟩ := hl
      exact ⟨[], rfl, by simp, fun _ _ _ => List.nodup_nil, trivial⟩
    case e0 =>
      obtain ⟨rfl, rfl⟩ := Prod.mk.inj (Option.some.inj h); simp only [Lk] at hl; obtain ⟨rfl, rfl⟩ := hl
      exact ⟨[], rfl, by simp, fun _ _ _ => List.nodup_nil, trivial⟩
    case sl es =>
      obtain ⟨rfl, rfl⟩ := Prod.mk.inj (Option.some.inj h); simp only [Lk] at hl; obtain ⟨rfl, rfl, hr⟩ := hl
      exact ⟨[], rfl, by simp, fun _ _ _ => List.nodup_nil, by simpa only [Pur] using hr⟩
    case rp u =>
      obtain ⟨rfl, rfl⟩ := Prod.mk.inj (Option.some.inj h); simp only [Lk] at hl; obtain ⟨rfl, rfl, hr⟩ := hl
      exact ⟨[], rfl, by simp, fun _ _ _ => List.nodup_nil, by simpa only [Pur] using hr⟩
    case st cs =>
      split at h
      · rename_i h1
        obtain ⟨rfl, rfl⟩ := Prod.mk.inj (Option.some.inj h)
        simp only [Lk] at hl
        obtain ⟨as, rfl, hl⟩ := hl
        obtain ⟨xs, g1, g2, g3, g4⟩ := lst _ _ _ _ _ h1 hl
        exact ⟨xs, by simp only [give, g1], g2, g3, by simpa only [Pur] using g4⟩
      · cases h
    case tu cs =>
      cases cs with
      | nil => cases h
      | cons c cs =>
      simp only at h
      split at h
      · rename_i h1
        obtain ⟨rfl, rfl⟩ := Prod.mk.inj (Option.some.inj h)
        simp only [Lk] at hl
        obtain ⟨as, rfl, hl⟩ := hl
        obtain ⟨xs, g1, g2, g3, g4⟩ := lst _ _ _ _ _ h1 hl
        exact ⟨xs, by simp only [give, g1], g2, g3, by simpa only [Pur] using g4⟩
      · cases h
    case cl f cs =>
      split at h
      · rename_i h1
        obtain ⟨rfl, rfl⟩ := Prod.mk.inj (Option.some.inj h)
        subst h1
        simp only [Lk, LkL, and_true] at hl
        obtain ⟨⟨as, rfl, rfl⟩, rfl⟩ := hl
        exact ⟨[], by simp [give, overL], by simp, fun _ _ _ => List.nodup_nil, by simp [Pur, PurL]⟩
      · cases h
    case hs b off n c =>
      split at h
      case h_2 => cases h
      rename_i B hB
      split at h
      case isFalse => cases h
      rename_i hle
      split at h
      case h_2 => cases h
      rename_i ts o1 h1
      obtain ⟨rfl, rfl⟩ := Prod.mk.inj (Option.some.inj h)
      simp only [Lk] at hl
      obtain ⟨⟨x, hx, rfl⟩, rfl⟩ := hl
      obtain ⟨A, L', hA, hk, hal, hfr, hll, hn', ho⟩ := seg_of q (fun _ _ h => h) hB hx off n (overL_ne giveB_dd h1)
      obtain ⟨xs, g1, g2, g3, g4⟩ := lst _ _ _ _ _ h1 hll
      refine ⟨x :: xs, ?_, fun y hy => ?_, fun hn _ _ => ?_, by simpa only [Pur] using g4⟩
      · simp only [give, hA]
        rw [if_pos (by omega), g1, hk]
      · rcases List.mem_cons.1 hy with rfl | hy
        · exact .inr ⟨b, by simp, .inl hx⟩
        · rcases g2 y hy with h | h
          · exact .inr ((ho y h).1.mono (by simp))
          · exact .inr (h.mono (by simp +contextual))
      · obtain ⟨hb1, hn1⟩ := List.nodup_cons.1 hn
        have hdis : ∀ y ∈ L', ¬ Rtd β ω o1 y := fun y hy hh => by
          obtain ⟨b', h4, h5⟩ := (ho y hy).1.uniq q hh
          rw [List.mem_singleton] at h4; subst h4; exact hb1 h5
        rw [List.nodup_cons]
        refine ⟨fun hh => ?_, g3 hn1 hn' hdis⟩
        rcases g2 x hh with h | h
        · exact (ho x h).2 b hx
        · have h6 : Rtd β ω [b] x := ⟨b, by simp, .inl hx⟩
          obtain ⟨b', h4, h5⟩ := h6.uniq q h
          rw [List.mem_singleton] at h4; subst h4; exact hb1 h5
    case hp b i =>
      split at h
      case h_2 => cases h
      rename_i B hB
      split at h
      case isFalse => cases h
      rename_i hi
      subst hi
      split at h
      case h_2 => cases h
      rename_i e he
      split at h
      case h_2 => cases h
      rename_i t' o1 h1
      obtain ⟨rfl, rfl⟩ := Prod.mk.inj (Option.some.inj h)
      simp only [Lk] at hl
      obtain ⟨⟨x, hx, rfl⟩, rfl⟩ := hl
      obtain ⟨A, L', hA, hk, hal, hfr, hll, hn', ho⟩ := seg_of q (fun _ _ h => h) hB hx 0 1 (one_ne giveB_dd he h1)
      rw [he] at hll hal
      cases hes : A.es with
      | nil => rw [hes] at hal; simp at hal
      | cons e' es' =>
        rw [hes] at hll hal
        have hes' : es' = [] := by simpa using hal
        subst hes'
        simp only [List.drop_zero, List.take_succ_cons, List.take_zero] at hll
        have h1' : overL (giveB d sB.H) [e] = some ([t'], o1) := by simp only [overL, h1, List.append_nil]
        obtain ⟨xs, g1, g2, g3, g4⟩ := lst _ _ _ _ _ h1' hll
        refine ⟨x :: xs, ?_, fun y hy => ?_, fun hn _ _ => ?_, by simp only [PurL] at g4; simpa only [Pur] using g4.1⟩
        · simp only [give, hA, hes, List.length_singleton, and_self, if_true, g1]
        · rcases List.mem_cons.1 hy with rfl | hy
          · exact .inr ⟨b, by simp, .inl hx⟩
          · rcases g2 y hy with h | h
            · exact .inr ((ho y h).1.mono (by simp))
            · exact .inr (h.mono (by simp +contextual))
        · obtain ⟨hb1, hn1⟩ := List.nodup_cons.1 hn
          have hdis : ∀ y ∈ L', ¬ Rtd β ω o1 y := fun y hy hh => by
            obtain ⟨b', h4, h5⟩ := (ho y hy).1.uniq q hh
            rw [List.mem_singleton] at h4; subst h4; exact hb1 h5
          rw [List.nodup_cons]
          refine ⟨fun hh => ?_, g3 hn1 hn' hdis⟩
          rcases g2 x hh with h | h
          · exact (ho x h).2 b hx
          · have h6 : Rtd β ω [b] x := ⟨b, by simp, .inl hx⟩
            obtain ⟨b', h4, h5⟩ := h6.uniq q h
            rw [List.mem_singleton] at h4; subst h4; exact hb1 h5
    case ow k es =>
      split at h
      case isFalse => cases h
      rename_i hok
      obtain ⟨rfl, rfl⟩ := Prod.mk.inj (Option.some.inj h)
      simp only [Lk] at hl
      obtain ⟨⟨d0, hg⟩, hp⟩ := hl
      exact ⟨L, giveX_give (d + 1) d0 a _ L hg hok, fun x hx => .inl hx, fun _ h _ => h, by simpa only [Pur] using hp⟩
    case op u =>
      split at h
      case isFalse => cases h
      rename_i hok
      obtain ⟨rfl, rfl⟩ := Prod.mk.inj (Option.some.inj h)
      simp only [Lk] at hl
      obtain ⟨⟨d0, hg⟩, hp⟩ := hl
      exact ⟨L, giveX_give (d + 1) d0 a _ L hg hok, fun x hx => .inl hx, fun _ h _ => h, by simpa only [Pur] using hp⟩
    case hf => cases h

/-- Read in B, read in A. -/
theorem snapB_sim (q : Sim β ω no2 sB sA) : ∀ (d : Nat) (v t a : V) (rs L : List Nat), snapB d sB.H v = some (t, rs) → Lk β sA.H v a L →
    ∃ xs, snap d sA.H a = some (t, xs) ∧ (∀ x ∈ xs, x ∈ L ∨ Rtd β ω rs x) ∧ Ror t
  | 0, _, _, _, _, _, h, _ => by simp [snapB] at h
  | d + 1, v, t, a, rs, L, h, hl => by
    have lst : ∀ (vs ts as : List V) (rs L : List Nat), overL (snapB d sB.H) vs = some (ts, rs) → LkL β sA.H vs as L →
        ∃ xs, overL (snap d sA.H) as = some (ts, xs) ∧ (∀ x ∈ xs, x ∈ L ∨ Rtd β ω rs x) ∧ RorL ts := by
      intro vs
      induction vs with
      | nil =>
        intro ts as os L h hl
        simp only [overL, Option.some.injEq, Prod.mk.injEq] at h
        obtain ⟨rfl, rfl⟩ := h
        simp only [LkL] at hl
        obtain ⟨rfl, rfl⟩ := hl
        exact ⟨[], rfl, by simp, trivial⟩
      | cons v vs ih =>
        intro ts as os L h hl
        obtain ⟨t, ts', o1, o2, h2, h3, rfl, rfl⟩ := overL_cons h
        obtain ⟨a, as', L1, L2, rfl, rfl, l1, l2⟩ := LkL_cons_inv hl
        obtain ⟨xs1, g1, g2, g4⟩ := snapB_sim q d v t a o1 L1 h2 l1
        obtain ⟨xs2, k1, k2, k4⟩ := ih _ _ _ _ h3 l2
        refine ⟨xs1 ++ xs2, overL_mk g1 k1, fun x hx => ?_, ⟨g4, k4⟩⟩
        rcases List.mem_append.1 hx with hx | hx
        · rcases g2 x hx with h | h
          · exact .inl (by simp [h])
          · exact .inr (h.mono (by simp +contextual))
        · rcases k2 x hx with h | h
          · exact .inl (by simp [h])
          · exact .inr (h.mono (by simp +contextual))
    cases v <;> simp only [snapB] at h
    case im x =>
      obtain ⟨rfl, rfl⟩ := Prod.mk.inj (Option.some.inj h); simp only [Lk] at hl; obtain ⟨rfl, rfl⟩ := hl
      exact ⟨[], rfl, by simp, trivial⟩
    case e0 =>
      obtain ⟨rfl, rfl⟩ := Prod.mk.inj (Option.some.inj h); simp only [Lk] at hl; obtain ⟨rfl, rfl⟩ := hl
      exact ⟨[], rfl, by simp, by simp [Ror, RorL]⟩
    case sl es =>
      obtain ⟨rfl, rfl⟩ := Prod.mk.inj (Option.some.inj h); simp only [Lk] at hl; obtain ⟨rfl, rfl, hr⟩ := hl
      exact ⟨[], rfl, by simp, by simpa only [Ror] using hr⟩
    case rp u =>
      obtain ⟨rfl, rfl⟩ := Prod.mk.inj (Option.some.inj h); simp only [Lk] at hl; obtain ⟨rfl, rfl, hr⟩ := hl
      exact ⟨[], rfl, by simp, by simpa only [Ror] using hr⟩
    case st cs =>
      split at h
      · rename_i h1
        obtain ⟨rfl, rfl⟩ := Prod.mk.inj (Option.some.inj h)
        simp only [Lk] at hl
        obtain ⟨as, rfl, hl⟩ := hl
        obtain ⟨xs, g1, g2, g4⟩ := lst _ _ _ _ _ h1 hl
        exact ⟨xs, by simp only [snap, g1], g2, by simpa only [Ror] using g4⟩
      · cases h
    case cl f cs =>
      split at h
      · rename_i h1
        obtain ⟨rfl, rfl⟩ := Prod.mk.inj (Option.some.inj h)
        simp only [Lk] at hl
        obtain ⟨⟨as, rfl, hl⟩, rfl⟩ := hl
        obtain ⟨xs, g1, g2, g4⟩ := lst _ _ _ _ _ h1 hl
        exact ⟨xs, by simp only [snap, g1], g2, by simpa only [Ror] using g4⟩
      · cases h
    case hs b off n c =>
      split at h
      case h_2 => cases h
      rename_i B hB
      split at h
      case isFalse => cases h
      rename_i hle
      split at h
      case h_2 => cases h
      rename_i ts o1 h1
      obtain ⟨rfl, rfl⟩ := Prod.mk.inj (Option.some.inj h)
      simp only [Lk] at hl
      obtain ⟨⟨x, hx, rfl⟩, rfl⟩ := hl
      obtain ⟨A, L', hA, hk, hal, hfr, hll, hn', ho⟩ := seg_of q (fun _ _ h => h) hB hx off n (overL_ne snapB_dd h1)
      obtain ⟨xs, g1, g2, g4⟩ := lst _ _ _ _ _ h1 hll
      simp only [snap]
      split
      · rename_i hn
        subst hn
        simp only [List.take_zero, overL, Option.some.injEq, Prod.mk.injEq] at h1
        obtain ⟨rfl, rfl⟩ := h1
        exact ⟨[], rfl, by simp, by simp [Ror, RorL]⟩
      · simp only [hA]
        rw [if_pos (by omega), g1]
        refine ⟨x :: xs, rfl, fun y hy => ?_, by simpa only [Ror] using g4⟩
        rcases List.mem_cons.1 hy with rfl | hy
        · exact .inr ⟨b, by simp, .inl hx⟩
        · rcases g2 y hy with h | h
          · exact .inr ((ho y h).1.mono (by simp))
          · exact .inr (h.mono (by simp +contextual))
    case hp b i =>
      split at h
      case h_2 => cases h
      rename_i B hB
      split at h
      case h_2 => cases h
      rename_i e he
      split at h
      case h_2 => cases h
      rename_i t' o1 h1
      obtain ⟨rfl, rfl⟩ := Prod.mk.inj (Option.some.inj h)
      simp only [Lk] at hl
      obtain ⟨⟨x, hx, rfl⟩, rfl⟩ := hl
      obtain ⟨A, hA, hk, hfr, _, hal, hel⟩ := q.get hB hx
      have hlt : i < A.es.length := by rw [hal]; exact (List.getElem?_eq_some_iff.1 he).1
      obtain ⟨L', hl', _, ho⟩ := (hel i _ _ (fun h => h) he (List.getElem?_eq_getElem hlt)).resolve_left (by rintro rfl; rw [snapB_dd] at h1; cases h1)
      obtain ⟨xs, g1, g2, g4⟩ := snapB_sim q d e t' _ o1 L' h1 hl'
      simp only [snap, hA, List.getElem?_eq_getElem hlt, g1]
      refine ⟨x :: xs, rfl, fun y hy => ?_, by simpa only [Ror] using g4⟩
      rcases List.mem_cons.1 hy with rfl | hy
      · exact .inr ⟨b, by simp, .inl hx⟩
      · rcases g2 y hy with h | h
        · exact .inr ⟨b, by simp, .inr ⟨(ho y h).2, i, (ho y h).1⟩⟩
        · exact .inr (h.mono (by simp +contextual))
    case ow k es =>
      obtain ⟨r, hr, hh⟩ := Option.map_eq_some_iff.1 h
      obtain ⟨rfl, rfl⟩ := Prod.mk.inj hh
      simp only [Lk] at hl
      obtain ⟨⟨d0, hg⟩, hp⟩ := hl
      obtain ⟨xs, g1, g2⟩ := giveX_snap (d + 1) d0 a _ r L hg hr
      exact ⟨xs, g1, fun x hx => .inl (g2 x hx), roT_ror _ _ _ hr (by simpa only [Pur] using hp)⟩
    case op u =>
      obtain ⟨r, hr, hh⟩ := Option.map_eq_some_iff.1 h
      obtain ⟨rfl, rfl⟩ := Prod.mk.inj hh
      simp only [Lk] at hl
      obtain ⟨⟨d0, hg⟩, hp⟩ := hl
      obtain ⟨xs, g1, g2⟩ := giveX_snap (d + 1) d0 a _ r L hg hr
      exact ⟨xs, g1, fun x hx => .inl (g2 x hx), roT_ror _ _ _ hr (by simpa only [Pur] using hp)⟩
    all_goals cases h

end Go.Am
