/- The B-machine, part 9: canonical states. -/
import Derived.Test.YthpaolkonlhjfaaAm29
set_option linter.all false
namespace Go.Am
variable {β : Bet} {ω : Omg} {sB sA : S}

/-- Packed in B, given in A. -/
theorem packB_sim (q : Sim β ω no2 sB sA) : ∀ (d : Nat) (v t a : V) (os L : List Nat), packB d sB.H v = some (t, os) → Lk β sA.H v a L →
    ∃ d' xs, giveX d' sA.H a = some (t, xs) ∧ (∀ x ∈ xs, x ∈ L ∨ Rtd β ω os x) ∧ (os.Nodup → L.Nodup → (∀ y ∈ L, ¬ Rtd β ω os y) → xs.Nodup) ∧ Pur t
  | 0, _, _, _, _, _, h, _ => by simp [packB] at h
  | d + 1, v, t, a, os, L, h, hl => by
    have lst : ∀ (vs ts as : List V) (os L : List Nat), overL (packB d sB.H) vs = some (ts, os) → LkL β sA.H vs as L →
        ∃ d' xs, overL (giveX d' sA.H) as = some (ts, xs) ∧ (∀ x ∈ xs, x ∈ L ∨ Rtd β ω os x) ∧ (os.Nodup → L.Nodup → (∀ y ∈ L, ¬ Rtd β ω os y) → xs.Nodup) ∧ PurL ts := by
      intro vs
      induction vs with
      | nil =>
        intro ts as os L h hl
        simp only [overL, Option.some.injEq, Prod.mk.injEq] at h
        obtain ⟨rfl, rfl⟩ := h
        simp only [LkL] at hl
        obtain ⟨rfl, rfl⟩ := hl
        exact ⟨0, [], rfl, by simp, fun _ _ _ => List.nodup_nil, trivial⟩
      | cons v vs ih =>
        intro ts as os L h hl
        obtain ⟨t, ts', o1, o2, h2, h3, rfl, rfl⟩ := overL_cons h
        obtain ⟨a, as', L1, L2, rfl, rfl, l1, l2⟩ := LkL_cons_inv hl
        obtain ⟨d1, xs1, g1, g2, g3, g4⟩ := packB_sim q d v t a o1 L1 h2 l1
        obtain ⟨d2, xs2, k1, k2, k3, k4⟩ := ih _ _ _ _ h3 l2
        refine ⟨max d1 d2, xs1 ++ xs2, overL_mk (giveX_mono (Nat.le_max_left _ _) g1) (overL_imp (fun v _ t L' h _ => giveX_mono (Nat.le_max_right _ _) h) k1), fun x hx => ?_, fun hn hL hd => ?_, ⟨g4, k4⟩⟩
        · rcases List.mem_append.1 hx with hx | hx
          · rcases g2 x hx with h | h
            · exact .inl (by simp [h])
            · exact .inr (h.mono (by simp +contextual))
          · rcases k2 x hx with h | h
            · exact .inl (by simp [h])
            · exact .inr (h.mono (by simp +contextual))
        · rw [List.nodup_append] at hn hL ⊢
          refine ⟨g3 hn.1 hL.1 (fun y hy hh => hd y (by simp [hy]) (hh.mono (by simp +contextual))), k3 hn.2.1 hL.2.1 (fun y hy hh => hd y (by simp [hy]) (hh.mono (by simp +contextual))), fun x hx y hy e => ?_⟩
          subst e
          rcases g2 x hx with h | h <;> rcases k2 x hy with h' | h'
          · exact hL.2.2 x h x h' rfl
          · exact hd x (by simp [h]) (h'.mono (by simp +contextual))
          · exact hd x (by simp [h']) (h.mono (by simp +contextual))
          · obtain ⟨b, hb, hb'⟩ := h.uniq q h'
            exact hn.2.2 b hb b hb' rfl
    cases v <;> simp only [packB] at h
    case im x =>
      obtain ⟨rfl, rfl⟩ := Prod.mk.inj (Option.some.inj h); simp only [Lk] at hl; obtain ⟨rfl, rfl⟩ := hl
      exact ⟨1, [], rfl, by simp, fun _ _ _ => List.nodup_nil, trivial⟩
    case e0 =>
      obtain ⟨rfl, rfl⟩ := Prod.mk.inj (Option.some.inj h); simp only [Lk] at hl; obtain ⟨rfl, rfl⟩ := hl
      exact ⟨1, [], rfl, by simp, fun _ _ _ => List.nodup_nil, trivial⟩
    case sl es =>
      obtain ⟨rfl, rfl⟩ := Prod.mk.inj (Option.some.inj h); simp only [Lk] at hl; obtain ⟨rfl, rfl, hr⟩ := hl
      exact ⟨1, [], rfl, by simp, fun _ _ _ => List.nodup_nil, by simpa only [Pur] using hr⟩
    case rp u =>
      obtain ⟨rfl, rfl⟩ := Prod.mk.inj (Option.some.inj h); simp only [Lk] at hl; obtain ⟨rfl, rfl, hr⟩ := hl
      exact ⟨1, [], rfl, by simp, fun _ _ _ => List.nodup_nil, by simpa only [Pur] using hr⟩
    case st cs =>
      split at h
      · rename_i h1
        obtain ⟨rfl, rfl⟩ := Prod.mk.inj (Option.some.inj h)
        simp only [Lk] at hl
        obtain ⟨as, rfl, hl⟩ := hl
        obtain ⟨d', xs, g1, g2, g3, g4⟩ := lst _ _ _ _ _ h1 hl
        exact ⟨d' + 1, xs, by simp only [giveX, g1], g2, g3, by simpa only [Pur] using g4⟩
      · cases h
    case cl f cs =>
      split at h
      · rename_i h1
        obtain ⟨rfl, rfl⟩ := Prod.mk.inj (Option.some.inj h)
        subst h1
        simp only [Lk, LkL, and_true] at hl
        obtain ⟨⟨as, rfl, rfl⟩, rfl⟩ := hl
        exact ⟨1, [], by simp [giveX], by simp, fun _ _ _ => List.nodup_nil, by simp [Pur, PurL]⟩
      · cases h
    case hs b off n c =>
      split at h
      case h_2 => cases h
      rename_i B hB
      split at h
      case isFalse => cases h
      rename_i hle
      obtain ⟨rfl, rfl, rfl⟩ := hle
      split at h
      case h_2 => cases h
      rename_i ts o1 h1
      obtain ⟨rfl, rfl⟩ := Prod.mk.inj (Option.some.inj h)
      simp only [Lk] at hl
      obtain ⟨⟨x, hx, rfl⟩, rfl⟩ := hl
      obtain ⟨A, L', hA, hk, hal, hfr, hll, hn', ho⟩ := seg_of q (fun _ _ h => h) hB hx 0 B.es.length (by simpa using overL_ne packB_dd h1)
      simp only [List.drop_zero, List.take_length] at hll
      rw [← hal, List.take_length] at hll
      obtain ⟨d', xs, g1, g2, g3, g4⟩ := lst _ _ _ _ _ h1 hll
      refine ⟨d' + 1, x :: xs, ?_, fun y hy => ?_, fun hn _ _ => ?_, by simpa only [Pur] using g4⟩
      · simp only [giveX, hA]
        rw [if_pos ⟨trivial, hal.symm, trivial⟩, g1, hk]
      · rcases List.mem_cons.1 hy with rfl | hy
        · exact .inr ⟨b, by simp, .inl hx⟩
        · rcases g2 y hy with h | h
          · exact .inr ((ho y h).1.mono (by simp))
          · exact .inr (h.mono (by simp +contextual))
      · obtain ⟨hb1, hn1⟩ := List.nodup_cons.1 hn
        have hdis : ∀ y ∈ L', ¬ Rtd β ω o1 y := fun y hy hh => by
          obtain ⟨b', h4, h5⟩ := (ho y hy).1.uniq q hh
          rw [List.mem_singleton] at h4; subst h4; exact hb1 h5
        rw [List.nodup_cons]
        refine ⟨fun hh => ?_, g3 hn1 hn' hdis⟩
        rcases g2 x hh with h | h
        · exact (ho x h).2 b hx
        · have h6 : Rtd β ω [b] x := ⟨b, by simp, .inl hx⟩
          obtain ⟨b', h4, h5⟩ := h6.uniq q h
          rw [List.mem_singleton] at h4; subst h4; exact hb1 h5
    case hp b i =>
      split at h
      case h_2 => cases h
      rename_i B hB
      split at h
      case isFalse => cases h
      rename_i hi
      subst hi
      split at h
      case h_2 => cases h
      rename_i e he
      split at h
      case h_2 => cases h
      rename_i t' o1 h1
      split at h
      case isFalse => cases h
      rename_i hkt
      obtain ⟨rfl, rfl⟩ := Prod.mk.inj (Option.some.inj h)
      simp only [Lk] at hl
      obtain ⟨⟨x, hx, rfl⟩, rfl⟩ := hl
      obtain ⟨A, L', hA, hk, hal, hfr, hll, hn', ho⟩ := seg_of q (fun _ _ h => h) hB hx 0 1 (one_ne packB_dd he h1)
      rw [he] at hll hal
      cases hes : A.es with
      | nil => rw [hes] at hal; simp at hal
      | cons e' es' =>
        rw [hes] at hll hal
        have hes' : es' = [] := by simpa using hal
        subst hes'
        simp only [List.drop_zero, List.take_succ_cons, List.take_zero] at hll
        obtain ⟨a1, as1, L1, L2, e1, rfl, l1, l2⟩ := LkL_cons_inv hll
        obtain ⟨rfl, rfl⟩ := List.cons.inj e1
        simp only [LkL] at l2
        obtain ⟨_, rfl⟩ := l2
        rw [List.append_nil] at ho hn'
        obtain ⟨d', xs, g1, g2, g3, g4⟩ := packB_sim q d e t' _ o1 L1 h1 l1
        refine ⟨d' + 1, x :: xs, ?_, fun y hy => ?_, fun hn _ _ => ?_, by simpa only [Pur] using g4⟩
        · simp only [giveX, hA, hes, if_true, g1]
          rw [if_pos (hk.trans hkt)]
        · rcases List.mem_cons.1 hy with rfl | hy
          · exact .inr ⟨b, by simp, .inl hx⟩
          · rcases g2 y hy with h | h
            · exact .inr ((ho y h).1.mono (by simp))
            · exact .inr (h.mono (by simp +contextual))
        · obtain ⟨hb1, hn1⟩ := List.nodup_cons.1 hn
          have hdis : ∀ y ∈ L1, ¬ Rtd β ω o1 y := fun y hy hh => by
            obtain ⟨b', h4, h5⟩ := (ho y hy).1.uniq q hh
            rw [List.mem_singleton] at h4; subst h4; exact hb1 h5
          rw [List.nodup_cons]
          refine ⟨fun hh => ?_, g3 hn1 hn' hdis⟩
          rcases g2 x hh with h | h
          · exact (ho x h).2 b hx
          · have h6 : Rtd β ω [b] x := ⟨b, by simp, .inl hx⟩
            obtain ⟨b', h4, h5⟩ := h6.uniq q h
            rw [List.mem_singleton] at h4; subst h4; exact hb1 h5
    case ow k es =>
      obtain ⟨rfl, rfl⟩ := Prod.mk.inj (Option.some.inj h)
      simp only [Lk] at hl
      obtain ⟨⟨d0, hg⟩, hp⟩ := hl
      exact ⟨d0, L, hg, fun x hx => .inl hx, fun _ h _ => h, by simpa only [Pur] using hp⟩
    case op u =>
      obtain ⟨rfl, rfl⟩ := Prod.mk.inj (Option.some.inj h)
      simp only [Lk] at hl
      obtain ⟨⟨d0, hg⟩, hp⟩ := hl
      exact ⟨d0, L, hg, fun x hx => .inl hx, fun _ h _ => h, by simpa only [Pur] using hp⟩
    all_goals cases h

theorem posOf_some : ∀ {r : List Nat} {b j : Nat}, posOf r b = some j → r[j]? = some b
  | [], b, j, h => by simp [posOf] at h
  | a :: l, b, j, h => by
    simp only [posOf] at h
    split at h
    · rename_i e; obtain rfl := Option.some.inj h; simp [e]
    · obtain ⟨k, hk, rfl⟩ := Option.map_eq_some_iff.1 h
      simpa using posOf_some hk
theorem posOf_none : ∀ {r : List Nat} {b : Nat}, posOf r b = none → b ∉ r
  | [], b, _ => by simp
  | a :: l, b, h => by
    simp only [posOf] at h
    split at h
    · cases h
    · rename_i e
      rw [Option.map_eq_none_iff] at h
      simp only [List.mem_cons, not_or]
      exact ⟨e, posOf_none h⟩

/-- Renaming: the blocks of r have new numbers. -/
def betR (β : Bet) (r : List Nat) : Bet := fun j => (r[j]?).bind β

theorem ren_sim (q : Sim β ω no2 sB sA) {r : List Nat} : ∀ (d : Nat) (v t a : V) (os L : List Nat), ren sB.H r d v = some (t, os) → Lk β sA.H v a L →
    ∃ xs, Lk (betR β r) sA.H t a xs ∧ (∀ x ∈ xs, x ∈ L ∨ Rtd β ω os x) ∧ (os.Nodup → L.Nodup → (∀ y ∈ L, ¬ Rtd β ω os y) → xs.Nodup) ∧ (os = [] → L = [] → xs = []) ∧ ∀ b ∈ os, b ∉ r ∨ True
  | 0, _, _, _, _, _, h, _ => by simp [ren] at h
  | d + 1, v, t, a, os, L, h, hl => by
    have lst : ∀ (vs ts as : List V) (os L : List Nat), overL (ren sB.H r d) vs = some (ts, os) → LkL β sA.H vs as L →
        ∃ xs, LkL (betR β r) sA.H ts as xs ∧ (∀ x ∈ xs, x ∈ L ∨ Rtd β ω os x) ∧ (os.Nodup → L.Nodup → (∀ y ∈ L, ¬ Rtd β ω os y) → xs.Nodup) ∧ (os = [] → L = [] → xs = []) := by
      intro vs
      induction vs with
      | nil =>
        intro ts as os L h hl
        simp only [overL, Option.some.injEq, Prod.mk.injEq] at h
        obtain ⟨rfl, rfl⟩ := h
        simp only [LkL] at hl
        obtain ⟨rfl, rfl⟩ := hl
        exact ⟨[], by simp [LkL], by simp, fun _ _ _ => List.nodup_nil, fun _ _ => rfl⟩
      | cons v vs ih =>
        intro ts as os L h hl
        obtain ⟨t, ts', o1, o2, h2, h3, rfl, rfl⟩ := overL_cons h
        obtain ⟨a, as', L1, L2, rfl, rfl, l1, l2⟩ := LkL_cons_inv hl
        obtain ⟨xs1, g1, g2, g3, g4, _⟩ := ren_sim q d v t a o1 L1 h2 l1
        obtain ⟨xs2, k1, k2, k3, k4⟩ := ih _ _ _ _ h3 l2
        refine ⟨xs1 ++ xs2, by simp only [LkL]; exact ⟨a, as', xs1, xs2, rfl, rfl, g1, k1⟩, fun x hx => ?_, fun hn hL hd => ?_, fun ho hL => ?_⟩
        · rcases List.mem_append.1 hx with hx | hx
          · rcases g2 x hx with h | h
            · exact .inl (by simp [h])
            · exact .inr (h.mono (by simp +contextual))
          · rcases k2 x hx with h | h
            · exact .inl (by simp [h])
            · exact .inr (h.mono (by simp +contextual))
        · rw [List.nodup_append] at hn hL ⊢
          refine ⟨g3 hn.1 hL.1 (fun y hy hh => hd y (by simp [hy]) (hh.mono (by simp +contextual))), k3 hn.2.1 hL.2.1 (fun y hy hh => hd y (by simp [hy]) (hh.mono (by simp +contextual))), fun x hx y hy e => ?_⟩
          subst e
          rcases g2 x hx with h | h <;> rcases k2 x hy with h' | h'
          · exact hL.2.2 x h x h' rfl
          · exact hd x (by simp [h]) (h'.mono (by simp +contextual))
          · exact hd x (by simp [h']) (h.mono (by simp +contextual))
          · obtain ⟨b, hb, hb'⟩ := h.uniq q h'
            exact hn.2.2 b hb b hb' rfl
        · obtain ⟨rfl, rfl⟩ := List.append_eq_nil_iff.1 ho
          obtain ⟨rfl, rfl⟩ := List.append_eq_nil_iff.1 hL
          rw [g4 rfl rfl, k4 rfl rfl]; rfl
    have pk : ∀ {u : V}, packB (d + 1) sB.H u = some (t, os) → Lk β sA.H u a [] → L = [] → (os = [] → False) → ∃ xs, Lk (betR β r) sA.H t a xs ∧ (∀ x ∈ xs, x ∈ L ∨ Rtd β ω os x) ∧ (os.Nodup → L.Nodup → (∀ y ∈ L, ¬ Rtd β ω os y) → xs.Nodup) ∧ (os = [] → L = [] → xs = []) ∧ ∀ b ∈ os, b ∉ r ∨ True := by
      intro u h hl' e hne
      subst e
      obtain ⟨d', xs, g1, g2, g3, g4⟩ := packB_sim q (d + 1) u t a os [] h hl'
      exact ⟨xs, Lk_of_giveX d' a t xs g1 g4, g2, g3, fun h => (hne h).elim, fun _ _ => .inr trivial⟩
    cases v <;> simp only [ren] at h
    case hs b off n c =>
      simp only [Lk] at hl
      obtain ⟨⟨x, hx, rfl⟩, rfl⟩ := hl
      split at h
      · rename_i j hj
        obtain ⟨rfl, rfl⟩ := Prod.mk.inj (Option.some.inj h)
        refine ⟨[], ?_, by simp, fun _ _ _ => List.nodup_nil, fun _ _ => rfl, by simp⟩
        simp only [Lk, and_true]
        exact ⟨x, by simp [betR, posOf_some hj, hx], rfl⟩
      · refine pk h (by simp only [Lk, and_true]; exact ⟨x, hx, rfl⟩) rfl ?_
        intro e; subst e
        simp only [packB] at h
        split at h
        · split at h
          · split at h
            · obtain ⟨_, h⟩ := Prod.mk.inj (Option.some.inj h); cases h
            · cases h
          · cases h
        · cases h
    case hp b i =>
      simp only [Lk] at hl
      obtain ⟨⟨x, hx, rfl⟩, rfl⟩ := hl
      split at h
      · rename_i j hj
        obtain ⟨rfl, rfl⟩ := Prod.mk.inj (Option.some.inj h)
        refine ⟨[], ?_, by simp, fun _ _ _ => List.nodup_nil, fun _ _ => rfl, by simp⟩
        simp only [Lk, and_true]
        exact ⟨x, by simp [betR, posOf_some hj, hx], rfl⟩
      · refine pk h (by simp only [Lk, and_true]; exact ⟨x, hx, rfl⟩) rfl ?_
        intro e; subst e
        simp only [packB] at h
        split at h
        · split at h
          · split at h
            · split at h
              · split at h
                · obtain ⟨_, h⟩ := Prod.mk.inj (Option.some.inj h); cases h
                · cases h
              · cases h
            · cases h
          · cases h
        · cases h
    case hf b i j =>
      simp only [Lk] at hl
      obtain ⟨⟨x, hx, rfl⟩, rfl⟩ := hl
      split at h
      · rename_i j' hj
        obtain ⟨rfl, rfl⟩ := Prod.mk.inj (Option.some.inj h)
        refine ⟨[], ?_, by simp, fun _ _ _ => List.nodup_nil, fun _ _ => rfl, by simp⟩
        simp only [Lk, and_true]
        exact ⟨x, by simp [betR, posOf_some hj, hx], rfl⟩
      · cases h
    case st cs =>
      split at h
      · rename_i h1
        obtain ⟨rfl, rfl⟩ := Prod.mk.inj (Option.some.inj h)
        simp only [Lk] at hl
        obtain ⟨as, rfl, hl⟩ := hl
        obtain ⟨xs, g1, g2, g3, g4⟩ := lst _ _ _ _ _ h1 hl
        exact ⟨xs, by simp only [Lk]; exact ⟨as, rfl, g1⟩, g2, g3, g4, fun _ _ => .inr trivial⟩
      · cases h
    case tu cs =>
      split at h
      · rename_i h1
        obtain ⟨rfl, rfl⟩ := Prod.mk.inj (Option.some.inj h)
        simp only [Lk] at hl
        obtain ⟨as, rfl, hl⟩ := hl
        obtain ⟨xs, g1, g2, g3, g4⟩ := lst _ _ _ _ _ h1 hl
        exact ⟨xs, by simp only [Lk]; exact ⟨as, rfl, g1⟩, g2, g3, g4, fun _ _ => .inr trivial⟩
      · cases h
    case cl f cs =>
      split at h
      · rename_i h1
        obtain ⟨rfl, rfl⟩ := Prod.mk.inj (Option.some.inj h)
        simp only [Lk] at hl
        obtain ⟨⟨as, rfl, hl⟩, rfl⟩ := hl
        obtain ⟨xs, g1, g2, g3, g4⟩ := lst _ _ _ _ _ h1 hl
        obtain rfl := g4 rfl rfl
        exact ⟨[], by simp only [Lk, and_true]; exact ⟨as, rfl, g1⟩, by simp, fun _ _ _ => List.nodup_nil, fun _ _ => rfl, by simp⟩
      · cases h
    case im x => obtain ⟨rfl, rfl⟩ := Prod.mk.inj (Option.some.inj h); exact ⟨L, by simpa only [Lk] using hl, fun x hx => .inl hx, fun _ h _ => h, fun _ h => h, by simp⟩
    case e0 => obtain ⟨rfl, rfl⟩ := Prod.mk.inj (Option.some.inj h); exact ⟨L, by simpa only [Lk] using hl, fun x hx => .inl hx, fun _ h _ => h, fun _ h => h, by simp⟩
    case sl x => obtain ⟨rfl, rfl⟩ := Prod.mk.inj (Option.some.inj h); exact ⟨L, by simpa only [Lk] using hl, fun x hx => .inl hx, fun _ h _ => h, fun _ h => h, by simp⟩
    case rp x => obtain ⟨rfl, rfl⟩ := Prod.mk.inj (Option.some.inj h); exact ⟨L, by simpa only [Lk] using hl, fun x hx => .inl hx, fun _ h _ => h, fun _ h => h, by simp⟩
    case ow k x => obtain ⟨rfl, rfl⟩ := Prod.mk.inj (Option.some.inj h); exact ⟨L, by simpa only [Lk] using hl, fun x hx => .inl hx, fun _ h _ => h, fun _ h => h, by simp⟩
    case op x => obtain ⟨rfl, rfl⟩ := Prod.mk.inj (Option.some.inj h); exact ⟨L, by simpa only [Lk] using hl, fun x hx => .inl hx, fun _ h _ => h, fun _ h => h, by simp⟩


theorem overL_pcs {f : V → Option (V × List Nat)} : ∀ {es ts : List V} {L : List Nat}, overL f es = some (ts, L) →
    L = (es.map fun e => ((f e).map (·.2)).getD []).flatten ∧ ts.length = es.length ∧ ∀ (i : Nat) (e : V), es[i]? = some e → ∃ t l, ts[i]? = some t ∧ f e = some (t, l)
  | [], ts, L, h => by simp only [overL, Option.some.injEq, Prod.mk.injEq] at h; obtain ⟨rfl, rfl⟩ := h; exact ⟨rfl, rfl, fun i e h => by simp at h⟩
  | x :: es, ts, L, h => by
    obtain ⟨t, ts', i, j, h2, h3, rfl, rfl⟩ := overL_cons h
    obtain ⟨h4, h5, h6⟩ := overL_pcs h3
    refine ⟨by simp [h2, ← h4], by simp [h5], fun k e hk => ?_⟩
    cases k with
    | zero => simp at hk; subst hk; exact ⟨t, i, rfl, h2⟩
    | succ k => exact h6 k e (by simpa using hk)

/-- The blocks that an element's packing takes in. -/
def pieces (H : Nat → Option Blk) (r : List Nat) (b : Nat) : List (List Nat) := match H b with | some B => B.es.map fun e => ((ren H r DEP e).map (·.2)).getD [] | none => []

theorem renBs_get {H : Nat → Option Blk} {r : List Nat} : ∀ {rs : List Nat} {bs : List (Option Blk)} {ids : List Nat}, renBs H r rs = some (bs, ids) →
    ids = (rs.map fun b => (pieces H r b).flatten).flatten ∧ ∀ (j b : Nat), rs[j]? = some b → ∃ X, bs[j]? = some X ∧ ((H b = none ∧ X = none) ∨ ∃ B es' l, H b = some B ∧ overL (ren H r DEP) B.es = some (es', l) ∧ X = some { B with es := es' })
  | [], bs, ids, h => by simp only [renBs, Option.some.injEq, Prod.mk.injEq] at h; obtain ⟨rfl, rfl⟩ := h; exact ⟨rfl, fun j b h => by simp at h⟩
  | b :: rs, bs, ids, h => by
    simp only [renBs] at h
    split at h
    case h_2 => cases h
    rename_i x i hx
    split at h
    case h_2 => cases h
    rename_i xs j hxs
    obtain ⟨rfl, rfl⟩ := Prod.mk.inj (Option.some.inj h)
    obtain ⟨h1, h2⟩ := renBs_get hxs
    cases hb : H b with
    | none =>
      rw [hb] at hx
      obtain ⟨rfl, rfl⟩ := Prod.mk.inj (Option.some.inj hx)
      refine ⟨by rw [List.map_cons, List.flatten_cons, ← h1]; simp [pieces, hb], fun k b' hk => ?_⟩
      cases k with
      | zero => simp at hk; subst hk; exact ⟨none, rfl, .inl ⟨hb, rfl⟩⟩
      | succ k => exact h2 k b' (by simpa using hk)
    | some B =>
      rw [hb] at hx
      obtain ⟨y, hy, hh⟩ := Option.map_eq_some_iff.1 hx
      obtain ⟨rfl, rfl⟩ := Prod.mk.inj hh
      obtain ⟨es', l⟩ := y
      obtain ⟨h4, _, _⟩ := overL_pcs hy
      refine ⟨by rw [List.map_cons, List.flatten_cons, ← h1]; congr 1; simp only [pieces, hb]; exact h4, fun k b' hk => ?_⟩
      cases k with
      | zero => simp at hk; subst hk; exact ⟨_, rfl, .inr ⟨B, es', l, hb, hy, rfl⟩⟩
      | succ k => exact h2 k b' (by simpa using hk)

theorem renBs_len {H : Nat → Option Blk} {r : List Nat} : ∀ {rs : List Nat} {bs : List (Option Blk)} {ids : List Nat}, renBs H r rs = some (bs, ids) → bs.length = rs.length
  | [], bs, ids, h => by simp only [renBs, Option.some.injEq, Prod.mk.injEq] at h; obtain ⟨rfl, rfl⟩ := h; rfl
  | b :: rs, bs, ids, h => by
    simp only [renBs] at h
    split at h
    case h_2 => cases h
    split at h
    case h_2 => cases h
    rename_i xs j hxs
    obtain ⟨rfl, rfl⟩ := Prod.mk.inj (Option.some.inj h)
    simp [renBs_len hxs]

def pieceOf (H : Nat → Option Blk) (r : List Nat) (p : Nat × Nat) : List Nat := match r[p.1]? with | some b => (pieces H r b).getD p.2 [] | none => []

theorem pieceOf_uniq {H : Nat → Option Blk} {r : List Nat} (hn : (r.map fun b => (pieces H r b).flatten).flatten.Nodup) {p p' : Nat × Nat} {y : Nat} (h : y ∈ pieceOf H r p) (h' : y ∈ pieceOf H r p') : p = p' := by
  obtain ⟨j, i⟩ := p
  obtain ⟨j', i'⟩ := p'
  have get : ∀ {j i : Nat}, y ∈ pieceOf H r (j, i) → ∃ b l, r[j]? = some b ∧ (pieces H r b)[i]? = some l ∧ y ∈ l := by
    intro j i h
    unfold pieceOf at h
    split at h
    · rename_i b hb
      rw [List.getD_eq_getElem?_getD] at h
      cases hl : (pieces H r b)[i]? with
      | none => rw [hl] at h; simp at h
      | some l => rw [hl] at h; exact ⟨b, l, hb, hl, by simpa using h⟩
    · simp at h
  obtain ⟨b, l, h1, h2, h3⟩ := get h
  obtain ⟨b', l', h1', h2', h3'⟩ := get h'
  have m : y ∈ (pieces H r b).flatten := List.mem_flatten.2 ⟨l, List.mem_of_getElem? h2, h3⟩
  have m' : y ∈ (pieces H r b').flatten := List.mem_flatten.2 ⟨l', List.mem_of_getElem? h2', h3'⟩
  have e1 := ownr_spec hn (j := j) (l := (pieces H r b).flatten) (by simp [h1]) m
  have e2 := ownr_spec hn (j := j') (l := (pieces H r b').flatten) (by simp [h1']) m'
  have hj : j = j' := e1.symm.trans e2
  subst hj
  rw [h1] at h1'; obtain rfl := Option.some.inj h1'
  have hsub : (pieces H r b).flatten.Nodup := hn.sublist (List.sublist_flatten_of_mem (List.mem_map.2 ⟨b, List.mem_of_getElem? h1, rfl⟩))
  have e3 := ownr_spec hsub h2 h3
  have e4 := ownr_spec hsub h2' h3'
  rw [← e3, ← e4]

theorem nodup_get {r : List Nat} (h : r.Nodup) {i j b : Nat} (hi : r[i]? = some b) (hj : r[j]? = some b) : i = j := by
  obtain ⟨h1, h2⟩ := List.getElem?_eq_some_iff.1 hi
  obtain ⟨h3, h4⟩ := List.getElem?_eq_some_iff.1 hj
  have hp := List.pairwise_iff_getElem.1 h
  rcases Nat.lt_trichotomy i j with h5 | h5 | h5
  · exact absurd (h2.trans h4.symm) (hp i j h1 h3 h5)
  · exact h5
  · exact absurd (h4.trans h2.symm) (hp j i h3 h1 h5)

theorem envA_map (L : List Nat) (g : Nat → V) (t : Nat) : envA (L.map fun t => (t, g t)) t = .un ∨ envA (L.map fun t => (t, g t)) t = g t := by
  induction L with
  | nil => exact .inl rfl
  | cons a L ih =>
    simp only [List.map_cons, envA]
    by_cases h : a = t
    · rw [if_pos h, h]; exact .inr rfl
    · rw [if_neg h]; exact ih

open Classical in
theorem nm_sim (q : Sim β ω no2 sB sA) {L : List Nat} {sB' : S} (h : nmS L sB = some sB') : ∃ β' ω', Sim β' ω' no2 sB' sA := by
  unfold nmS at h
  simp only at h
  generalize dedup (L.flatMap fun t => refs 3 (sB.e t)) = r at h
  split at h
  case h_2 => cases h
  rename_i bs ids hbs
  split at h
  case isFalse => cases h
  rename_i hnd
  obtain rfl := Option.some.inj h
  obtain ⟨hids, hget⟩ := renBs_get hbs
  rw [List.nodup_append] at hnd
  obtain ⟨hn1, hn2, hn3⟩ := hnd
  have hpu : ∀ {p p' : Nat × Nat} {y : Nat}, y ∈ pieceOf sB.H r p → y ∈ pieceOf sB.H r p' → p = p' := fun h h' => pieceOf_uniq (by rw [← hids]; exact hn1) h h'
  have hpm : ∀ {p : Nat × Nat} {y : Nat}, y ∈ pieceOf sB.H r p → y ∈ ids := by
    intro p y h
    unfold pieceOf at h
    split at h
    · rename_i b hb
      rw [List.getD_eq_getElem?_getD] at h
      cases hl : (pieces sB.H r b)[p.2]? with
      | none => rw [hl] at h; simp at h
      | some l =>
        rw [hl] at h
        rw [hids]
        exact List.mem_flatten.2 ⟨_, List.mem_map.2 ⟨b, List.mem_of_getElem? hb, rfl⟩, List.mem_flatten.2 ⟨l, List.mem_of_getElem? hl, by simpa using h⟩⟩
    · simp at h
  let Q : Nat × Nat → Nat → Prop := fun p y => ∃ b, r[p.1]? = some b ∧ ((ω y = some (b, p.2) ∧ ∀ b2, β b2 ≠ some y) ∨ Rtd β ω (pieceOf sB.H r p) y)
  have hQ : ∀ p p' y, Q p y → Q p' y → p = p' := by
    rintro p p' y ⟨b, hb, h⟩ ⟨b', hb', h'⟩
    have own : ∀ {b i : Nat}, (ω y = some (b, i) ∧ ∀ b2, β b2 ≠ some y) → Rtd β ω [b] y := fun h => ⟨_, List.mem_singleton.2 rfl, .inr ⟨h.2, _, h.1⟩⟩
    rcases h with h | h <;> rcases h' with h' | h'
    · have e := h.1.symm.trans h'.1
      obtain ⟨rfl, e2⟩ := Prod.mk.inj (Option.some.inj e)
      exact Prod.ext (nodup_get hn2 hb hb') e2
    · obtain ⟨b2, h1, h2⟩ := (own h).uniq q h'
      rw [List.mem_singleton] at h1; subst h1
      exact absurd rfl (hn3 b2 (hpm h2) b2 (List.mem_of_getElem? hb))
    · obtain ⟨b2, h1, h2⟩ := (own h').uniq q h
      rw [List.mem_singleton] at h1; subst h1
      exact absurd rfl (hn3 b2 (hpm h2) b2 (List.mem_of_getElem? hb'))
    · obtain ⟨b2, h1, h2⟩ := h.uniq q h'
      exact hpu h1 h2
  refine ⟨betR β r, fun y => if h : ∃ p, Q p y then some (Classical.choose h) else none, rfl, q.fzA, q.nofr, fun j j2 x h1 h2 => ?_, fun j hj => ?_, fun j x hx => ?_, q.bdA, fun j hj => ?_, fun t => ?_, fun j B hB => ?_⟩
  · obtain ⟨b, hb, h1⟩ := Option.bind_eq_some_iff.1 h1
    obtain ⟨b2, hb2, h2⟩ := Option.bind_eq_some_iff.1 h2
    obtain rfl := q.inj _ _ _ h1 h2
    exact nodup_get hn2 hb hb2
  · simp only [betR]; rw [List.getElem?_eq_none hj]; rfl
  · obtain ⟨b, hb, h1⟩ := Option.bind_eq_some_iff.1 hx
    exact q.rng b x h1
  · show (bs[j]?).bind id = none
    cases hbj : bs[j]? with
    | none => rfl
    | some X =>
      exfalso
      have hl : bs.length = r.length := renBs_len hbs
      have := (List.getElem?_eq_some_iff.1 hbj).1
      simp only at hj
      omega
  · have one : isUn (match ren sB.H r 3 (sB.e t) with | some (v, []) => v | _ => V.un) = true ∨ Lk (betR β r) sA.H (match ren sB.H r 3 (sB.e t) with | some (v, []) => v | _ => V.un) (sA.e t) [] := by
      split
      · rename_i v hv
        rcases q.env t with h | h
        · left
          rw [isUn_iff.1 h] at hv
          simp only [ren, Option.some.injEq, Prod.mk.injEq, and_true] at hv
          rw [← hv]; rfl
        · right
          obtain ⟨xs, g1, _, _, g4, _⟩ := ren_sim q (r := r) 3 _ _ _ _ _ hv h
          rw [g4 rfl rfl] at g1
          exact g1
      · exact .inl rfl
    have key : ∀ E : V, E = .un ∨ E = (match ren sB.H r 3 (sB.e t) with | some (v, []) => v | _ => V.un) → isUn E = true ∨ Lk (betR β r) sA.H E (sA.e t) [] := by
      rintro E (rfl | rfl)
      · exact .inl rfl
      · exact one
    exact key _ (envA_map L (fun t => match ren sB.H r 3 (sB.e t) with | some (v, []) => v | _ => V.un) t)
  · have hB' : (bs[j]?).bind id = some B := hB
    obtain ⟨X, hX, hXB⟩ := Option.bind_eq_some_iff.1 hB'
    simp only [id] at hXB
    subst hXB
    have hjl : j < r.length := by
      rw [← renBs_len hbs]; exact (List.getElem?_eq_some_iff.1 hX).1
    obtain ⟨X, hX', hcase⟩ := hget j r[j] (List.getElem?_eq_getElem hjl)
    rw [hX] at hX'
    obtain rfl := Option.some.inj hX'
    rcases hcase with ⟨_, h⟩ | ⟨B0, es', l, hB0, hov, h⟩
    · cases h
    obtain rfl := Option.some.inj h
    obtain ⟨h0, x, A, h1, h2, h3, h4, h5⟩ := q.blk _ B0 hB0
    obtain ⟨k1, k2, k3⟩ := overL_pcs hov
    refine ⟨h0, x, A, by simp [betR, hjl, h1], h2, h3, by rw [k2]; exact h4, fun i v a _ hv ha => ?_⟩
    have hlt : i < B0.es.length := by rw [← k2]; exact (List.getElem?_eq_some_iff.1 hv).1
    obtain ⟨t, li, ht, hr⟩ := k3 i _ (List.getElem?_eq_getElem hlt)
    rw [hv] at ht; obtain rfl := Option.some.inj ht
    rcases h5 i _ a (fun h => h) (List.getElem?_eq_getElem hlt) ha with hdd | ⟨Li, hLi, hLn, hLo⟩
    · left
      rw [hdd] at hr
      have hr' : ren sB.H r DEP V.dd = some (V.dd, []) := rfl
      rw [hr'] at hr
      exact (Prod.mk.inj (Option.some.inj hr)).1.symm
    right
    have hpi : pieceOf sB.H r (j, i) = li := by
      simp only [pieceOf, List.getElem?_eq_getElem hjl, pieces, hB0, List.getD_eq_getElem?_getD, List.getElem?_map, List.getElem?_eq_getElem hlt, Option.map_some, hr, Option.getD_some]
    have hown : ∀ y ∈ Li, Rtd β ω [r[j]] y := fun y hy => ⟨_, by simp, .inr ⟨(hLo y hy).2, i, (hLo y hy).1⟩⟩
    have hnli : li.Nodup := by
      have : li.Sublist ids := by
        rw [hids]
        refine List.Sublist.trans (List.sublist_flatten_of_mem (L := pieces sB.H r r[j]) ?_) (List.sublist_flatten_of_mem (List.mem_map.2 ⟨r[j], List.getElem_mem hjl, rfl⟩))
        simp only [pieces, hB0]
        exact List.mem_map.2 ⟨B0.es[i], List.getElem_mem hlt, by simp [hr]⟩
      exact hn1.sublist this
    obtain ⟨xs, g1, g2, g3, _, _⟩ := ren_sim q (r := r) DEP _ _ _ _ _ hr hLi
    refine ⟨xs, g1, g3 hnli hLn (fun y hy hh => ?_), fun y hy => ⟨?_, fun b2 hh => ?_⟩⟩
    · obtain ⟨b, e1, e2⟩ := (hown y hy).uniq q hh
      rw [List.mem_singleton] at e1; subst e1
      exact absurd rfl (hn3 _ (hpm (p := (j, i)) (by rw [hpi]; exact e2)) _ (List.getElem_mem hjl))
    · have hq : Q (j, i) y := by
        refine ⟨r[j], List.getElem?_eq_getElem hjl, ?_⟩
        rcases g2 y hy with h | h
        · exact .inl (hLo y h)
        · right; rw [hpi]; exact h
      show (if h : ∃ p, Q p y then some (Classical.choose h) else none) = _
      have hex : ∃ p, Q p y := ⟨_, hq⟩
      rw [dif_pos hex]
      rw [hQ _ _ _ (Classical.choose_spec hex) hq]
    · obtain ⟨b, hb, h6⟩ := Option.bind_eq_some_iff.1 hh
      rcases g2 y hy with h | h
      · exact (hLo y h).2 b h6
      · have : Rtd β ω [b] y := ⟨b, by simp, .inl h6⟩
        obtain ⟨b3, e1, e2⟩ := this.uniq q h
        rw [List.mem_singleton] at e1; subst e1
        exact absurd rfl (hn3 _ (hpm (p := (j, i)) (by rw [hpi]; exact e2)) _ (List.mem_of_getElem? hb))

end Go.Am
