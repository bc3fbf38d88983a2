/- The B-machine, part 10: calls. -/
import Derived.Test.YthpaolkonlhjfaaAm30
set_option linter.all false
namespace Go.Am
variable {β : Bet} {ω : Omg} {sB sA : S}

theorem lendB1_sim (q : Sim β ω no2 sB sA) {v t a : V} {os : List Nat} (h : lendB1 sB.H v = some (t, os)) (hl : Lk β sA.H v a []) :
    ∃ xs, lend1 sA.H a = some (t, xs) ∧ (∀ x ∈ xs, Rtd β ω os x) ∧ (os.Nodup → xs.Nodup) ∧ Pur t := by
  have gv : giveB 8 sB.H v = some (t, os) → lend1 sA.H a = give 8 sA.H a → ∃ xs, lend1 sA.H a = some (t, xs) ∧ (∀ x ∈ xs, Rtd β ω os x) ∧ (os.Nodup → xs.Nodup) ∧ Pur t := fun hg e => by
    obtain ⟨xs, k1, k2, k3, k4⟩ := giveB_sim q 8 v t a os [] hg hl
    exact ⟨xs, by rw [e, k1], fun x hx => (k2 x hx).resolve_left (by simp), fun hn => k3 hn List.nodup_nil (by simp), k4⟩
  cases v
  case hs b off n c =>
    obtain ⟨x, hx, rfl⟩ := Lk_hs hl
    simp only [lendB1] at h
    split at h
    · rename_i hn
      obtain ⟨rfl, rfl⟩ := Prod.mk.inj (Option.some.inj h)
      exact ⟨[], by simp only [lend1]; rw [if_pos hn], by simp, fun _ => List.nodup_nil, by simp [Pur, RorL]⟩
    · rename_i hn
      exact gv h (by simp only [lend1]; rw [if_neg hn])
  case im => rw [Lk_im hl] at gv ⊢; exact gv h rfl
  case e0 => rw [Lk_e0 hl] at gv ⊢; exact gv h rfl
  case sl => rw [(Lk_sl hl).1] at gv ⊢; exact gv h rfl
  case rp => rw [(Lk_rp hl).1] at gv ⊢; exact gv h rfl
  case hp => obtain ⟨_, _, rfl⟩ := Lk_hp hl; exact gv h rfl
  case hf => obtain ⟨_, _, rfl⟩ := Lk_hf hl; exact gv h rfl
  case st => obtain ⟨_, rfl, _⟩ := Lk_st hl; exact gv h rfl
  case tu =>
    have hl' := hl
    simp only [Lk] at hl'; obtain ⟨_, rfl, _⟩ := hl'; exact gv h rfl
  case cl =>
    have hl' := hl
    simp only [Lk] at hl'; obtain ⟨⟨_, rfl, _⟩, _⟩ := hl'; exact gv h rfl
  case ow => simp only [Lk] at hl; obtain ⟨⟨d, hg⟩, _⟩ := hl; obtain ⟨_, _, _, _, _, _, _, _, e, _⟩ := giveX_ow hg; cases e
  case op => simp only [Lk] at hl; obtain ⟨⟨d, hg⟩, _⟩ := hl; obtain ⟨_, _, _, _, _, _, _, _, _, e, _⟩ := giveX_op hg; cases e
theorem lendB1L_sim (q : Sim β ω no2 sB sA) : ∀ (vs ts as : List V) (os : List Nat), overL (lendB1 sB.H) vs = some (ts, os) → LkL β sA.H vs as [] →
    ∃ xs, overL (lend1 sA.H) as = some (ts, xs) ∧ (∀ x ∈ xs, Rtd β ω os x) ∧ (os.Nodup → xs.Nodup) ∧ PurL ts
  | [], ts, as, os, h, hl => by
    simp only [overL, Option.some.injEq, Prod.mk.injEq] at h
    obtain ⟨rfl, rfl⟩ := h
    simp only [LkL] at hl
    obtain ⟨rfl, _⟩ := hl
    exact ⟨[], rfl, by simp, fun _ => List.nodup_nil, trivial⟩
  | v :: vs, ts, as, os, h, hl => by
    obtain ⟨t, ts', o1, o2, h2, h3, rfl, rfl⟩ := overL_cons h
    obtain ⟨a, as', L1, L2, rfl, e, l1, l2⟩ := LkL_cons_inv hl
    obtain ⟨rfl, rfl⟩ := List.append_eq_nil_iff.1 e.symm
    obtain ⟨xs1, g1, g2, g3, g4⟩ := lendB1_sim q h2 l1
    obtain ⟨xs2, k1, k2, k3, k4⟩ := lendB1L_sim q vs ts' as' o2 h3 l2
    refine ⟨xs1 ++ xs2, overL_mk g1 k1, fun x hx => ?_, fun hn => ?_, ⟨g4, k4⟩⟩
    · rcases List.mem_append.1 hx with hx | hx
      · exact (g2 x hx).mono (by simp +contextual)
      · exact (k2 x hx).mono (by simp +contextual)
    · rw [List.nodup_append] at hn ⊢
      refine ⟨g3 hn.1, k3 hn.2.1, fun x hx y hy e => ?_⟩
      subst e
      obtain ⟨b, hb, hb'⟩ := (g2 x hx).uniq q (k2 x hy)
      exact hn.2.2 b hb b hb' rfl
theorem lendB_sim (q : Sim β ω no2 sB sA) {v t a : V} {os : List Nat} (h : lendB sB.H v = some (t, os)) (hl : Lk β sA.H v a []) :
    ∃ xs, lend sA.H a = some (t, xs) ∧ (∀ x ∈ xs, Rtd β ω os x) ∧ (os.Nodup → xs.Nodup) ∧ Pur t := by
  by_cases hst : ∃ cs, v = .st cs
  · obtain ⟨cs, rfl⟩ := hst
    obtain ⟨as, rfl, hl'⟩ := Lk_st hl
    simp only [lendB] at h
    split at h
    case h_2 => cases h
    rename_i ts i hts
    obtain ⟨rfl, rfl⟩ := Prod.mk.inj (Option.some.inj h)
    obtain ⟨xs, k1, k2, k3, k4⟩ := lendB1L_sim q cs ts as i hts hl'
    exact ⟨xs, by simp only [lend, k1], k2, k3, by simpa only [Pur] using k4⟩
  · have e1 : lendB sB.H v = lendB1 sB.H v := by cases v <;> first | rfl | exact absurd ⟨_, rfl⟩ hst
    have e2 : lend sA.H a = lend1 sA.H a := by
      unfold lend
      split
      · exfalso
        cases v
        case st => exact hst ⟨_, rfl⟩
        case im => cases Lk_im hl
        case e0 => cases Lk_e0 hl
        case sl => cases (Lk_sl hl).1
        case rp => cases (Lk_rp hl).1
        case hs => obtain ⟨_, _, e⟩ := Lk_hs hl; cases e
        case hp => obtain ⟨_, _, e⟩ := Lk_hp hl; cases e
        case hf => obtain ⟨_, _, e⟩ := Lk_hf hl; cases e
        case tu => simp only [Lk] at hl; obtain ⟨_, e, _⟩ := hl; cases e
        case cl => simp only [Lk] at hl; obtain ⟨⟨_, e, _⟩, _⟩ := hl; cases e
        case ow => simp only [Lk] at hl; obtain ⟨⟨d, hg⟩, _⟩ := hl; obtain ⟨_, _, _, _, e, _⟩ := giveX_ow hg; cases e
        case op => simp only [Lk] at hl; obtain ⟨⟨d, hg⟩, _⟩ := hl; obtain ⟨_, _, _, _, _, e, _⟩ := giveX_op hg; cases e
      · rfl
    rw [e1] at h
    rw [e2]
    exact lendB1_sim q h hl

theorem handB_sim (q : Sim β ω no2 sB sA) : ∀ (ms : List M) (vs as ts : List V) (rs os : List Nat), handB sB.H ms vs = some (ts, rs, os) → LkL β sA.H vs as [] →
    ∃ rsA osA, handL sA.H ms as = some (ts, rsA, osA) ∧ (∀ x ∈ rsA, Rtd β ω rs x) ∧ (∀ x ∈ osA, Rtd β ω os x) ∧ (os.Nodup → osA.Nodup) ∧ PurL ts
  | ms, [], as, ts, rs, os, h, hl => by
    simp only [LkL] at hl
    obtain ⟨rfl, _⟩ := hl
    simp only [handB, Option.some.injEq, Prod.mk.injEq] at h
    obtain ⟨rfl, rfl, rfl⟩ := h
    exact ⟨[], [], by simp only [handL], by simp, by simp, fun _ => List.nodup_nil, trivial⟩
  | ms, v :: vs, as, ts, rs, os, h, hl => by
    obtain ⟨a, as', L1, L2, rfl, e, l1, l2⟩ := LkL_cons_inv hl
    obtain ⟨rfl, rfl⟩ := List.append_eq_nil_iff.1 e.symm
    simp only [handB] at h
    split at h
    case h_2 => cases h
    rename_i t r o h1
    split at h
    case h_2 => cases h
    rename_i ts' rs' os' h2
    simp only [Option.some.injEq, Prod.mk.injEq] at h
    obtain ⟨rfl, rfl, rfl⟩ := h
    obtain ⟨rsA, osA, g1, g2, g3, g4, g5⟩ := handB_sim q ms.tail vs as' ts' rs' os' h2 l2
    have one : ∃ rA oA, (match ms.headD .ro with
      | .ro => (snap DEP sA.H a).map fun x => (x.1, x.2, ([] : List Nat))
      | .tk => (give DEP sA.H a).map fun x => (x.1, ([] : List Nat), x.2)
      | .io => (lend sA.H a).map fun x => (x.1, ([] : List Nat), x.2)) = some (t, rA, oA) ∧ (∀ x ∈ rA, Rtd β ω r x) ∧ (∀ x ∈ oA, Rtd β ω o x) ∧ (o.Nodup → oA.Nodup) ∧ Pur t := by
      have gv : ∀ {o : List Nat}, giveB DEP sB.H v = some (t, o) → r = [] → ∃ rA oA, (give DEP sA.H a).map (fun x => (x.1, ([] : List Nat), x.2)) = some (t, rA, oA) ∧ (∀ x ∈ rA, Rtd β ω r x) ∧ (∀ x ∈ oA, Rtd β ω o x) ∧ (o.Nodup → oA.Nodup) ∧ Pur t := by
        intro o hg hr
        obtain ⟨xs, k1, k2, k3, k4⟩ := giveB_sim q DEP v t a o [] hg l1
        exact ⟨[], xs, by rw [k1]; rfl, by simp, fun x hx => (k2 x hx).resolve_left (by simp), fun hn => k3 hn List.nodup_nil (by simp), k4⟩
      cases hm : ms.headD .ro with
      | ro =>
        rw [hm] at h1
        obtain ⟨⟨t', r'⟩, hx, hh⟩ := Option.map_eq_some_iff.1 h1
        simp only [Prod.mk.injEq] at hh
        obtain ⟨rfl, rfl, rfl⟩ := hh
        obtain ⟨xs, k1, k2, k3⟩ := snapB_sim q DEP v t' a r' [] hx l1
        exact ⟨xs, [], by simp only [k1]; rfl, fun x hx => (k2 x hx).resolve_left (by simp), by simp, fun _ => List.nodup_nil, k3.pur⟩
      | tk =>
        rw [hm] at h1
        obtain ⟨⟨t', r'⟩, hx, hh⟩ := Option.map_eq_some_iff.1 h1
        simp only [Prod.mk.injEq] at hh
        obtain ⟨rfl, rfl, rfl⟩ := hh
        exact gv hx rfl
      | io =>
        rw [hm] at h1
        obtain ⟨⟨t', r'⟩, hx, hh⟩ := Option.map_eq_some_iff.1 h1
        simp only [Prod.mk.injEq] at hh
        obtain ⟨rfl, rfl, rfl⟩ := hh
        obtain ⟨xs, k1, k2, k3, k4⟩ := lendB_sim q hx l1
        exact ⟨[], xs, by rw [k1]; rfl, by simp, k2, k3, k4⟩
    obtain ⟨rA, oA, k1, k2, k3, k4, k5⟩ := one
    refine ⟨rA ++ rsA, oA ++ osA, by cases hm : ms.headD .ro <;> rw [hm] at k1 <;> simp only [handL, hm] <;> simp only at k1 <;> simp only [k1, g1], fun x hx => ?_, fun x hx => ?_, fun hn => ?_, ⟨k5, g5⟩⟩
    · rcases List.mem_append.1 hx with h | h
      · exact (k2 x h).mono (by simp +contextual)
      · exact (g2 x h).mono (by simp +contextual)
    · rcases List.mem_append.1 hx with h | h
      · exact (k3 x h).mono (by simp +contextual)
      · exact (g3 x h).mono (by simp +contextual)
    · rw [List.nodup_append] at hn ⊢
      refine ⟨k4 hn.1, g4 hn.2.1, fun x hx y hy e => ?_⟩
      subst e
      obtain ⟨b, h3, h4⟩ := (k3 x hx).uniq q (g3 x hy)
      exact hn.2.2 b h3 b h4 rfl

/-- A block comes back, on either side. -/
theorem Sim.back {ω' : Omg} {ep : Nat → Nat → Prop} (q : Sim β ω ep sB sA) {b x : Nat} (hx : β b = some x) {k : Nat} {es as : List V} (hl : as.length = es.length)
    (he : ∀ i v a, es[i]? = some v → as[i]? = some a → Elt β ω' sA.H b i v a) (hω : ∀ y p, ω y = some p → sA.H y ≠ none → p.1 ≠ b → ¬ ep p.1 p.2 → ω' y = some p) :
    Sim β ω' ep (sB.blk b (some { k := k, es := es })) (sA.blk x (some { k := k, es := as })) := by
  have keep : ∀ y, (∀ b2, β b2 ≠ some y) → upd sA.H x (some { k := k, es := as }) y = sA.H y := fun y h => by
    rw [upd_ne]; rintro rfl; exact h b hx
  refine ⟨q.fzB, q.fzA, fun y A' hA' => ?_, q.inj, q.dom, q.rng, fun y hy => ?_, fun b2 hb => ?_, fun t => ?_, fun b2 B2 hB2 => ?_⟩
  · simp only [S.blk] at hA'
    by_cases e : y = x
    · subst e; rw [upd_same] at hA'; obtain rfl := Option.some.inj hA'; rfl
    · rw [upd_ne _ _ e] at hA'; exact q.nofr y A' hA'
  · show upd sA.H x _ y = none
    rw [upd_ne]; · exact q.bdA y hy
    rintro rfl; have := q.rng b y hx; exact absurd hy (by simp only [S.blk]; omega)
  · show upd sB.H b _ b2 = none
    rw [upd_ne]; · exact q.bdB b2 hb
    rintro rfl; have := q.lt hx; exact absurd hb (by simp only [S.blk]; omega)
  · rcases q.env t with h | h
    · exact .inl h
    · exact .inr (Lk.nil (fun _ _ h => h) h)
  · simp only [S.blk] at hB2 ⊢
    by_cases e : b2 = b
    · subst e
      rw [upd_same] at hB2
      obtain rfl := Option.some.inj hB2
      refine ⟨rfl, x, _, hx, upd_same _ _ _, rfl, hl, fun i v a _ hv ha => ?_⟩
      exact (he i v a hv ha).frame (fun _ _ h => h) fun y hy h6 h7 => ⟨keep y h7, h6, h7⟩
    · rw [upd_ne _ _ e] at hB2
      obtain ⟨h0, x', A', h1, h2, h3, h4, h5⟩ := q.blk b2 B2 hB2
      refine ⟨h0, x', A', h1, ?_, h3, h4, fun i v a hi hv ha => ?_⟩
      · rw [upd_ne]; · exact h2
        rintro rfl; exact e (q.inj _ _ _ h1 hx)
      · exact (h5 i v a hi hv ha).frame (fun _ _ h => h) fun y hy h6 h7 => ⟨keep y h7, hω y _ h6 hy e hi, h7⟩

/-- The blocks as they were before the call. -/
def OldB (β : Bet) (oB oA : Nat → Option Blk) : Prop := ∀ b B x, oB b = some B → β b = some x → ∃ A, oA x = some A ∧ A.k = B.k ∧ A.es.length = B.es.length

theorem backList {oA : Nat → Option Blk} (q : Sim β ω no2 sB sA) {b x : Nat} (hx : β b = some x) {k : Nat} {es : List V} (hok : allL (okD DEP) es = true) (hp : PurL es) :
    ∃ vs s1 ω', takeL (takeIn DEP) es sA = some (vs, s1) ∧ Sim β ω' no2 (sB.blk b (some { k := k, es := es })) (s1.blk x (some { k := k, es := vs })) := by
  obtain ⟨vs, s1, L, h1, g, xg, n, r⟩ := takeInL_X es sA hok q.bdA
  obtain ⟨Ls, e1, e2, e3, e4⟩ := split_ex xg
  have hβ : ∀ y ∈ L, ∀ b2, β b2 ≠ some y := fun y hy b2 hh => by have := q.rng b2 y hh; have := (r y hy).1; omega
  have q1 := ((q.omega (ω' := fun y => if sA.nx ≤ y then none else ω y) (fun y hy => if_neg (by have := q.there hy; omega))).grow g)
  have q2 := q1.back (ω' := fun y => if y ∈ L then some (b, ownr Ls y) else if sA.nx ≤ y then none else ω y) hx (k := k) (es := es) (as := vs) e3 (fun i v a hv ha => ?_) (fun y p hy _ _ _ => ?_)
  · exact ⟨vs, s1, _, h1, q2⟩
  · obtain ⟨l, hl1, hl2⟩ := e4 i a v ha hv
    have hlL : ∀ z ∈ l, z ∈ L := fun z hz => by rw [← e1]; exact List.mem_flatten.2 ⟨l, List.mem_of_getElem? hl1, hz⟩
    have hsub : l.Sublist L := by rw [← e1]; exact List.sublist_flatten_of_mem (List.mem_of_getElem? hl1)
    refine .inr ⟨l, Lk_of_giveX DEP a v l hl2 (PurL_iff.1 hp v (List.mem_of_getElem? hv)), n.sublist hsub, fun y hy => ⟨?_, hβ y (hlL y hy)⟩⟩
    show (if y ∈ L then some (b, ownr Ls y) else if sA.nx ≤ y then none else ω y) = _
    rw [if_pos (hlL y hy), ownr_spec (by rw [e1]; exact n) hl1 hy]
  · rw [if_neg]
    · exact hy
    · intro hyL
      have := (r y hyL).1
      have hy' : (if sA.nx ≤ y then none else ω y) = some p := hy
      rw [if_pos this] at hy'; cases hy'

theorem backVB_sim {oB oA : Nat → Option Blk} (ho : OldB β oB oA) (q : Sim β ω no2 sB sA) {v a t : V} (hl : Lk β sA.H v a []) (hp : Pur t) {sB' : S} (h : backVB oB v t sB = some sB') :
    ∃ ω' sA', backV oA a t sA = some sA' ∧ Sim β ω' no2 sB' sA' := by
  unfold backVB at h
  split at h
  · rename_i b off n c k es
    obtain ⟨x, hx, rfl⟩ := Lk_hs hl
    simp only [backV]
    split at h
    · rename_i he
      rw [if_pos he]
      split at h
      · rename_i hn; rw [if_pos hn]; obtain rfl := Option.some.inj h; exact ⟨ω, sA, rfl, q⟩
      · cases h
    · rename_i he
      rw [if_neg he]
      split at h
      case h_2 => cases h
      rename_i B hB
      split at h
      case isFalse => cases h
      rename_i hc
      obtain rfl := Option.some.inj h
      obtain ⟨A, hA, hAk, hAl⟩ := ho b B x hB hx
      simp only [hA]
      rw [if_pos ⟨hc.1, by rw [hAl]; exact hc.2.1, hc.2.2.1, by rw [hAk]; exact hc.2.2.2.1⟩]
      simp only [Pur] at hp
      obtain ⟨vs, s1, ω', h1, h2⟩ := backList (oA := oA) q hx (k := k) hc.2.2.2.2 hp
      rw [h1]
      exact ⟨ω', _, rfl, h2⟩
  · rename_i b i u
    obtain ⟨x, hx, rfl⟩ := Lk_hp hl
    simp only [backV]
    split at h
    case h_2 => cases h
    rename_i B hB
    split at h
    case isFalse => cases h
    rename_i hc
    obtain rfl := Option.some.inj h
    obtain ⟨A, hA, hAk, hAl⟩ := ho b B x hB hx
    simp only [hA]
    rw [if_pos ⟨hc.1, by rw [hAk]; exact hc.2.1⟩]
    simp only [Pur] at hp
    obtain ⟨vs, s1, ω', h1, h2⟩ := backList (oA := oA) q hx (k := u.size) (es := [u]) (by simp [allL, hc.2.2]) (by simp only [PurL]; exact ⟨hp, trivial⟩)
    simp only [takeL] at h1
    split at h1
    case h_2 => cases h1
    rename_i v' s2 hv
    simp only [Option.some.injEq, Prod.mk.injEq] at h1
    obtain ⟨rfl, rfl⟩ := h1
    try rw [hv]
    refine ⟨ω', _, rfl, ?_⟩
    rw [take_size hv]
    exact h2
  · rename_i b off n c es
    obtain ⟨x, hx, rfl⟩ := Lk_hs hl
    simp only [backV]
    split at h
    · rename_i hn; rw [if_pos hn]; obtain rfl := Option.some.inj h; exact ⟨ω, sA, rfl, q⟩
    · cases h
  · obtain rfl := Option.some.inj h
    rw [Lk_im hl]; exact ⟨ω, sA, rfl, q⟩
  · obtain rfl := Option.some.inj h
    rw [Lk_e0 hl]; exact ⟨ω, sA, rfl, q⟩
  · obtain rfl := Option.some.inj h
    rw [(Lk_sl hl).1]; exact ⟨ω, sA, rfl, q⟩
  · obtain rfl := Option.some.inj h
    rw [(Lk_rp hl).1]; exact ⟨ω, sA, rfl, q⟩
  · cases h

theorem backVsB_sim {oB oA : Nat → Option Blk} (ho : OldB β oB oA) : ∀ (vs as ts : List V) {ω : Omg} {sB sA : S} (sB' : S), Sim β ω no2 sB sA → LkL β sA.H vs as [] → PurL ts → backVsB oB vs ts sB = some sB' →
    ∃ ω' sA', backVs oA as ts sA = some sA' ∧ Sim β ω' no2 sB' sA'
  | [], as, [], ω, sB, sA, sB', q, hl, _, h => by
    simp only [LkL] at hl
    obtain ⟨rfl, _⟩ := hl
    simp only [backVsB, Option.some.injEq] at h
    subst h
    exact ⟨ω, sA, rfl, q⟩
  | [], as, t :: ts, ω, sB, sA, sB', q, hl, _, h => by simp [backVsB] at h
  | v :: vs, as, [], ω, sB, sA, sB', q, hl, _, h => by simp [backVsB] at h
  | v :: vs, as, t :: ts, ω, sB, sA, sB', q, hl, hp, h => by
    obtain ⟨a, as', L1, L2, rfl, e, l1, l2⟩ := LkL_cons_inv hl
    obtain ⟨rfl, rfl⟩ := List.append_eq_nil_iff.1 e.symm
    simp only [PurL] at hp
    simp only [backVsB] at h
    split at h
    case h_2 => cases h
    rename_i s1 h1
    obtain ⟨ω1, sA1, g1, q1⟩ := backVB_sim ho q l1 hp.1 h1
    obtain ⟨ω2, sA2, g2, q2⟩ := backVsB_sim ho vs as' ts _ q1 (LkL.nil (fun _ _ h => h) l2) hp.2 h
    exact ⟨ω2, sA2, by simp only [backVs, g1, g2], q2⟩

theorem back1B_sim {oB oA : Nat → Option Blk} (ho : OldB β oB oA) (q : Sim β ω no2 sB sA) {v a t : V} (hl : Lk β sA.H v a []) (hp : Pur t) {sB' : S} (h : back1B oB v t sB = some sB') :
    ∃ ω' sA', back1 oA a t sA = some sA' ∧ Sim β ω' no2 sB' sA' := by
  unfold back1B at h
  split at h
  · rename_i vs ts
    obtain ⟨as, rfl, hl2⟩ := Lk_st hl
    simp only [Pur] at hp
    exact backVsB_sim ho vs as ts _ q hl2 hp h
  · rename_i hno
    obtain ⟨ω', sA', g1, g2⟩ := backVB_sim ho q hl hp h
    refine ⟨ω', sA', ?_, g2⟩
    have : back1 oA a t sA = backV oA a t sA := by
      unfold back1
      split
      · rename_i vs ts
        exfalso
        cases v
        case st => exact hno _ _ rfl rfl
        case im => cases Lk_im hl
        case e0 => cases Lk_e0 hl
        case sl => cases (Lk_sl hl).1
        case rp => cases (Lk_rp hl).1
        case hs => obtain ⟨_, _, e⟩ := Lk_hs hl; cases e
        case hp => obtain ⟨_, _, e⟩ := Lk_hp hl; cases e
        case hf => obtain ⟨_, _, e⟩ := Lk_hf hl; cases e
        case tu => simp only [Lk] at hl; obtain ⟨_, e, _⟩ := hl; cases e
        case cl => simp only [Lk] at hl; obtain ⟨⟨_, e, _⟩, _⟩ := hl; cases e
        case ow => simp only [Lk] at hl; obtain ⟨⟨d, hg⟩, _⟩ := hl; obtain ⟨_, _, _, _, e, _⟩ := giveX_ow hg; cases e
        case op => simp only [Lk] at hl; obtain ⟨⟨d, hg⟩, _⟩ := hl; obtain ⟨_, _, _, _, _, e, _⟩ := giveX_op hg; cases e
      · rfl
    rw [this]; exact g1

theorem backLB_sim {oB oA : Nat → Option Blk} (ho : OldB β oB oA) : ∀ (vs as ts : List V) {ω : Omg} {sB sA : S} (sB' : S), Sim β ω no2 sB sA → LkL β sA.H vs as [] → PurL ts → backLB oB vs ts sB = some sB' →
    ∃ ω' sA', backL oA as ts sA = some sA' ∧ Sim β ω' no2 sB' sA'
  | [], as, [], ω, sB, sA, sB', q, hl, _, h => by
    simp only [LkL] at hl
    obtain ⟨rfl, _⟩ := hl
    simp only [backLB, Option.some.injEq] at h
    subst h
    exact ⟨ω, sA, rfl, q⟩
  | [], as, t :: ts, ω, sB, sA, sB', q, hl, _, h => by simp [backLB] at h
  | v :: vs, as, [], ω, sB, sA, sB', q, hl, _, h => by simp [backLB] at h
  | v :: vs, as, t :: ts, ω, sB, sA, sB', q, hl, hp, h => by
    obtain ⟨a, as', L1, L2, rfl, e, l1, l2⟩ := LkL_cons_inv hl
    obtain ⟨rfl, rfl⟩ := List.append_eq_nil_iff.1 e.symm
    simp only [PurL] at hp
    simp only [backLB] at h
    split at h
    case h_2 => cases h
    rename_i s1 h1
    obtain ⟨ω1, sA1, g1, q1⟩ := back1B_sim ho q l1 hp.1 h1
    obtain ⟨ω2, sA2, g2, q2⟩ := backLB_sim ho vs as' ts _ q1 (LkL.nil (fun _ _ h => h) l2) hp.2 h
    exact ⟨ω2, sA2, by simp only [backL, g1, g2], q2⟩

theorem lent_lk {H : Nat → Option Blk} : ∀ (ms : List M) (vs as : List V), LkL β H vs as [] → LkL β H (lent ms vs) (lent ms as) []
  | ms, [], as, h => by simp only [LkL] at h; obtain ⟨rfl, _⟩ := h; simp [lent, LkL]
  | ms, v :: vs, as, h => by
    obtain ⟨a, as', L1, L2, rfl, e, l1, l2⟩ := LkL_cons_inv h
    obtain ⟨rfl, rfl⟩ := List.append_eq_nil_iff.1 e.symm
    have := lent_lk ms.tail vs as' l2
    simp only [lent]
    cases ms.headD .ro with
    | io => simp only [LkL]; exact ⟨a, _, [], [], rfl, rfl, l1, this⟩
    | ro => exact this
    | tk => exact this

/-- What the evaluation of a function in B says, is so in A. -/
def IsoS (Γ : Env) (T : Nat → Option FB) (e : CB → S → Option R) : Prop := ∀ f ms ts t us, isoB Γ T e f ms ts = some (t, us) → PurL ts → isoCall Γ (EX Γ) f ms ts = some (t, us) ∧ Pur t ∧ PurL us

end Go.Am
