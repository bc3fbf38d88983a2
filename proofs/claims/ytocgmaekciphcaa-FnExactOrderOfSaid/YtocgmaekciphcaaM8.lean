/-
  A machine of trees and its soundness over the model, part 8.
-/
import Derived.Test.YtocgmaekciphcaaM7
import Derived.IntWalk
set_option linter.all false
/- The B-machine, part 10: calls. -/
namespace Go.Am
variable {β : Bet} {ω : Omg} {sB sA : S}

theorem lendB1_sim (q : Sim β ω no2 sB sA) {v t a : V} {os : List Nat} (h : lendB1 sB.H v = some (t, os)) (hl : Lk β sA.H v a []) :
    ∃ xs, lend1 sA.H a = some (t, xs) ∧ (∀ x ∈ xs, Rtd β ω os x) ∧ (os.Nodup → xs.Nodup) ∧ Pur t := by
  have gv : giveB 8 sB.H v = some (t, os) → lend1 sA.H a = give 8 sA.H a → ∃ xs, lend1 sA.H a = some (t, xs) ∧ (∀ x ∈ xs, Rtd β ω os x) ∧ (os.Nodup → xs.Nodup) ∧ Pur t := fun hg e => by
    obtain ⟨xs, k1, k2, k3, k4⟩ := giveB_sim q 8 v t a os [] hg hl
    exact ⟨xs, by rw [e, k1], fun x hx => (k2 x hx).resolve_left (by simp), fun hn => k3 hn List.nodup_nil (by simp), k4⟩
  cases v
  case hs b off n c =>
    obtain ⟨x, hx, rfl⟩ := Lk_hs hl
    simp only [lendB1] at h
    split at h
    · rename_i hn
      obtain ⟨rfl, rfl⟩ := Prod.mk.inj (Option.some.inj h)
      exact ⟨[], by simp only [lend1]; rw [if_pos hn], by simp, fun _ => List.nodup_nil, by simp [Pur, RorL]⟩
    · rename_i hn
      exact gv h (by simp only [lend1]; rw [if_neg hn])
  case im => rw [Lk_im hl] at gv ⊢; exact gv h rfl
  case e0 => rw [Lk_e0 hl] at gv ⊢; exact gv h rfl
  case sl => rw [(Lk_sl hl).1] at gv ⊢; exact gv h rfl
  case rp => rw [(Lk_rp hl).1] at gv ⊢; exact gv h rfl
  case hp => obtain ⟨_, _, rfl⟩ := Lk_hp hl; exact gv h rfl
  case hf => obtain ⟨_, _, rfl⟩ := Lk_hf hl; exact gv h rfl
  case st => obtain ⟨_, rfl, _⟩ := Lk_st hl; exact gv h rfl
  case tu =>
    have hl' := hl
    simp only [Lk] at hl'; obtain ⟨_, rfl, _⟩ := hl'; exact gv h rfl
  case cl =>
    have hl' := hl
    simp only [Lk] at hl'; obtain ⟨⟨_, rfl, _⟩, _⟩ := hl'; exact gv h rfl
  case ow => simp only [Lk] at hl; obtain ⟨⟨d, hg⟩, _⟩ := hl; obtain ⟨_, _, _, _, _, _, _, _, e, _⟩ := giveX_ow hg; cases e
  case op => simp only [Lk] at hl; obtain ⟨⟨d, hg⟩, _⟩ := hl; obtain ⟨_, _, _, _, _, _, _, _, _, e, _⟩ := giveX_op hg; cases e
theorem lendB1L_sim (q : Sim β ω no2 sB sA) : ∀ (vs ts as : List V) (os : List Nat), overL (lendB1 sB.H) vs = some (ts, os) → LkL β sA.H vs as [] →
    ∃ xs, overL (lend1 sA.H) as = some (ts, xs) ∧ (∀ x ∈ xs, Rtd β ω os x) ∧ (os.Nodup → xs.Nodup) ∧ PurL ts
  | [], ts, as, os, h, hl => by
    simp only [overL, Option.some.injEq, Prod.mk.injEq] at h
    obtain ⟨rfl, rfl⟩ := h
    simp only [LkL] at hl
    obtain ⟨rfl, _⟩ := hl
    exact ⟨[], rfl, by simp, fun _ => List.nodup_nil, trivial⟩
  | v :: vs, ts, as, os, h, hl => by
    obtain ⟨t, ts', o1, o2, h2, h3, rfl, rfl⟩ := overL_cons h
    obtain ⟨a, as', L1, L2, rfl, e, l1, l2⟩ := LkL_cons_inv hl
    obtain ⟨rfl, rfl⟩ := List.append_eq_nil_iff.1 e.symm
    obtain ⟨xs1, g1, g2, g3, g4⟩ := lendB1_sim q h2 l1
    obtain ⟨xs2, k1, k2, k3, k4⟩ := lendB1L_sim q vs ts' as' o2 h3 l2
    refine ⟨xs1 ++ xs2, overL_mk g1 k1, fun x hx => ?_, fun hn => ?_, ⟨g4, k4⟩⟩
    · rcases List.mem_append.1 hx with hx | hx
      · exact (g2 x hx).mono (by simp +contextual)
      · exact (k2 x hx).mono (by simp +contextual)
    · rw [List.nodup_append] at hn ⊢
      refine ⟨g3 hn.1, k3 hn.2.1, fun x hx y hy e => ?_⟩
      subst e
      obtain ⟨b, hb, hb'⟩ := (g2 x hx).uniq q (k2 x hy)
      exact hn.2.2 b hb b hb' rfl
theorem lendB_sim (q : Sim β ω no2 sB sA) {v t a : V} {os : List Nat} (h : lendB sB.H v = some (t, os)) (hl : Lk β sA.H v a []) :
    ∃ xs, lend sA.H a = some (t, xs) ∧ (∀ x ∈ xs, Rtd β ω os x) ∧ (os.Nodup → xs.Nodup) ∧ Pur t := by
  by_cases hst : ∃ cs, v = .st cs
  · obtain ⟨cs, rfl⟩ := hst
    obtain ⟨as, rfl, hl'⟩ := Lk_st hl
    simp only [lendB] at h
    split at h
    case h_2 => cases h
    rename_i ts i hts
    obtain ⟨rfl, rfl⟩ := Prod.mk.inj (Option.some.inj h)
    obtain ⟨xs, k1, k2, k3, k4⟩ := lendB1L_sim q cs ts as i hts hl'
    exact ⟨xs, by simp only [lend, k1], k2, k3, by simpa only [Pur] using k4⟩
  · have e1 : lendB sB.H v = lendB1 sB.H v := by cases v <;> first | rfl | exact absurd ⟨_, rfl⟩ hst
    have e2 : lend sA.H a = lend1 sA.H a := by
      unfold lend
      split
      · exfalso
        cases v
        case st => exact hst ⟨_, rfl⟩
        case im => cases Lk_im hl
        case e0 => cases Lk_e0 hl
        case sl => cases (Lk_sl hl).1
        case rp => cases (Lk_rp hl).1
        case hs => obtain ⟨_, _, e⟩ := Lk_hs hl; cases e
        case hp => obtain ⟨_, _, e⟩ := Lk_hp hl; cases e
        case hf => obtain ⟨_, _, e⟩ := Lk_hf hl; cases e
        case tu => simp only [Lk] at hl; obtain ⟨_, e, _⟩ := hl; cases e
        case cl => simp only [Lk] at hl; obtain ⟨⟨_, e, _⟩, _⟩ := hl; cases e
        case ow => simp only [Lk] at hl; obtain ⟨⟨d, hg⟩, _⟩ := hl; obtain ⟨_, _, _, _, e, _⟩ := giveX_ow hg; cases e
        case op => simp only [Lk] at hl; obtain ⟨⟨d, hg⟩, _⟩ := hl; obtain ⟨_, _, _, _, _, e, _⟩ := giveX_op hg; cases e
      · rfl
    rw [e1] at h
    rw [e2]
    exact lendB1_sim q h hl

theorem handB_sim (q : Sim β ω no2 sB sA) : ∀ (ms : List M) (vs as ts : List V) (rs os : List Nat), handB sB.H ms vs = some (ts, rs, os) → LkL β sA.H vs as [] →
    ∃ rsA osA, handL sA.H ms as = some (ts, rsA, osA) ∧ (∀ x ∈ rsA, Rtd β ω rs x) ∧ (∀ x ∈ osA, Rtd β ω os x) ∧ (os.Nodup → osA.Nodup) ∧ PurL ts
  | ms, [], as, ts, rs, os, h, hl => by
    simp only [LkL] at hl
    obtain ⟨rfl, _⟩ := hl
    simp only [handB, Option.some.injEq, Prod.mk.injEq] at h
    obtain ⟨rfl, rfl, rfl⟩ := h
    exact ⟨[], [], by simp only [handL], by simp, by simp, fun _ => List.nodup_nil, trivial⟩
  | ms, v :: vs, as, ts, rs, os, h, hl => by
    obtain ⟨a, as', L1, L2, rfl, e, l1, l2⟩ := LkL_cons_inv hl
    obtain ⟨rfl, rfl⟩ := List.append_eq_nil_iff.1 e.symm
    simp only [handB] at h
    split at h
    case h_2 => cases h
    rename_i t r o h1
    split at h
    case h_2 => cases h
    rename_i ts' rs' os' h2
    simp only [Option.some.injEq, Prod.mk.injEq] at h
    obtain ⟨rfl, rfl, rfl⟩ := h
    obtain ⟨rsA, osA, g1, g2, g3, g4, g5⟩ := handB_sim q ms.tail vs as' ts' rs' os' h2 l2
    have one : ∃ rA oA, (match ms.headD .ro with
      | .ro => (snap DEP sA.H a).map fun x => (x.1, x.2, ([] : List Nat))
      | .tk => (give DEP sA.H a).map fun x => (x.1, ([] : List Nat), x.2)
      | .io => (lend sA.H a).map fun x => (x.1, ([] : List Nat), x.2)) = some (t, rA, oA) ∧ (∀ x ∈ rA, Rtd β ω r x) ∧ (∀ x ∈ oA, Rtd β ω o x) ∧ (o.Nodup → oA.Nodup) ∧ Pur t := by
      have gv : ∀ {o : List Nat}, giveB DEP sB.H v = some (t, o) → r = [] → ∃ rA oA, (give DEP sA.H a).map (fun x => (x.1, ([] : List Nat), x.2)) = some (t, rA, oA) ∧ (∀ x ∈ rA, Rtd β ω r x) ∧ (∀ x ∈ oA, Rtd β ω o x) ∧ (o.Nodup → oA.Nodup) ∧ Pur t := by
        intro o hg hr
        obtain ⟨xs, k1, k2, k3, k4⟩ := giveB_sim q DEP v t a o [] hg l1
        exact ⟨[], xs, by rw [k1]; rfl, by simp, fun x hx => (k2 x hx).resolve_left (by simp), fun hn => k3 hn List.nodup_nil (by simp), k4⟩
      cases hm : ms.headD .ro with
      | ro =>
        rw [hm] at h1
        obtain ⟨⟨t', r'⟩, hx, hh⟩ := Option.map_eq_some_iff.1 h1
        simp only [Prod.mk.injEq] at hh
        obtain ⟨rfl, rfl, rfl⟩ := hh
        obtain ⟨xs, k1, k2, k3⟩ := snapB_sim q DEP v t' a r' [] hx l1
        exact ⟨xs, [], by simp only [k1]; rfl, fun x hx => (k2 x hx).resolve_left (by simp), by simp, fun _ => List.nodup_nil, k3.pur⟩
      | tk =>
        rw [hm] at h1
        obtain ⟨⟨t', r'⟩, hx, hh⟩ := Option.map_eq_some_iff.1 h1
        simp only [Prod.mk.injEq] at hh
        obtain ⟨rfl, rfl, rfl⟩ := hh
        exact gv hx rfl
      | io =>
        rw [hm] at h1
        obtain ⟨⟨t', r'⟩, hx, hh⟩ := Option.map_eq_some_iff.1 h1
        simp only [Prod.mk.injEq] at hh
        obtain ⟨rfl, rfl, rfl⟩ := hh
        obtain ⟨xs, k1, k2, k3, k4⟩ := lendB_sim q hx l1
        exact ⟨[], xs, by rw [k1]; rfl, by simp, k2, k3, k4⟩
    obtain ⟨rA, oA, k1, k2, k3, k4, k5⟩ := one
    refine ⟨rA ++ rsA, oA ++ osA, by cases hm : ms.headD .ro <;> rw [hm] at k1 <;> simp only [handL, hm] <;> simp only at k1 <;> simp only [k1, g1], fun x hx => ?_, fun x hx => ?_, fun hn => ?_, ⟨k5, g5⟩⟩
    · rcases List.mem_append.1 hx with h | h
      · exact (k2 x h).mono (by simp +contextual)
      · exact (g2 x h).mono (by simp +contextual)
    · rcases List.mem_append.1 hx with h | h
      · exact (k3 x h).mono (by simp +contextual)
      · exact (g3 x h).mono (by simp +contextual)
    · rw [List.nodup_append] at hn ⊢
      refine ⟨k4 hn.1, g4 hn.2.1, fun x hx y hy e => ?_⟩
      subst e
      obtain ⟨b, h3, h4⟩ := (k3 x hx).uniq q (g3 x hy)
      exact hn.2.2 b h3 b h4 rfl

/-- A block comes back, on either side. -/
theorem Sim.back {ω' : Omg} {ep : Nat → Nat → Prop} (q : Sim β ω ep sB sA) {b x : Nat} (hx : β b = some x) {k : Nat} {es as : List V} (hl : as.length = es.length)
    (he : ∀ i v a, es[i]? = some v → as[i]? = some a → Elt β ω' sA.H b i v a) (hω : ∀ y p, ω y = some p → sA.H y ≠ none → p.1 ≠ b → ¬ ep p.1 p.2 → ω' y = some p) :
    Sim β ω' ep (sB.blk b (some { k := k, es := es })) (sA.blk x (some { k := k, es := as })) := by
  have keep : ∀ y, (∀ b2, β b2 ≠ some y) → upd sA.H x (some { k := k, es := as }) y = sA.H y := fun y h => by
    rw [upd_ne]; rintro rfl; exact h b hx
  refine ⟨q.fzB, q.fzA, fun y A' hA' => ?_, q.inj, q.dom, q.rng, fun y hy => ?_, fun b2 hb => ?_, fun t => ?_, fun b2 B2 hB2 => ?_⟩
  · simp only [S.blk] at hA'
    by_cases e : y = x
    · subst e; rw [upd_same] at hA'; obtain rfl := Option.some.inj hA'; rfl
    · rw [upd_ne _ _ e] at hA'; exact q.nofr y A' hA'
  · show upd sA.H x _ y = none
    rw [upd_ne]; · exact q.bdA y hy
    rintro rfl; have := q.rng b y hx; exact absurd hy (by simp only [S.blk]; omega)
  · show upd sB.H b _ b2 = none
    rw [upd_ne]; · exact q.bdB b2 hb
    rintro rfl; have := q.lt hx; exact absurd hb (by simp only [S.blk]; omega)
  · rcases q.env t with h | h
    · exact .inl h
    · exact .inr (Lk.nil (fun _ _ h => h) h)
  · simp only [S.blk] at hB2 ⊢
    by_cases e : b2 = b
    · subst e
      rw [upd_same] at hB2
      obtain rfl := Option.some.inj hB2
      refine ⟨rfl, x, _, hx, upd_same _ _ _, rfl, hl, fun i v a _ hv ha => ?_⟩
      exact (he i v a hv ha).frame (fun _ _ h => h) fun y hy h6 h7 => ⟨keep y h7, h6, h7⟩
    · rw [upd_ne _ _ e] at hB2
      obtain ⟨h0, x', A', h1, h2, h3, h4, h5⟩ := q.blk b2 B2 hB2
      refine ⟨h0, x', A', h1, ?_, h3, h4, fun i v a hi hv ha => ?_⟩
      · rw [upd_ne]; · exact h2
        rintro rfl; exact e (q.inj _ _ _ h1 hx)
      · exact (h5 i v a hi hv ha).frame (fun _ _ h => h) fun y hy h6 h7 => ⟨keep y h7, hω y _ h6 hy e hi, h7⟩

/-- The blocks as they were before the call. -/
def OldB (β : Bet) (oB oA : Nat → Option Blk) : Prop := ∀ b B x, oB b = some B → β b = some x → ∃ A, oA x = some A ∧ A.k = B.k ∧ A.es.length = B.es.length

theorem backList {oA : Nat → Option Blk} (q : Sim β ω no2 sB sA) {b x : Nat} (hx : β b = some x) {k : Nat} {es : List V} (hok : allL (okD DEP) es = true) (hp : PurL es) :
    ∃ vs s1 ω', takeL (takeIn DEP) es sA = some (vs, s1) ∧ Sim β ω' no2 (sB.blk b (some { k := k, es := es })) (s1.blk x (some { k := k, es := vs })) := by
  obtain ⟨vs, s1, L, h1, g, xg, n, r⟩ := takeInL_X es sA hok q.bdA
  obtain ⟨Ls, e1, e2, e3, e4⟩ := split_ex xg
  have hβ : ∀ y ∈ L, ∀ b2, β b2 ≠ some y := fun y hy b2 hh => by have := q.rng b2 y hh; have := (r y hy).1; omega
  have q1 := ((q.omega (ω' := fun y => if sA.nx ≤ y then none else ω y) (fun y hy => if_neg (by have := q.there hy; omega))).grow g)
  have q2 := q1.back (ω' := fun y => if y ∈ L then some (b, ownr Ls y) else if sA.nx ≤ y then none else ω y) hx (k := k) (es := es) (as := vs) e3 (fun i v a hv ha => ?_) (fun y p hy _ _ _ => ?_)
  · exact ⟨vs, s1, _, h1, q2⟩
  · obtain ⟨l, hl1, hl2⟩ := e4 i a v ha hv
    have hlL : ∀ z ∈ l, z ∈ L := fun z hz => by rw [← e1]; exact List.mem_flatten.2 ⟨l, List.mem_of_getElem? hl1, hz⟩
    have hsub : l.Sublist L := by rw [← e1]; exact List.sublist_flatten_of_mem (List.mem_of_getElem? hl1)
    refine .inr ⟨l, Lk_of_giveX DEP a v l hl2 (PurL_iff.1 hp v (List.mem_of_getElem? hv)), n.sublist hsub, fun y hy => ⟨?_, hβ y (hlL y hy)⟩⟩
    show (if y ∈ L then some (b, ownr Ls y) else if sA.nx ≤ y then none else ω y) = _
    rw [if_pos (hlL y hy), ownr_spec (by rw [e1]; exact n) hl1 hy]
  · rw [if_neg]
    · exact hy
    · intro hyL
      have := (r y hyL).1
      have hy' : (if sA.nx ≤ y then none else ω y) = some p := hy
      rw [if_pos this] at hy'; cases hy'

theorem backVB_sim {oB oA : Nat → Option Blk} (ho : OldB β oB oA) (q : Sim β ω no2 sB sA) {v a t : V} (hl : Lk β sA.H v a []) (hp : Pur t) {sB' : S} (h : backVB oB v t sB = some sB') :
    ∃ ω' sA', backV oA a t sA = some sA' ∧ Sim β ω' no2 sB' sA' := by
  unfold backVB at h
  split at h
  · rename_i b off n c k es
    obtain ⟨x, hx, rfl⟩ := Lk_hs hl
    simp only [backV]
    split at h
    · rename_i he
      rw [if_pos he]
      split at h
      · rename_i hn; rw [if_pos hn]; obtain rfl := Option.some.inj h; exact ⟨ω, sA, rfl, q⟩
      · cases h
    · rename_i he
      rw [if_neg he]
      split at h
      case h_2 => cases h
      rename_i B hB
      split at h
      case isFalse => cases h
      rename_i hc
      obtain rfl := Option.some.inj h
      obtain ⟨A, hA, hAk, hAl⟩ := ho b B x hB hx
      simp only [hA]
      rw [if_pos ⟨hc.1, by rw [hAl]; exact hc.2.1, hc.2.2.1, by rw [hAk]; exact hc.2.2.2.1⟩]
      simp only [Pur] at hp
      obtain ⟨vs, s1, ω', h1, h2⟩ := backList (oA := oA) q hx (k := k) hc.2.2.2.2 hp
      rw [h1]
      exact ⟨ω', _, rfl, h2⟩
  · rename_i b i u
    obtain ⟨x, hx, rfl⟩ := Lk_hp hl
    simp only [backV]
    split at h
    case h_2 => cases h
    rename_i B hB
    split at h
    case isFalse => cases h
    rename_i hc
    obtain rfl := Option.some.inj h
    obtain ⟨A, hA, hAk, hAl⟩ := ho b B x hB hx
    simp only [hA]
    rw [if_pos ⟨hc.1, by rw [hAk]; exact hc.2.1⟩]
    simp only [Pur] at hp
    obtain ⟨vs, s1, ω', h1, h2⟩ := backList (oA := oA) q hx (k := u.size) (es := [u]) (by simp [allL, hc.2.2]) (by simp only [PurL]; exact ⟨hp, trivial⟩)
    simp only [takeL] at h1
    split at h1
    case h_2 => cases h1
    rename_i v' s2 hv
    simp only [Option.some.injEq, Prod.mk.injEq] at h1
    obtain ⟨rfl, rfl⟩ := h1
    try rw [hv]
    refine ⟨ω', _, rfl, ?_⟩
    rw [take_size hv]
    exact h2
  · rename_i b off n c es
    obtain ⟨x, hx, rfl⟩ := Lk_hs hl
    simp only [backV]
    split at h
    · rename_i hn; rw [if_pos hn]; obtain rfl := Option.some.inj h; exact ⟨ω, sA, rfl, q⟩
    · cases h
  · obtain rfl := Option.some.inj h
    rw [Lk_im hl]; exact ⟨ω, sA, rfl, q⟩
  · obtain rfl := Option.some.inj h
    rw [Lk_e0 hl]; exact ⟨ω, sA, rfl, q⟩
  · obtain rfl := Option.some.inj h
    rw [(Lk_sl hl).1]; exact ⟨ω, sA, rfl, q⟩
  · obtain rfl := Option.some.inj h
    rw [(Lk_rp hl).1]; exact ⟨ω, sA, rfl, q⟩
  · cases h

theorem backVsB_sim {oB oA : Nat → Option Blk} (ho : OldB β oB oA) : ∀ (vs as ts : List V) {ω : Omg} {sB sA : S} (sB' : S), Sim β ω no2 sB sA → LkL β sA.H vs as [] → PurL ts → backVsB oB vs ts sB = some sB' →
    ∃ ω' sA', backVs oA as ts sA = some sA' ∧ Sim β ω' no2 sB' sA'
  | [], as, [], ω, sB, sA, sB', q, hl, _, h => by
    simp only [LkL] at hl
    obtain ⟨rfl, _⟩ := hl
    simp only [backVsB, Option.some.injEq] at h
    subst h
    exact ⟨ω, sA, rfl, q⟩
  | [], as, t :: ts, ω, sB, sA, sB', q, hl, _, h => by simp [backVsB] at h
  | v :: vs, as, [], ω, sB, sA, sB', q, hl, _, h => by simp [backVsB] at h
  | v :: vs, as, t :: ts, ω, sB, sA, sB', q, hl, hp, h => by
    obtain ⟨a, as', L1, L2, rfl, e, l1, l2⟩ := LkL_cons_inv hl
    obtain ⟨rfl, rfl⟩ := List.append_eq_nil_iff.1 e.symm
    simp only [PurL] at hp
    simp only [backVsB] at h
    split at h
    case h_2 => cases h
    rename_i s1 h1
    obtain ⟨ω1, sA1, g1, q1⟩ := backVB_sim ho q l1 hp.1 h1
    obtain ⟨ω2, sA2, g2, q2⟩ := backVsB_sim ho vs as' ts _ q1 (LkL.nil (fun _ _ h => h) l2) hp.2 h
    exact ⟨ω2, sA2, by simp only [backVs, g1, g2], q2⟩

theorem back1B_sim {oB oA : Nat → Option Blk} (ho : OldB β oB oA) (q : Sim β ω no2 sB sA) {v a t : V} (hl : Lk β sA.H v a []) (hp : Pur t) {sB' : S} (h : back1B oB v t sB = some sB') :
    ∃ ω' sA', back1 oA a t sA = some sA' ∧ Sim β ω' no2 sB' sA' := by
  unfold back1B at h
  split at h
  · rename_i vs ts
    obtain ⟨as, rfl, hl2⟩ := Lk_st hl
    simp only [Pur] at hp
    exact backVsB_sim ho vs as ts _ q hl2 hp h
  · rename_i hno
    obtain ⟨ω', sA', g1, g2⟩ := backVB_sim ho q hl hp h
    refine ⟨ω', sA', ?_, g2⟩
    have : back1 oA a t sA = backV oA a t sA := by
      unfold back1
      split
      · rename_i vs ts
        exfalso
        cases v
        case st => exact hno _ _ rfl rfl
        case im => cases Lk_im hl
        case e0 => cases Lk_e0 hl
        case sl => cases (Lk_sl hl).1
        case rp => cases (Lk_rp hl).1
        case hs => obtain ⟨_, _, e⟩ := Lk_hs hl; cases e
        case hp => obtain ⟨_, _, e⟩ := Lk_hp hl; cases e
        case hf => obtain ⟨_, _, e⟩ := Lk_hf hl; cases e
        case tu => simp only [Lk] at hl; obtain ⟨_, e, _⟩ := hl; cases e
        case cl => simp only [Lk] at hl; obtain ⟨⟨_, e, _⟩, _⟩ := hl; cases e
        case ow => simp only [Lk] at hl; obtain ⟨⟨d, hg⟩, _⟩ := hl; obtain ⟨_, _, _, _, e, _⟩ := giveX_ow hg; cases e
        case op => simp only [Lk] at hl; obtain ⟨⟨d, hg⟩, _⟩ := hl; obtain ⟨_, _, _, _, _, e, _⟩ := giveX_op hg; cases e
      · rfl
    rw [this]; exact g1

theorem backLB_sim {oB oA : Nat → Option Blk} (ho : OldB β oB oA) : ∀ (vs as ts : List V) {ω : Omg} {sB sA : S} (sB' : S), Sim β ω no2 sB sA → LkL β sA.H vs as [] → PurL ts → backLB oB vs ts sB = some sB' →
    ∃ ω' sA', backL oA as ts sA = some sA' ∧ Sim β ω' no2 sB' sA'
  | [], as, [], ω, sB, sA, sB', q, hl, _, h => by
    simp only [LkL] at hl
    obtain ⟨rfl, _⟩ := hl
    simp only [backLB, Option.some.injEq] at h
    subst h
    exact ⟨ω, sA, rfl, q⟩
  | [], as, t :: ts, ω, sB, sA, sB', q, hl, _, h => by simp [backLB] at h
  | v :: vs, as, [], ω, sB, sA, sB', q, hl, _, h => by simp [backLB] at h
  | v :: vs, as, t :: ts, ω, sB, sA, sB', q, hl, hp, h => by
    obtain ⟨a, as', L1, L2, rfl, e, l1, l2⟩ := LkL_cons_inv hl
    obtain ⟨rfl, rfl⟩ := List.append_eq_nil_iff.1 e.symm
    simp only [PurL] at hp
    simp only [backLB] at h
    split at h
    case h_2 => cases h
    rename_i s1 h1
    obtain ⟨ω1, sA1, g1, q1⟩ := back1B_sim ho q l1 hp.1 h1
    obtain ⟨ω2, sA2, g2, q2⟩ := backLB_sim ho vs as' ts _ q1 (LkL.nil (fun _ _ h => h) l2) hp.2 h
    exact ⟨ω2, sA2, by simp only [backL, g1, g2], q2⟩

theorem lent_lk {H : Nat → Option Blk} : ∀ (ms : List M) (vs as : List V), LkL β H vs as [] → LkL β H (lent ms vs) (lent ms as) []
  | ms, [], as, h => by simp only [LkL] at h; obtain ⟨rfl, _⟩ := h; simp [lent, LkL]
  | ms, v :: vs, as, h => by
    obtain ⟨a, as', L1, L2, rfl, e, l1, l2⟩ := LkL_cons_inv h
    obtain ⟨rfl, rfl⟩ := List.append_eq_nil_iff.1 e.symm
    have := lent_lk ms.tail vs as' l2
    simp only [lent]
    cases ms.headD .ro with
    | io => simp only [LkL]; exact ⟨a, _, [], [], rfl, rfl, l1, this⟩
    | ro => exact this
    | tk => exact this

/-- What the evaluation of a function in B says, is so in A. -/
def IsoS (Γ : Env) (T : Nat → Option FB) (e : CB → S → Option R) : Prop := ∀ f ms ts t us, isoB Γ T e f ms ts = some (t, us) → PurL ts → isoCall Γ (EX Γ) f ms ts = some (t, us) ∧ Pur t ∧ PurL us

end Go.Am

/- The B-machine, part 11: all code; what B says is so in A. -/
namespace Go.Am
variable {β : Bet} {ω : Omg} {sB sA : S}

structure EnvB (Γ : Env) (T : Nat → Option FB) : Prop where
  tab : ∀ f x, T f = some x → Γ.T f = some x.er ∧ x.body.sok = true
  pr : ∀ f p args r us, Γ.pr f = some p → p args = some (r, us) → PurL args → Pur r ∧ PurL us

theorem guard_rel {ep : Nat → Nat → Prop} (q : Sim β ω ep sB sA) {g : Option (Nat × Bool)} {b : Bool} (h : guardA sB.e g = some b) : guardA sA.e g = some b := by
  unfold guardA at h ⊢
  cases g with
  | none => exact h
  | some p =>
    obtain ⟨t, w⟩ := p
    simp only at h ⊢
    split at h
    · rename_i b' hb
      rcases q.env t with h' | h'
      · rw [hb] at h'; cases h'
      · rw [hb] at h'; rw [Lk_im h']; exact h
    · rename_i x hb
      rcases q.env t with h' | h'
      · rw [hb] at h'; cases h'
      · rw [hb] at h'; rw [Lk_im h']; exact h
    · cases h

/-- Two results. -/
def RelR (β : Bet) (ω : Omg) : R → R → Prop
  | .n s, .n s' => Sim β ω no2 s s'
  | .r s, .r s' => Sim β ω no2 s s'
  | .x i s, .x j s' => i = j ∧ Sim β ω no2 s s'
  | _, _ => False

def ExS (Γ : Env) (e : CB → S → Option R) : Prop := ∀ (c : CB) (β : Bet) (ω : Omg) (sB sA : S) (rB : R), e c sB = some rB → c.sok = true → Sim β ω no2 sB sA →
    ∃ β' ω' rA, EX Γ c.er sA = some rA ∧ RelR β' ω' rB rA ∧ (c.nonm = true → ∀ b x, β b = some x → β' b = some x)

theorem pkc_rel {H : Nat → Option Blk} {v a : V} {L : List Nat} (h : Lk β H v a L) (hv : v.pkc = true) : a.okc = true := by
  by_cases hp : pkd v = true
  · cases v <;> simp only [pkd, Bool.false_eq_true] at hp
    · simp only [Lk] at h
      obtain ⟨⟨d, hg⟩, _⟩ := h
      obtain ⟨_, x, _, _, rfl, _⟩ := giveX_ow hg
      rfl
    · simp only [Lk] at h
      obtain ⟨⟨d, hg⟩, _⟩ := h
      obtain ⟨_, x, _, _, _, rfl, _⟩ := giveX_op hg
      rfl
  · have ho : v.okc = true := by
      simp only [V.pkc, Bool.or_eq_true] at hv
      exact hv.resolve_right hp
    have hL := okc_nopk h ho
    subst hL
    exact okc_rel h ho

theorem pkcs_rel {H : Nat → Option Blk} : ∀ {vs as : List V} {L : List Nat}, LkL β H vs as L → vs.all V.pkc = true → as.all V.okc = true
  | [], as, L, h, _ => by simp only [LkL] at h; rw [h.1]; rfl
  | v :: vs, as, L, h, hv => by
    obtain ⟨a, as', L1, L2, rfl, rfl, h1, h2⟩ := LkL_cons_inv h
    simp only [List.all_cons, Bool.and_eq_true] at hv ⊢
    exact ⟨pkc_rel h1 hv.1, pkcs_rel h2 hv.2⟩

theorem fitsB_rel {H : Nat → Option Blk} {q : Option Nat} {v a : V} {L : List Nat} (h : Lk β H v a L) (hv : v.fitsB q = true) : a.fits q = true := by
  cases q with
  | none => exact pkc_rel h hv
  | some n =>
    cases v <;> simp only [V.fitsB, Bool.false_eq_true] at hv
    simp only [Lk] at h
    obtain ⟨as, rfl, hl⟩ := h
    simp only [Bool.and_eq_true, beq_iff_eq] at hv
    simp only [V.fits, Bool.and_eq_true, beq_iff_eq]
    exact ⟨by rw [LkL.len _ _ _ hl]; exact hv.1, pkcs_rel hl hv.2⟩

theorem resVB_sim (q : Sim β ω no2 sB sA) {x : Nat × Option (Option Nat)} {v : V} {o : List Nat} (h : resVB sB x = some (v, o)) :
    ∃ a L, resV sA x = some a ∧ Lk β sA.H v a L ∧ L.Nodup ∧ ∀ y ∈ L, Rtd β ω o y := by
  obtain ⟨t, r⟩ := x
  cases r with
  | none =>
    simp only [resVB] at h
    split at h
    · cases h
    · rename_i hu
      obtain ⟨rfl, rfl⟩ := Prod.mk.inj (Option.some.inj h)
      rcases q.env t with h' | h'
      · exact absurd h' hu
      · exact ⟨_, [], rfl, h', List.nodup_nil, by simp⟩
  | some p =>
    simp only [resVB] at h
    split at h
    case h_2 => cases h
    rename_i y hy
    split at h
    case isFalse => cases h
    rename_i hf
    obtain ⟨rfl, rfl⟩ := Prod.mk.inj (Option.some.inj h)
    have hun : isUn (sB.e t) = false := by
      cases hu : isUn (sB.e t) with
      | false => rfl
      | true => rw [isUn_iff.1 hu] at hy; simp [derefB] at hy
    have r := (q.env t).resolve_left (by rw [hun]; simp)
    simp only [resV]
    generalize sB.e t = p0 at *
    generalize sA.e t = pa at *
    cases p0 <;> simp only [derefB] at hy <;> try (cases hy; done)
    case rp u =>
      obtain rfl := Option.some.inj hy
      obtain ⟨rfl, hr⟩ := Lk_rp r
      simp only [deref]
      rw [if_pos (hr.fits hf)]
      exact ⟨_, [], rfl, Ror.lk _ hr, List.nodup_nil, by simp⟩
    case hp b i =>
      obtain ⟨xa, hx, rfl⟩ := Lk_hp r
      obtain ⟨B, hB, hy⟩ := Option.bind_eq_some_iff.1 hy
      obtain ⟨A, hA, hAk, hfr, hfrB, hal, he⟩ := q.get hB hx
      have hlt : i < A.es.length := by rw [hal]; exact (List.getElem?_eq_some_iff.1 hy).1
      obtain ⟨L, hl, hn, ho⟩ := (he i y _ (fun h => h) hy (List.getElem?_eq_getElem hlt)).resolve_left (by rintro rfl; cases p <;> cases hf)
      simp only [deref, hA, Option.bind_some, List.getElem?_eq_getElem hlt]
      rw [if_pos (fitsB_rel hl hf)]
      exact ⟨_, L, rfl, hl, hn, fun y hy => ⟨b, by simp [own1], .inr ⟨(ho y hy).2, i, (ho y hy).1⟩⟩⟩
    case hf b i j =>
      obtain ⟨xa, hx, rfl⟩ := Lk_hf r
      obtain ⟨B, hB, hy⟩ := Option.bind_eq_some_iff.1 hy
      split at hy
      case h_2 => cases hy
      rename_i cs hcs
      obtain ⟨c, hc, hy⟩ := Option.bind_eq_some_iff.1 hy
      split at hy
      case isFalse => cases hy
      rename_i hpk
      obtain rfl := Option.some.inj hy
      obtain ⟨A, hA, hAk, hfr, hfrB, hal, he⟩ := q.get hB hx
      have hlt : i < A.es.length := by rw [hal]; exact (List.getElem?_eq_some_iff.1 hcs).1
      have ha := List.getElem?_eq_getElem hlt
      obtain ⟨L, hl, hn, ho⟩ := (he i _ _ (fun h => h) hcs ha).resolve_left (by simp)
      simp only [Lk] at hl
      obtain ⟨as, has, hll⟩ := hl
      rw [has] at ha
      obtain ⟨a, L1, Lj, L2, haj, rfl, hlj, _⟩ := LkL_at hll hc
      simp only [deref, hA, Option.bind_some, ha, haj]
      rw [if_pos (pkc_rel hlj hpk)]
      simp only
      rw [if_pos (fitsB_rel hlj hf)]
      have hnj : Lj.Nodup := by
        rw [List.nodup_append] at hn
        have := hn.1
        rw [List.nodup_append] at this
        exact this.2.1
      exact ⟨_, Lj, rfl, hlj, hnj, fun y hy => ⟨b, by simp [own1], .inr ⟨(ho y (by simp [hy])).2, i, (ho y (by simp [hy])).1⟩⟩⟩

theorem resLB_sim (q : Sim β ω no2 sB sA) : ∀ {l : List (Nat × Option (Option Nat))} {vs : List V} {o : List Nat}, resLB sB l = some (vs, o) →
    ∃ as L, resL sA l = some as ∧ LkL β sA.H vs as L ∧ (o.Nodup → L.Nodup) ∧ ∀ y ∈ L, Rtd β ω o y
  | [], vs, o, h => by
    simp only [resLB, Option.some.injEq, Prod.mk.injEq] at h
    obtain ⟨rfl, rfl⟩ := h
    exact ⟨[], [], rfl, by simp [LkL], fun _ => List.nodup_nil, by simp⟩
  | x :: l, vs, o, h => by
    simp only [resLB] at h
    split at h
    case h_2 => cases h
    rename_i v o1 vs' o2 h1 h2
    obtain ⟨rfl, rfl⟩ := Prod.mk.inj (Option.some.inj h)
    obtain ⟨a, L1, g1, g2, g3, g4⟩ := resVB_sim q h1
    obtain ⟨as, L2, k1, k2, k3, k4⟩ := resLB_sim q h2
    refine ⟨a :: as, L1 ++ L2, by simp only [resL, g1, k1], by simp only [LkL]; exact ⟨a, as, L1, L2, rfl, rfl, g2, k2⟩, fun hn => ?_, fun y hy => ?_⟩
    · rw [List.nodup_append] at hn ⊢
      refine ⟨g3, k3 hn.2.1, fun y hy z hz e => ?_⟩
      subst e
      obtain ⟨b, h3, h4⟩ := (g4 y hy).uniq q (k4 y hz)
      exact hn.2.2 b h3 b h4 rfl
    · rcases List.mem_append.1 hy with h | h
      · exact (g4 y h).mono (by simp +contextual)
      · exact (k4 y h).mono (by simp +contextual)

theorem resOfB_sim (q : Sim β ω no2 sB sA) {l : List (Nat × Option (Option Nat))} {v : V} {o : List Nat} (h : resOfB sB l = some (v, o)) :
    ∃ a L, resOf sA l = some a ∧ Lk β sA.H v a L ∧ (o.Nodup → L.Nodup) ∧ ∀ y ∈ L, Rtd β ω o y := by
  unfold resOfB at h
  split at h
  · rename_i v' o' hr
    obtain ⟨rfl, rfl⟩ := Prod.mk.inj (Option.some.inj h)
    obtain ⟨as, L, g1, g2, g3, g4⟩ := resLB_sim q hr
    obtain ⟨a, as', L1, L2, rfl, rfl, l1, l2⟩ := LkL_cons_inv g2
    simp only [LkL] at l2
    obtain ⟨rfl, rfl⟩ := l2
    exact ⟨a, L1 ++ [], by simp only [resOf, g1], by simpa using l1, g3, g4⟩
  · rename_i vs o' hno hr
    obtain ⟨rfl, rfl⟩ := Prod.mk.inj (Option.some.inj h)
    obtain ⟨as, L, g1, g2, g3, g4⟩ := resLB_sim q hr
    refine ⟨.tu as, L, ?_, by simp only [Lk]; exact ⟨as, rfl, g2⟩, g3, g4⟩
    have hlen := LkL.len _ _ _ g2
    simp only [resOf, g1]
    split
    · rename_i a e
      obtain rfl := Option.some.inj e
      cases vs with
      | nil => simp at hlen
      | cons v vs =>
        cases vs with
        | nil => exact (hno v rfl).elim
        | cons _ _ => simp at hlen
    · rename_i e; obtain rfl := Option.some.inj e; rfl
    · rename_i e; cases e
  · cases h

theorem giveBL_sim (q : Sim β ω no2 sB sA) {d : Nat} : ∀ (vs ts as : List V) (os : List Nat), overL (giveB d sB.H) vs = some (ts, os) → LkL β sA.H vs as [] →
    ∃ xs, overL (give d sA.H) as = some (ts, xs) ∧ (∀ x ∈ xs, Rtd β ω os x) ∧ (os.Nodup → xs.Nodup) ∧ PurL ts
  | [], ts, as, os, h, hl => by
    simp only [overL, Option.some.injEq, Prod.mk.injEq] at h
    obtain ⟨rfl, rfl⟩ := h
    simp only [LkL] at hl
    obtain ⟨rfl, _⟩ := hl
    exact ⟨[], rfl, by simp, fun _ => List.nodup_nil, trivial⟩
  | v :: vs, ts, as, os, h, hl => by
    obtain ⟨t, ts', o1, o2, h2, h3, rfl, rfl⟩ := overL_cons h
    obtain ⟨a, as', L1, L2, rfl, e, l1, l2⟩ := LkL_cons_inv hl
    obtain ⟨rfl, rfl⟩ := List.append_eq_nil_iff.1 e.symm
    obtain ⟨xs1, g1, g2, g3, g4⟩ := giveB_sim q d v t a o1 [] h2 l1
    obtain ⟨xs2, k1, k2, k3, k4⟩ := giveBL_sim q vs ts' as' o2 h3 l2
    refine ⟨xs1 ++ xs2, overL_mk g1 k1, fun x hx => ?_, fun hn => ?_, ⟨g4, k4⟩⟩
    · rcases List.mem_append.1 hx with hx | hx
      · exact ((g2 x hx).resolve_left (by simp)).mono (by simp +contextual)
      · exact (k2 x hx).mono (by simp +contextual)
    · rw [List.nodup_append] at hn ⊢
      refine ⟨g3 hn.1 List.nodup_nil (by simp), k3 hn.2.1, fun x hx y hy e => ?_⟩
      subst e
      obtain ⟨b, hb, hb'⟩ := ((g2 x hx).resolve_left (by simp)).uniq q (k2 x hy)
      exact hn.2.2 b hb b hb' rfl

theorem takeBL_sim {d : Nat} : ∀ (ts : List V) {β : Bet} {ω : Omg} {sB sA : S} (vs : List V) (sB' : S), Sim β ω no2 sB sA → PurL ts → takeL (takeB d) ts sB = some (vs, sB') →
    ∃ β' ω' as sA', takeL (takeIn d) ts sA = some (as, sA') ∧ Sim β' ω' no2 sB' sA' ∧ LkL β' sA'.H vs as [] ∧ ∀ b x, β b = some x → β' b = some x
  | [], β, ω, sB, sA, vs, sB', q, _, h => by
    simp only [takeL, Option.some.injEq, Prod.mk.injEq] at h
    obtain ⟨rfl, rfl⟩ := h
    exact ⟨β, ω, [], sA, rfl, q, by simp [LkL], fun _ _ h => h⟩
  | t :: ts, β, ω, sB, sA, vs, sB', q, hp, h => by
    simp only [PurL] at hp
    simp only [takeL] at h
    split at h
    case h_2 => cases h
    rename_i v s1 hv
    split at h
    case h_2 => cases h
    rename_i vs' s2 hvs
    obtain ⟨rfl, rfl⟩ := Prod.mk.inj (Option.some.inj h)
    obtain ⟨β1, ω1, a, sA1, h1, q1, l1, m1⟩ := takeB_sim d t v s1 q hp.1 hv
    obtain ⟨β2, ω2, as, sA2, h2, q2, l2, m2⟩ := takeBL_sim ts vs' s2 q1 hp.2 hvs
    refine ⟨β2, ω2, a :: as, sA2, by simp only [takeL, h1, h2], q2, ?_, fun b x hx => m2 b x (m1 b x hx)⟩
    simp only [LkL]; exact ⟨a, as, [], [], rfl, rfl, Lk.nil m2 l1, l2⟩

theorem envOf_lk {H : Nat → Option Blk} {vs as : List V} (h : LkL β H vs as []) (t : Nat) : Lk β H (envOf vs t) (envOf as t) [] := by
  unfold envOf
  rw [List.getD_eq_getElem?_getD, List.getD_eq_getElem?_getD]
  obtain ⟨hl, hh⟩ := LkL_nil_iff.1 h
  by_cases ht : t < vs.length
  · rw [List.getElem?_eq_getElem ht, List.getElem?_eq_getElem (by omega)]
    exact hh t _ _ (List.getElem?_eq_getElem ht) (List.getElem?_eq_getElem (by omega))
  · rw [List.getElem?_eq_none (by omega), List.getElem?_eq_none (by omega)]
    exact Lk_im'
theorem callB_sim {Γ : Env} {T : Nat → Option FB} {e : CB → S → Option R} (hΓ : EnvB Γ T) (he : ExS Γ e) (hi : IsoS Γ T e) (q : Sim β ω no2 sB sA) {fv fa : V} {args argsA : List V} (hf : Lk β sA.H fv fa []) (hargs : LkL β sA.H args argsA []) {v : V} {sB' : S}
    (h : callB Γ T e fv args sB = some (v, sB')) : Out β sA sB' v (callV Γ (EX Γ) fa argsA sA) := by
  unfold callB at h
  rw [callV_eq]
  split at h
  case h_1 => cases h
  rename_i f caps hfn
  have hfa : ∃ capsA, fnOf fa = some (f, capsA) ∧ LkL β sA.H caps capsA [] := by
    unfold fnOf at hfn
    split at hfn
    · obtain ⟨rfl, rfl⟩ := Prod.mk.inj (Option.some.inj hfn)
      simp only [Lk, and_true] at hf
      obtain ⟨as, rfl, hl⟩ := hf
      exact ⟨as, rfl, hl⟩
    · rw [Lk_im hf]
      refine ⟨[], ?_, ?_⟩
      · simp only [fnOf]
        split at hfn
        · rename_i hc
          rw [if_pos hc]
          obtain ⟨rfl, rfl⟩ := Prod.mk.inj (Option.some.inj hfn); rfl
        · cases hfn
      · split at hfn
        · obtain ⟨rfl, rfl⟩ := Prod.mk.inj (Option.some.inj hfn); simp [LkL]
        · cases hfn
    · cases hfn
  obtain ⟨capsA, hfa, hcl⟩ := hfa
  rw [hfa]
  simp only
  split at h
  case h_1 hms =>
    rw [hms]
    simp only
    split at h
    case h_2 => cases h
    rename_i x hx
    obtain ⟨hT, hsok⟩ := hΓ.tab f x hx
    rw [hT]
    simp only
    split at h
    case isFalse => cases h
    rename_i hc
    have hal : LkL β sA.H (args ++ caps) (argsA ++ capsA) [] := LkL_app hargs hcl
    have hlen := LkL.len _ _ _ hal
    rw [if_pos (show (argsA ++ capsA).length = x.er.np by rw [hlen]; exact hc.1)]
    have q1 : Sim β ω no2 { sB with e := envOf (args ++ caps) } { sA with e := envOf (argsA ++ capsA) } := q.wi (eB := envOf (args ++ caps)) (eA := envOf (argsA ++ capsA)) fun t => .inr (envOf_lk hal t)
    have fin : ∀ (s1 sA1 : S) (β' : Bet) (ω' : Omg), Sim β' ω' no2 s1 sA1 → (∀ b y, β b = some y → β' b = some y) →
        (match resOfB s1 x.res with | some (v, []) => some (v, ({ sB with H := s1.H, nx := s1.nx, fz := s1.fz } : S)) | _ => none) = some (v, sB') →
        Out β sA sB' v (match resOf sA1 x.er.res with | some v => some (v, ({ sA with H := sA1.H, nx := sA1.nx, fz := sA1.fz } : S)) | none => none) := by
      intro s1 sA1 β' ω' q' hβ h
      split at h
      case h_2 => cases h
      rename_i v1 hres
      obtain ⟨rfl, rfl⟩ := Prod.mk.inj (Option.some.inj h)
      obtain ⟨a, L, k1, k2, k3, k4⟩ := resOfB_sim q' hres
      have hL : L = [] := by
        cases L with
        | nil => rfl
        | cons y L => obtain ⟨b, hb, _⟩ := k4 y (by simp); simp at hb
      subst hL
      rw [show x.er.res = x.res from rfl, k1]
      refine ⟨β', ω', a, _, rfl, ?_, .inr k2, hβ⟩
      exact q'.wi (eB := sB.e) (eA := sA.e) fun t => by
        rcases q.env t with h | h
        · exact .inl h
        · exact .inr (Lk.nil hβ h)
    split at h
    · rename_i s1 hs
      obtain ⟨β', ω', rA, k1, k2, k3⟩ := he x.body β ω _ _ _ hs hsok q1
      rw [show x.er.body = x.body.er from rfl, k1]
      cases rA with
      | n sA1 => exact fin s1 sA1 β' ω' k2 (k3 hc.2) h
      | x i sA1 => exact k2.elim
      | r sA1 => exact k2.elim
    · rename_i s1 hs
      obtain ⟨β', ω', rA, k1, k2, k3⟩ := he x.body β ω _ _ _ hs hsok q1
      rw [show x.er.body = x.body.er from rfl, k1]
      cases rA with
      | r sA1 => exact fin s1 sA1 β' ω' k2 (k3 hc.2) h
      | x i sA1 => exact k2.elim
      | n sA1 => exact k2.elim
    · cases h
  rename_i ms hms
  rw [hms]
  simp only
  split at h
  case h_2 => cases h
  rename_i ts rs os hh
  have hal : LkL β sA.H (args ++ caps) (argsA ++ capsA) [] := LkL_app hargs hcl
  obtain ⟨rsA, osA, g1, g2, g3, g4, g5⟩ := handB_sim q ms _ _ ts rs os hh hal
  split at h
  case isFalse => cases h
  rename_i hc
  rw [g1]
  simp only
  have hcA : osA.Nodup ∧ (∀ b ∈ osA, b ∉ rsA) ∧ osA.all (fun b => match sA.H b with | some B => !B.fr | none => true) = true := by
    refine ⟨g4 hc.1, fun x hx hx' => ?_, ?_⟩
    · obtain ⟨b, h1, h2⟩ := (g3 x hx).uniq q (g2 x hx')
      exact hc.2 b h1 h2
    · rw [List.all_eq_true]
      intro x _
      cases hx : sA.H x with
      | none => rfl
      | some A => simp [q.nofr x A hx]
  refine Eq.mpr (congrArg (Out β sA sB' v) (if_pos hcA)) ?_
  split at h
  case h_2 => cases h
  rename_i t us hiso
  obtain ⟨k1, k2, k3⟩ := hi f ms ts t us hiso g5
  rw [k1]
  simp only
  split at h
  case isFalse => cases h
  rename_i hfree
  split at h
  case h_2 => cases h
  rename_i s1 hb
  have q1 := q.kill (os := os) (xs := osA) g3
  have hst : (if free DEP t = true ∧ allL (free DEP) us = true then sA.mem (kill sA.H osA) else { sA with H := freeze (kill sA.H osA) rsA, fz := sA.fz || !rsA.isEmpty }) = sA.mem (kill sA.H osA) := by
    split
    · rfl
    · rename_i hnf
      simp only [Bool.or_eq_true, Bool.and_eq_true] at hfree
      have hrs : rs = [] := by
        rcases hfree with h | h
        · simpa using h
        · exact absurd h hnf
      have hrsA : rsA = [] := by
        cases rsA with
        | nil => rfl
        | cons x l =>
          obtain ⟨b, hb, _⟩ := g2 x (by simp)
          rw [hrs] at hb; simp at hb
      rw [hrsA]
      have hz : freeze (kill sA.H osA) [] = kill sA.H osA := by funext y; simp [freeze]
      simp only [hz, List.isEmpty_nil, Bool.not_true, Bool.or_false]
      rfl
  rw [hst]
  have hold : OldB β sB.H sA.H := fun b B x hB hx => by
    obtain ⟨A, h1, h2, _, _, h3, _⟩ := q.get hB hx
    exact ⟨A, h1, h2, h3⟩
  obtain ⟨ω1, sA1, m1, m2⟩ := backLB_sim hold _ _ us _ q1 (LkL.nil (fun _ _ h => h) (lent_lk ms _ _ hal)) k3 hb
  rw [m1]
  simp only
  obtain ⟨β', ω', a, sA', n1, n2, n3, n4⟩ := takeB_sim DEP t v sB' m2 k2 h
  exact ⟨β', ω', a, sA', n1, n2, .inr n3, n4⟩

theorem opB_sim {Γ : Env} {T : Nat → Option FB} {e : CB → S → Option R} (hΓ : EnvB Γ T) (he : ExS Γ e) (hi : IsoS Γ T e) (q : Sim β ω no2 sB sA) {a : A} (hk : a.sok = true) {v : V} {sB' : S} (h : opB (callB Γ T e) sB a = some (v, sB')) :
    Out β sA sB' v (opA (callV Γ (EX Γ)) sA a) := by
  unfold opB at h
  split at h
  · rename_i q' x
    simp only [A.sok, A.oks, A.os, Bool.and_eq_true, List.all_cons, List.all_nil, and_true] at hk
    exact ld_sim q hk.2 h
  · rename_i f xs
    split at h
    case isFalse => cases h
    rename_i hu
    simp only [A.sok, A.oks, A.os, Bool.and_eq_true, List.all_eq_true] at hk
    rw [List.all_eq_true] at hu
    have hu' : ∀ x ∈ f :: xs, isUn (Am.val sB.e x) = false := fun x hx => by simpa using hu x hx
    simp only [opA]
    exact callB_sim hΓ he hi q (q.val' (hk.2 f (by simp)) (hu' f (by simp))) (LkL_map q (fun x hx => hk.2 x (by simp [hx])) (fun x hx => hu' x (by simp [hx]))) h
  · rename_i h1 h2
    exact op_sim q hk (fun f xs e => h2 f xs e) (fun q x e => h1 q x e) h

theorem runB_sim {Γ : Env} {T : Nat → Option FB} {e : CB → S → Option R} (hΓ : EnvB Γ T) (he : ExS Γ e) (hi : IsoS Γ T e) : ∀ (l : List I) {β : Bet} {ω : Omg} {sB sA sB' : S}, (l.all fun i => i.a.sok) = true → Sim β ω no2 sB sA → runB (callB Γ T e) l sB = some sB' →
    ∃ β' ω' sA', runI (callV Γ (EX Γ)) l sA = some sA' ∧ Sim β' ω' no2 sB' sA' ∧ ∀ b x, β b = some x → β' b = some x
  | [], β, ω, sB, sA, sB', _, q, h => by
    simp only [runB, Option.some.injEq] at h
    subst h
    exact ⟨β, ω, sA, rfl, q, fun _ _ h => h⟩
  | o :: l, β, ω, sB, sA, sB', hk, q, h => by
    simp only [List.all_cons, Bool.and_eq_true] at hk
    simp only [runB] at h
    rw [runI_cons]
    split at h
    · rename_i hg
      rw [guard_rel q hg]
      simp only
      split at h
      case h_2 => cases h
      rename_i v s1 h1
      obtain ⟨β1, ω1, a, sA1, e1, q1, hv, m1⟩ := opB_sim hΓ he hi q hk.1 h1
      rw [e1]
      simp only
      obtain ⟨β2, ω2, sA2, e2, q2, m2⟩ := runB_sim hΓ he hi l hk.2 (q1.put (d := o.d) hv) h
      exact ⟨β2, ω2, sA2, e2, q2, fun b x hx => m2 b x (m1 b x hx)⟩
    · rename_i hg
      rw [guard_rel q hg]
      simp only
      exact runB_sim hΓ he hi l hk.2 (q.put (d := o.d) (v := .un) (a := .un) (.inr Lk_im')) h
    · cases h

/-! ### Variables that stay -/
def C.keeps (n : List Nat) : C → Bool
  | .rg l => l.all fun i => match i.d with | some d => !n.contains d | none => true
  | .seq a b | .cond _ a b => a.keeps n && b.keeps n
  | .blk _ a | .lp a => a.keeps n
  | _ => true
theorem keeps_er (n : List Nat) : ∀ c : CB, c.er.keeps n = c.keeps n
  | .skip | .rg _ | .ex _ | .ret | .no => rfl
  | .seq a b | .cond _ a b => by simp only [CB.er, C.keeps, CB.keeps, keeps_er n a, keeps_er n b]
  | .blk _ a | .lp a => by simp only [CB.er, C.keeps, CB.keeps, keeps_er n a]
  | .nm _ a | .dp _ _ a => by simp only [CB.er, CB.keeps, keeps_er n a]
theorem put_keep {n : List Nat} {t : Nat} {s : S} {d : Option Nat} {v : V} (h : (match d with | some d => !n.contains d | none => true) = true) (ht : t ∈ n) : (s.put d v).e t = s.e t := by
  cases d with
  | none => rfl
  | some d =>
    simp only [S.put]
    rw [upd_ne]
    rintro rfl
    simp [ht] at h
theorem runI_keeps {n : List Nat} {ca : V → List V → S → Option (V × S)} (hca : CaE ca) : ∀ {l : List I} {s s1 : S}, runI ca l s = some s1 → (l.all fun i => match i.d with | some d => !n.contains d | none => true) = true → ∀ t, t ∈ n → s1.e t = s.e t
  | [], s, s1, h, _, t, _ => by simp only [runI, Option.some.injEq] at h; rw [h]
  | o :: l, s, s1, h, hk, t, ht => by
    simp only [List.all_cons, Bool.and_eq_true] at hk
    rw [runI_cons] at h
    split at h
    · split at h
      case h_2 => cases h
      rename_i v s2 h2
      rw [runI_keeps hca h hk.2 t ht, put_keep hk.1 ht, opA_same hca h2]
    · rw [runI_keeps hca h hk.2 t ht, put_keep hk.1 ht]
    · cases h
def R.st : R → S
  | .n s | .r s | .x _ s => s
theorem ex_keeps {n : List Nat} (Γ : Env) : ∀ (k : Nat) (c : C) (s : S) (r : R), ex Γ k c s = some r → c.keeps n = true → ∀ t, t ∈ n → r.st.e t = s.e t
  | 0, c, s, r, h, _, _, _ => by simp [ex] at h
  | k + 1, c, s, r, h, hk, t, ht => by
    have ih := ex_keeps (n := n) Γ k
    cases c with
    | skip => simp only [ex, Option.some.injEq] at h; subst h; rfl
    | ret => simp only [ex, Option.some.injEq] at h; subst h; rfl
    | ex id => simp only [ex, Option.some.injEq] at h; subst h; rfl
    | no => simp [ex] at h
    | rg l =>
      simp only [ex] at h
      split at h
      case h_2 => cases h
      rename_i s1 h1
      obtain rfl := Option.some.inj h
      exact runI_keeps (callV_wi Γ (ex Γ k)) h1 hk t ht
    | seq a b =>
      simp only [C.keeps, Bool.and_eq_true] at hk
      simp only [ex] at h
      split at h
      · rename_i s1 h1
        rw [ih _ _ _ h hk.2 t ht]; exact ih _ _ _ h1 hk.1 t ht
      · exact ih _ _ _ h hk.1 t ht
    | cond o a b =>
      simp only [C.keeps, Bool.and_eq_true] at hk
      simp only [ex] at h
      split at h
      · exact ih _ _ _ h hk.1 t ht
      · exact ih _ _ _ h hk.2 t ht
      · cases h
    | blk id a =>
      simp only [C.keeps] at hk
      simp only [ex] at h
      split at h
      · rename_i j s1 h1
        have := ih _ _ _ h1 hk t ht
        split at h <;> (obtain rfl := Option.some.inj h; exact this)
      · exact ih _ _ _ h hk t ht
    | lp a =>
      have hk' := hk
      simp only [C.keeps] at hk
      simp only [ex] at h
      split at h
      · rename_i s1 h1
        rw [ih _ _ _ h hk' t ht]; exact ih _ _ _ h1 hk t ht
      · exact ih _ _ _ h hk t ht
theorem EX_keeps {n : List Nat} {Γ : Env} {c : CB} {s : S} {r : R} (h : EX Γ c.er s = some r) (hk : c.keeps n = true) (t : Nat) (ht : t ∈ n) : r.st.e t = s.e t := by
  obtain ⟨k, hk'⟩ := EX_iff.1 h
  exact ex_keeps Γ k _ _ _ hk' (by rw [keeps_er]; exact hk) t ht
theorem lent_map {α γ : Type} (f : α → γ) : ∀ (ms : List M) (l : List α), lent ms (l.map f) = (lent ms l).map f
  | _, [] => rfl
  | ms, a :: l => by
    simp only [List.map_cons, lent]
    rw [lent_map f ms.tail l]
    cases ms.headD .ro <;> rfl
theorem LkL_mapE {H : Nat → Option Blk} {f g : Nat → V} : ∀ (l : List Nat), (∀ t ∈ l, Lk β H (f t) (g t) []) → LkL β H (l.map f) (l.map g) []
  | [], _ => by simp [LkL]
  | t :: l, h => by
    simp only [List.map_cons, LkL]
    exact ⟨_, _, [], [], rfl, rfl, h t (by simp), LkL_mapE l fun u hu => h u (by simp [hu])⟩
theorem list_eq_map {as : List V} {n : Nat} {e : Nat → V} (hn : as.length = n) (h : ∀ t, t < n → e t = envOf as t) : as = (List.range n).map e := by
  refine List.ext_getElem? fun t => ?_
  by_cases ht : t < n
  · rw [List.getElem?_map, List.getElem?_range ht, Option.map_some, h t ht]
    unfold envOf
    rw [List.getD_eq_getElem?_getD, List.getElem?_eq_getElem (by omega)]; rfl
  · rw [List.getElem?_eq_none (by omega), List.getElem?_eq_none (by simp; omega)]

theorem sim_start : Sim (fun _ => none) (fun _ => none) no2 { e := fun _ => .un, H := fun _ => none, nx := 0 } { e := fun _ => .un, H := fun _ => none, nx := 0 } :=
  { fzB := rfl, fzA := rfl, nofr := fun _ _ h => (by cases h), inj := fun _ _ _ h => (by cases h), dom := fun _ _ => rfl, rng := fun _ _ h => (by cases h), bdA := fun _ _ => rfl, bdB := fun _ _ => rfl,
    env := fun _ => .inr Lk_im', blk := fun _ _ h => (by cases h) }

theorem iso_simB {Γ : Env} {T : Nat → Option FB} (hΓ : EnvB Γ T) {e : CB → S → Option R} (he : ExS Γ e) : IsoS Γ T e := by
  intro f ms args t us h hp
  unfold isoB at h
  unfold isoCall
  split at h
  · rename_i p hpr
    rw [hpr]
    exact ⟨h, hΓ.pr f p args t us hpr h hp⟩
  rename_i hpr
  rw [hpr]
  simp only
  split at h
  case h_2 => cases h
  rename_i x hx
  obtain ⟨hT, hsok⟩ := hΓ.tab f x hx
  rw [hT]
  simp only
  split at h
  case isFalse => cases h
  rename_i hnp
  rw [if_pos (show args.length = x.er.np from hnp)]
  simp only [FB.er]
  split at h
  case h_2 => cases h
  rename_i vals s0 htk
  obtain ⟨β0, ω0, as, sA0, g1, q0, l0, _⟩ := takeBL_sim args vals s0 sim_start hp htk
  rw [g1]
  simp only
  have q1 : Sim β0 ω0 no2 { e := envOf vals, H := s0.H, nx := s0.nx } { e := envOf as, H := sA0.H, nx := sA0.nx } := by
    have := q0.wi (eB := envOf vals) (eA := envOf as) (fun t => by
      right
      unfold envOf
      rw [List.getD_eq_getElem?_getD, List.getD_eq_getElem?_getD]
      obtain ⟨hl, hh⟩ := LkL_nil_iff.1 l0
      by_cases ht : t < vals.length
      · rw [List.getElem?_eq_getElem ht, List.getElem?_eq_getElem (by omega)]
        exact hh t _ _ (List.getElem?_eq_getElem ht) (List.getElem?_eq_getElem (by omega))
      · rw [List.getElem?_eq_none (by omega), List.getElem?_eq_none (by omega)]
        exact Lk_im')
    have e1 : s0.wi (envOf vals) = { e := envOf vals, H := s0.H, nx := s0.nx } := by unfold S.wi; rw [q0.fzB]
    have e2 : sA0.wi (envOf as) = { e := envOf as, H := sA0.H, nx := sA0.nx } := by unfold S.wi; rw [q0.fzA]
    rw [e1, e2] at this
    exact this
  have fin : ∀ (s sA' : S) (β' : Bet) (ω' : Omg), Sim β' ω' no2 s sA' → (x.body.keeps (lent ms (List.range x.np)) = true → ∀ t, t ∈ lent ms (List.range x.np) → sA'.e t = envOf as t) →
      (match resOfB s x.res with
        | some (v, o) =>
          match giveB DEP s.H v, overL (giveB DEP s.H) (lentB x.np ms s.e) with
          | some (t, i), some (ts, j) => if (o ++ i ++ j).Nodup ∧ ((lentB x.np ms s.e).isEmpty || (x.body.keeps (lent ms (List.range x.np)) && (lentB x.np ms s.e).all fun v => !isUn v)) = true then some (t, ts) else none
          | _, _ => none
        | none => none) = some (t, us) →
      (match resOf sA' x.res with
        | some v =>
          match give DEP sA'.H v, overL (give DEP sA'.H) (lent ms as) with
          | some (t, i), some (ts, j) => if (i ++ j).Nodup ∧ (sA'.fz = false ∨ (free DEP t = true ∧ allL (free DEP) ts = true)) then some (t, ts) else none
          | _, _ => none
        | none => none) = some (t, us) ∧ Pur t ∧ PurL us := by
    intro s sA' β' ω' q' hβ h
    split at h
    case h_2 => cases h
    rename_i v o hres
    obtain ⟨a, L, k1, k2, k3, k4⟩ := resOfB_sim q' hres
    rw [k1]
    simp only
    split at h
    case h_2 => cases h
    rename_i t' i ts' j hg hgl
    split at h
    case isFalse => cases h
    rename_i hc
    obtain ⟨rfl, rfl⟩ := Prod.mk.inj (Option.some.inj h)
    have hll : LkL β' sA'.H (lentB x.np ms s.e) (lent ms as) [] := by
      have hasn : as.length = x.np := by
        have h1 := LkL.len _ _ _ l0
        have h2 := takeL_len htk
        omega
      unfold lentB at hc ⊢
      rcases Bool.or_eq_true _ _ ▸ hc.2 with h2 | h2
      · have h3 : lent ms ((List.range x.np).map s.e) = [] := by simpa using h2
        rw [h3]
        rw [lent_map] at h3
        have h4 : lent ms (List.range x.np) = [] := List.map_eq_nil_iff.1 h3
        have h5 : as = (List.range x.np).map (envOf as) := list_eq_map hasn fun _ _ => rfl
        rw [h5, lent_map, h4]
        simp [LkL]
      · simp only [Bool.and_eq_true] at h2
        have h5 : as = (List.range x.np).map (envOf as) := list_eq_map hasn fun _ _ => rfl
        rw [h5, lent_map, lent_map, ← List.map_congr_left (hβ h2.1)]
        refine LkL_mapE _ fun t ht => (q'.env t).resolve_left ?_
        rw [lent_map, List.all_map, List.all_eq_true] at h2
        have := h2.2 t ht
        simpa using this
    obtain ⟨xs1, m1, m2, m3, m4⟩ := giveB_sim q' DEP v t' a i L hg k2
    obtain ⟨xs2, n1, n2, n3, n4⟩ := giveBL_sim q' _ _ _ _ hgl hll
    rw [m1, n1]
    simp only
    have hnd := hc.1
    rw [List.append_assoc, List.nodup_append] at hnd
    obtain ⟨d1, d2, d3⟩ := hnd
    rw [List.nodup_append] at d2
    obtain ⟨d4, d5, d6⟩ := d2
    have hno : ∀ y ∈ L, ¬ Rtd β' ω' i y := fun y hy hh => by
      obtain ⟨b, h1, h2⟩ := (k4 y hy).uniq q' hh
      exact d3 b h1 b (by simp [h2]) rfl
    rw [if_pos]
    · exact ⟨rfl, m4, n4⟩
    · refine ⟨?_, .inl q'.fzA⟩
      rw [List.nodup_append]
      refine ⟨m3 d4 (k3 d1) hno, n3 d5, fun y hy z hz e => ?_⟩
      subst e
      rcases m2 y hy with h1 | h1
      · obtain ⟨b, h3, h4⟩ := (k4 y h1).uniq q' (n2 y hz)
        exact d3 b h3 b (by simp [h4]) rfl
      · obtain ⟨b, h3, h4⟩ := h1.uniq q' (n2 y hz)
        exact d6 b h3 b h4 rfl
  split at h
  · rename_i s hs
    obtain ⟨β', ω', rA, k1, k2, k3⟩ := he x.body β0 ω0 _ _ _ hs hsok q1
    rw [k1]
    cases rA with
    | n sA' => exact fin s sA' β' ω' k2 (fun hk => EX_keeps (r := .n sA') k1 hk) h
    | x i sA' => exact k2.elim
    | r sA' => exact k2.elim
  · rename_i s hs
    obtain ⟨β', ω', rA, k1, k2, k3⟩ := he x.body β0 ω0 _ _ _ hs hsok q1
    rw [k1]
    cases rA with
    | r sA' => exact fin s sA' β' ω' k2 (fun hk => EX_keeps (r := .r sA') k1 hk) h
    | x i sA' => exact k2.elim
    | n sA' => exact k2.elim
  · cases h

theorem dp_sim (q : Sim β ω no2 sB sA) {x i : Nat} {s1 : S} (h : dpS x i sB = some s1) : Sim β ω no2 s1 sA := by
  unfold dpS at h
  split at h
  case h_2 => cases h
  rename_i b n c kk k hx hi
  split at h
  case h_2 => cases h
  rename_i B hB
  split at h
  case isFalse => cases h
  rename_i hle
  obtain rfl := Option.some.inj h
  obtain ⟨h0, x', A, h1, h2, h3, h4, h5⟩ := q.blk b B hB
  refine ⟨q.fzB, q.fzA, q.nofr, q.inj, q.dom, q.rng, q.bdA, fun b2 hb => ?_, q.env, fun b2 B2 hB2 => ?_⟩
  · show upd sB.H b _ b2 = none
    rw [upd_ne]
    · exact q.bdB b2 hb
    · rintro rfl; have := q.lt h1; simp only [S.blk] at hb; omega
  · simp only [S.blk] at hB2
    by_cases e : b2 = b
    · subst e
      rw [upd_same] at hB2
      obtain rfl := Option.some.inj hB2
      refine ⟨h0, x', A, h1, h2, h3, by simp; omega, fun j v a _ hv ha => ?_⟩
      simp only [List.getElem?_append, List.length_replicate] at hv
      split at hv
      · left
        rw [List.getElem?_replicate] at hv
        rename_i hj
        rw [if_pos hj] at hv
        exact (Option.some.inj hv).symm
      · rename_i hj
        rw [List.getElem?_drop, show k.toNat + (j - k.toNat) = j by omega] at hv
        exact h5 j v a (fun h => h) hv ha
    · rw [upd_ne _ _ e] at hB2
      exact q.blk b2 B2 hB2

theorem exB_sim {Γ : Env} {T : Nat → Option FB} (hΓ : EnvB Γ T) : ∀ k, ExS Γ (exB Γ T k)
  | 0 => fun c β ω sB sA rB h => by simp [exB] at h
  | k + 1 => by
    have ih := exB_sim hΓ k
    have hi := iso_simB hΓ ih
    intro c β ω sB sA rB h hk q
    cases c with
    | skip => simp only [exB, Option.some.injEq] at h; subst h; exact ⟨β, ω, .n sA, EX_skip _ _, q, fun _ _ _ h => h⟩
    | ret => simp only [exB, Option.some.injEq] at h; subst h; exact ⟨β, ω, .r sA, EX_ret _ _, q, fun _ _ _ h => h⟩
    | ex id => simp only [exB, Option.some.injEq] at h; subst h; exact ⟨β, ω, .x id sA, EX_ex _ _ _, ⟨rfl, q⟩, fun _ _ _ h => h⟩
    | no => simp [exB] at h
    | rg l =>
      simp only [exB] at h
      split at h
      case h_2 => cases h
      rename_i s1 h1
      obtain rfl := Option.some.inj h
      simp only [CB.sok] at hk
      obtain ⟨β', ω', sA', e1, q1, m1⟩ := runB_sim hΓ ih hi l hk q h1
      exact ⟨β', ω', .n sA', by simp only [CB.er]; rw [EX_rg, e1]; rfl, q1, fun _ => m1⟩
    | seq a b =>
      simp only [CB.sok, Bool.and_eq_true] at hk
      simp only [exB] at h
      simp only [CB.er, CB.nonm, Bool.and_eq_true]
      cases ha : exB Γ T k a sB with
      | none => rw [ha] at h; cases h
      | some r1 =>
        rw [ha] at h
        obtain ⟨β1, ω1, rA, e1, g1, m1⟩ := ih a β ω sB sA r1 ha hk.1 q
        rw [EX_seq, e1]
        cases r1 with
        | n s1 =>
          cases rA with
          | n sA1 =>
            obtain ⟨β2, ω2, rA2, e2, g2, m2⟩ := ih b β1 ω1 s1 sA1 rB h hk.2 g1
            exact ⟨β2, ω2, rA2, e2, g2, fun hn b x hx => m2 hn.2 b x (m1 hn.1 b x hx)⟩
          | x i s => exact g1.elim
          | r s => exact g1.elim
        | x i s1 =>
          obtain rfl := Option.some.inj h
          cases rA with
          | x j sA1 => exact ⟨β1, ω1, _, rfl, g1, fun hn => m1 hn.1⟩
          | n s => exact g1.elim
          | r s => exact g1.elim
        | r s1 =>
          obtain rfl := Option.some.inj h
          cases rA with
          | r sA1 => exact ⟨β1, ω1, _, rfl, g1, fun hn => m1 hn.1⟩
          | n s => exact g1.elim
          | x i s => exact g1.elim
    | cond o a b =>
      simp only [CB.sok, Bool.and_eq_true] at hk
      simp only [exB] at h
      simp only [CB.er, CB.nonm, Bool.and_eq_true]
      rw [EX_cond]
      split at h
      · rename_i hv
        have hl := q.val' hk.1.1 (by rw [hv]; rfl)
        rw [hv] at hl
        rw [Lk_im hl]
        obtain ⟨β', ω', rA, e1, g1, m1⟩ := ih a β ω sB sA rB h hk.1.2 q
        exact ⟨β', ω', rA, e1, g1, fun hn => m1 hn.1⟩
      · rename_i hv
        have hl := q.val' hk.1.1 (by rw [hv]; rfl)
        rw [hv] at hl
        rw [Lk_im hl]
        obtain ⟨β', ω', rA, e1, g1, m1⟩ := ih b β ω sB sA rB h hk.2 q
        exact ⟨β', ω', rA, e1, g1, fun hn => m1 hn.2⟩
      · cases h
    | blk id a =>
      simp only [CB.sok] at hk
      simp only [exB] at h
      simp only [CB.er, CB.nonm]
      cases ha : exB Γ T k a sB with
      | none => rw [ha] at h; cases h
      | some r1 =>
        rw [ha] at h
        obtain ⟨β1, ω1, rA, e1, g1, m1⟩ := ih a β ω sB sA r1 ha hk q
        rw [EX_blk, e1]
        cases r1 with
        | n s1 =>
          obtain rfl := Option.some.inj h
          cases rA with
          | n sA1 => exact ⟨β1, ω1, _, rfl, g1, m1⟩
          | x i s => exact g1.elim
          | r s => exact g1.elim
        | x i s1 =>
          cases rA with
          | x j sA1 =>
            obtain ⟨rfl, g1⟩ := g1
            simp only at h ⊢
            split at h
            · rename_i hi'
              obtain rfl := Option.some.inj h
              rw [if_pos hi']
              exact ⟨β1, ω1, _, rfl, g1, m1⟩
            · rename_i hi'
              obtain rfl := Option.some.inj h
              rw [if_neg hi']
              exact ⟨β1, ω1, _, rfl, ⟨rfl, g1⟩, m1⟩
          | n s => exact g1.elim
          | r s => exact g1.elim
        | r s1 =>
          obtain rfl := Option.some.inj h
          cases rA with
          | r sA1 => exact ⟨β1, ω1, _, rfl, g1, m1⟩
          | n s => exact g1.elim
          | x i s => exact g1.elim
    | lp a =>
      simp only [CB.sok] at hk
      simp only [exB] at h
      simp only [CB.er, CB.nonm]
      cases ha : exB Γ T k a sB with
      | none => rw [ha] at h; cases h
      | some r1 =>
        rw [ha] at h
        obtain ⟨β1, ω1, rA, e1, g1, m1⟩ := ih a β ω sB sA r1 ha hk q
        rw [EX_lp, e1]
        cases r1 with
        | n s1 =>
          cases rA with
          | n sA1 =>
            obtain ⟨β2, ω2, rA2, e2, g2, m2⟩ := ih (.lp a) β1 ω1 s1 sA1 rB h hk g1
            exact ⟨β2, ω2, rA2, e2, g2, fun hn b x hx => m2 hn b x (m1 hn b x hx)⟩
          | x i s => exact g1.elim
          | r s => exact g1.elim
        | x i s1 =>
          obtain rfl := Option.some.inj h
          cases rA with
          | x j sA1 => exact ⟨β1, ω1, _, rfl, g1, m1⟩
          | n s => exact g1.elim
          | r s => exact g1.elim
        | r s1 =>
          obtain rfl := Option.some.inj h
          cases rA with
          | r sA1 => exact ⟨β1, ω1, _, rfl, g1, m1⟩
          | n s => exact g1.elim
          | x i s => exact g1.elim
    | dp x i a =>
      simp only [CB.sok] at hk
      simp only [exB] at h
      simp only [CB.er, CB.nonm]
      split at h
      case h_2 => cases h
      rename_i s1 hs1
      exact ih a β ω s1 sA rB h hk (dp_sim q hs1)
    | nm L a =>
      simp only [CB.sok] at hk
      simp only [exB] at h
      simp only [CB.er, CB.nonm]
      split at h
      case h_2 => cases h
      rename_i s1 hs1
      obtain ⟨β1, ω1, q1⟩ := nm_sim q hs1
      obtain ⟨β2, ω2, rA, e1, g1, _⟩ := ih a β1 ω1 s1 sA rB h hk q1
      exact ⟨β2, ω2, rA, e1, g1, fun hn => by cases hn⟩

end Go.Am

/- The B-machine, part 12: the evaluation without fuel. -/
namespace Go.Am

/-- What e1 says, e2 says. -/
def LeB (e1 e2 : CB → S → Option R) : Prop := ∀ c s r, e1 c s = some r → e2 c s = some r

theorem isoB_one {Γ : Env} {T : Nat → Option FB} {e : CB → S → Option R} {f : Nat} {ms : List M} {args : List V} {x : V × List V} (h : isoB Γ T e f ms args = some x) :
    ∃ q : Option (CB × S × R), (∀ c s r, q = some (c, s, r) → e c s = some r) ∧ ∀ e' : CB → S → Option R, (∀ c s r, q = some (c, s, r) → e' c s = some r) → isoB Γ T e' f ms args = some x := by
  unfold isoB at h ⊢
  cases hpr : Γ.pr f with
  | some p =>
    rw [hpr] at h
    exact ⟨none, fun _ _ _ hh => by simp at hh, fun e' _ => h⟩
  | none =>
    rw [hpr] at h
    simp only at h ⊢
    cases hT : T f with
    | none => rw [hT] at h; cases h
    | some F =>
      rw [hT] at h
      simp only at h ⊢
      split at h
      case isFalse => cases h
      rename_i hl
      cases ht : takeL (takeB DEP) args { e := fun _ => .un, H := fun _ => none, nx := 0 } with
      | none => rw [ht] at h; cases h
      | some y =>
        obtain ⟨vals, s0⟩ := y
        rw [ht] at h
        simp only at h
        cases hq : e F.body { e := envOf vals, H := s0.H, nx := s0.nx } with
        | none => rw [hq] at h; cases h
        | some r =>
          refine ⟨some (F.body, { e := envOf vals, H := s0.H, nx := s0.nx }, r), fun c s r' hh => ?_, fun e' he' => ?_⟩
          · cases hh; exact hq
          · rw [if_pos hl]
            simp only
            rw [he' _ _ _ rfl]
            rw [hq] at h
            exact h

theorem callB_one {Γ : Env} {T : Nat → Option FB} {e : CB → S → Option R} {fv : V} {args : List V} {s : S} {x : V × S} (h : callB Γ T e fv args s = some x) :
    ∃ q : Option (CB × S × R), (∀ c s r, q = some (c, s, r) → e c s = some r) ∧ ∀ e' : CB → S → Option R, (∀ c s r, q = some (c, s, r) → e' c s = some r) → callB Γ T e' fv args s = some x := by
  unfold callB at h ⊢
  cases hf : fnOf fv with
  | none => rw [hf] at h; cases h
  | some y =>
    obtain ⟨f, caps⟩ := y
    rw [hf] at h
    simp only at h ⊢
    cases hm : Γ.md f with
    | none =>
      rw [hm] at h
      simp only at h ⊢
      cases hT : T f with
      | none => rw [hT] at h; cases h
      | some F =>
        rw [hT] at h
        simp only at h ⊢
        split at h
        case isFalse => cases h
        rename_i hl
        cases hq : e F.body { s with e := envOf (args ++ caps) } with
        | none => rw [hq] at h; cases h
        | some r =>
          refine ⟨some (F.body, { s with e := envOf (args ++ caps) }, r), fun c s r' hh => ?_, fun e' he' => ?_⟩
          · cases hh; exact hq
          · rw [if_pos hl]
            rw [he' _ _ _ rfl]
            rw [hq] at h
            exact h
    | some ms =>
      rw [hm] at h
      simp only at h ⊢
      cases hh : handB s.H ms (args ++ caps) with
      | none => rw [hh] at h; cases h
      | some y =>
        obtain ⟨ts, rs, os⟩ := y
        rw [hh] at h
        simp only at h ⊢
        split at h
        case isFalse => cases h
        rename_i hc
        cases hi : isoB Γ T e f ms ts with
        | none => rw [hi] at h; cases h
        | some z =>
          obtain ⟨q, h1, h2⟩ := isoB_one hi
          refine ⟨q, h1, fun e' he' => ?_⟩
          rw [if_pos hc, h2 e' he']
          rw [hi] at h
          exact h

theorem callB_le {Γ : Env} {T : Nat → Option FB} {e1 e2 : CB → S → Option R} (h : LeB e1 e2) {fv : V} {args : List V} {s : S} {x : V × S} (hx : callB Γ T e1 fv args s = some x) : callB Γ T e2 fv args s = some x := by
  obtain ⟨q, h1, h2⟩ := callB_one hx
  exact h2 e2 fun c s r hq => h _ _ _ (h1 c s r hq)

theorem opB_noca {ca ca' : V → List V → S → Option (V × S)} {s : S} {a : A} (h : ∀ f xs, a ≠ .ca f xs) : opB ca s a = opB ca' s a := by
  cases a <;> first | rfl | exact absurd rfl (h _ _)

theorem opB_le {Γ : Env} {T : Nat → Option FB} {e1 e2 : CB → S → Option R} (h : LeB e1 e2) {s : S} {a : A} {x : V × S} (hx : opB (callB Γ T e1) s a = some x) : opB (callB Γ T e2) s a = some x := by
  by_cases hca : ∃ f xs, a = .ca f xs
  · obtain ⟨f, xs, rfl⟩ := hca
    simp only [opB] at hx ⊢
    split at hx
    · rename_i hc; rw [if_pos hc]; exact callB_le h hx
    · cases hx
  · rw [opB_noca (ca' := callB Γ T e1)]
    · exact hx
    · exact fun f xs hh => hca ⟨f, xs, hh⟩

theorem runB_cons {ca : V → List V → S → Option (V × S)} {i : I} {l : List I} {s : S} : runB ca (i :: l) s = match guardA s.e i.g with
    | some true => match opB ca s i.a with | some (v, s1) => runB ca l (s1.put i.d v) | none => none
    | some false => runB ca l (s.put i.d .un)
    | none => none := rfl

theorem runB_step {ca : V → List V → S → Option (V × S)} {i : I} {l : List I} {s s' : S} (h : runB ca (i :: l) s = some s') :
    ∃ s1, ((guardA s.e i.g = some true ∧ ∃ v s2, opB ca s i.a = some (v, s2) ∧ s1 = s2.put i.d v) ∨ (guardA s.e i.g = some false ∧ s1 = s.put i.d .un)) ∧ runB ca l s1 = some s' := by
  rw [runB_cons] at h
  split at h
  · rename_i hg
    split at h
    · rename_i v s2 hv; exact ⟨_, .inl ⟨hg, v, s2, hv, rfl⟩, h⟩
    · cases h
  · rename_i hg; exact ⟨_, .inr ⟨hg, rfl⟩, h⟩
  · cases h

theorem runB_le {Γ : Env} {T : Nat → Option FB} {e1 e2 : CB → S → Option R} (h : LeB e1 e2) : ∀ {l : List I} {s s' : S}, runB (callB Γ T e1) l s = some s' → runB (callB Γ T e2) l s = some s'
  | [], s, s', hx => hx
  | i :: l, s, s', hx => by
    obtain ⟨s1, h1, h2⟩ := runB_step hx
    rw [runB_cons]
    rcases h1 with ⟨hg, v, s2, hv, rfl⟩ | ⟨hg, rfl⟩
    · rw [hg]; simp only; rw [opB_le h hv]; exact runB_le h h2
    · rw [hg]; exact runB_le h h2

section
variable (Γ : Env) (T : Nat → Option FB) (k : Nat)
theorem exB_rg (l : List I) (s : S) : exB Γ T (k + 1) (.rg l) s = match runB (callB Γ T (exB Γ T k)) l s with | some s1 => some (.n s1) | none => none := rfl
theorem exB_seq (a b : CB) (s : S) : exB Γ T (k + 1) (.seq a b) s = match exB Γ T k a s with | some (.n s1) => exB Γ T k b s1 | r => r := rfl
theorem exB_cond (o : O) (a b : CB) (s : S) : exB Γ T (k + 1) (.cond o a b) s = match val s.e o with | .im (.bool true) => exB Γ T k a s | .im (.bool false) => exB Γ T k b s | _ => none := rfl
theorem exB_blk (id : Nat) (a : CB) (s : S) : exB Γ T (k + 1) (.blk id a) s = match exB Γ T k a s with | some (.x j s1) => if j = id then some (.n s1) else some (.x j s1) | r => r := rfl
theorem exB_lp (a : CB) (s : S) : exB Γ T (k + 1) (.lp a) s = match exB Γ T k a s with | some (.n s1) => exB Γ T k (.lp a) s1 | r => r := rfl
theorem exB_dp (x i : Nat) (a : CB) (s : S) : exB Γ T (k + 1) (.dp x i a) s = match dpS x i s with | some s1 => exB Γ T k a s1 | none => none := rfl
theorem exB_nm (L : List Nat) (a : CB) (s : S) : exB Γ T (k + 1) (.nm L a) s = match nmS L s with | some s1 => exB Γ T k a s1 | none => none := rfl
end

theorem exB_le_succ (Γ : Env) (T : Nat → Option FB) : ∀ k, LeB (exB Γ T k) (exB Γ T (k + 1))
  | 0 => fun c s r h => by simp [exB] at h
  | k + 1 => by
    have ih := exB_le_succ Γ T k
    intro c s r h
    cases c with
    | skip => exact h
    | rg l =>
      rw [exB_rg] at h ⊢
      split at h
      · rename_i s1 h1; rw [runB_le ih h1]; exact h
      · cases h
    | seq a b =>
      rw [exB_seq] at h ⊢
      cases ha : exB Γ T k a s with
      | none => rw [ha] at h; cases h
      | some r1 =>
        rw [ha] at h
        rw [ih _ _ _ ha]
        cases r1 with
        | n s1 => exact ih _ _ _ h
        | x j s1 => exact h
        | r s1 => exact h
    | cond o a b =>
      rw [exB_cond] at h ⊢
      split at h
      · rename_i hv; try rw [hv]
        exact ih _ _ _ h
      · rename_i hv; try rw [hv]
        exact ih _ _ _ h
      · cases h
    | blk id a =>
      rw [exB_blk] at h ⊢
      cases ha : exB Γ T k a s with
      | none => rw [ha] at h; cases h
      | some r1 =>
        rw [ha] at h
        rw [ih _ _ _ ha]
        exact h
    | lp a =>
      rw [exB_lp] at h ⊢
      cases ha : exB Γ T k a s with
      | none => rw [ha] at h; cases h
      | some r1 =>
        rw [ha] at h
        rw [ih _ _ _ ha]
        cases r1 with
        | n s1 => exact ih _ _ _ h
        | x j s1 => exact h
        | r s1 => exact h
    | ex id => exact h
    | ret => exact h
    | no => simp [exB] at h
    | nm L a =>
      rw [exB_nm] at h ⊢
      split at h
      · rename_i s1 hs; try rw [hs]
        exact ih _ _ _ h
      · cases h
    | dp x i a =>
      rw [exB_dp] at h ⊢
      split at h
      · rename_i s1 hs; try rw [hs]
        exact ih _ _ _ h
      · cases h

theorem exB_le (Γ : Env) (T : Nat → Option FB) {k n : Nat} (h : k ≤ n) : LeB (exB Γ T k) (exB Γ T n) := by
  induction h with
  | refl => exact fun _ _ _ h => h
  | step _ ih => exact fun c s r hr => exB_le_succ Γ T _ _ _ _ (ih c s r hr)

open Classical in
/-- The evaluation, with as much fuel as it takes. -/
noncomputable def EXB (Γ : Env) (T : Nat → Option FB) (c : CB) (s : S) : Option R := if h : ∃ k r, exB Γ T k c s = some r then some (Classical.choose (Classical.choose_spec h)) else none

theorem EXB_iff {Γ : Env} {T : Nat → Option FB} {c : CB} {s : S} {r : R} : EXB Γ T c s = some r ↔ ∃ k, exB Γ T k c s = some r := by
  classical
  unfold EXB
  constructor
  · intro h
    split at h
    · rename_i hh
      refine ⟨Classical.choose hh, ?_⟩
      rw [← Option.some.inj h]
      exact Classical.choose_spec (Classical.choose_spec hh)
    · cases h
  · rintro ⟨k, hk⟩
    have hh : ∃ k r, exB Γ T k c s = some r := ⟨k, r, hk⟩
    rw [dif_pos hh]
    have h1 := Classical.choose_spec (Classical.choose_spec hh)
    have h2 := exB_le Γ T (Nat.le_max_left k (Classical.choose hh)) _ _ _ hk
    have h3 := exB_le Γ T (Nat.le_max_right k (Classical.choose hh)) _ _ _ h1
    rw [h2] at h3
    exact h3.symm

theorem le_EXB (Γ : Env) (T : Nat → Option FB) (k : Nat) : LeB (exB Γ T k) (EXB Γ T) := fun _ _ _ h => EXB_iff.2 ⟨k, h⟩

theorem callB_fin {Γ : Env} {T : Nat → Option FB} {fv : V} {args : List V} {s : S} {x : V × S} (h : callB Γ T (EXB Γ T) fv args s = some x) : ∃ k, callB Γ T (exB Γ T k) fv args s = some x := by
  obtain ⟨q, h1, h2⟩ := callB_one h
  cases q with
  | none => exact ⟨0, h2 _ fun _ _ _ hh => by simp at hh⟩
  | some y =>
    obtain ⟨c, s0, r⟩ := y
    obtain ⟨k, hk⟩ := EXB_iff.1 (h1 c s0 r rfl)
    refine ⟨k, h2 _ fun c' s' r' hh => ?_⟩
    cases hh; exact hk

theorem isoB_fin {Γ : Env} {T : Nat → Option FB} {f : Nat} {ms : List M} {args : List V} {x : V × List V} (h : isoB Γ T (EXB Γ T) f ms args = some x) : ∃ k, isoB Γ T (exB Γ T k) f ms args = some x := by
  obtain ⟨q, h1, h2⟩ := isoB_one h
  cases q with
  | none => exact ⟨0, h2 _ fun _ _ _ hh => by simp at hh⟩
  | some y =>
    obtain ⟨c, s0, r⟩ := y
    obtain ⟨k, hk⟩ := EXB_iff.1 (h1 c s0 r rfl)
    refine ⟨k, h2 _ fun c' s' r' hh => ?_⟩
    cases hh; exact hk

theorem runB_fin {Γ : Env} {T : Nat → Option FB} : ∀ {l : List I} {s s' : S}, runB (callB Γ T (EXB Γ T)) l s = some s' → ∃ k, runB (callB Γ T (exB Γ T k)) l s = some s'
  | [], s, s', h => ⟨0, h⟩
  | i :: l, s, s', h => by
    obtain ⟨s1, hx, h⟩ := runB_step h
    obtain ⟨k2, h2⟩ := runB_fin h
    rcases hx with ⟨hg, v, s2, hv, rfl⟩ | ⟨hg, rfl⟩
    · have : ∃ k1, opB (callB Γ T (exB Γ T k1)) s i.a = some (v, s2) := by
        by_cases hca : ∃ f xs, i.a = .ca f xs
        · obtain ⟨f, xs, e⟩ := hca
          rw [e] at hv ⊢
          simp only [opB] at hv ⊢
          split at hv
          · rename_i hc
            obtain ⟨k, hk⟩ := callB_fin hv
            exact ⟨k, by rw [if_pos hc]; exact hk⟩
          · cases hv
        · refine ⟨0, ?_⟩
          rw [opB_noca (ca' := callB Γ T (EXB Γ T))]
          · exact hv
          · exact fun f xs hh => hca ⟨f, xs, hh⟩
      obtain ⟨k1, h1⟩ := this
      refine ⟨max k1 k2, ?_⟩
      rw [runB_cons, hg]
      simp only
      rw [opB_le (exB_le Γ T (Nat.le_max_left _ _)) h1]
      exact runB_le (exB_le Γ T (Nat.le_max_right _ _)) h2
    · refine ⟨k2, ?_⟩
      rw [runB_cons, hg]
      exact h2

/-! The equations. -/
theorem EXB_skip (Γ : Env) (T : Nat → Option FB) (s : S) : EXB Γ T .skip s = some (.n s) := EXB_iff.2 ⟨1, rfl⟩
theorem EXB_ret (Γ : Env) (T : Nat → Option FB) (s : S) : EXB Γ T .ret s = some (.r s) := EXB_iff.2 ⟨1, rfl⟩
theorem EXB_ex (Γ : Env) (T : Nat → Option FB) (id : Nat) (s : S) : EXB Γ T (.ex id) s = some (.x id s) := EXB_iff.2 ⟨1, rfl⟩
theorem EXB_rg (Γ : Env) (T : Nat → Option FB) (l : List I) (s : S) : EXB Γ T (.rg l) s = (runB (callB Γ T (EXB Γ T)) l s).map .n := by
  refine opt_ext (fun r h => ?_) fun r h => ?_
  · obtain ⟨k, hk⟩ := EXB_iff.1 h
    cases k with
    | zero => simp [exB] at hk
    | succ k =>
      simp only [exB] at hk
      split at hk
      · rename_i s1 h1
        rw [runB_le (le_EXB Γ T k) h1]; exact hk
      · cases hk
  · obtain ⟨s1, h1, rfl⟩ := Option.map_eq_some_iff.1 h
    obtain ⟨k, hk⟩ := runB_fin h1
    exact EXB_iff.2 ⟨k + 1, by simp only [exB]; rw [hk]⟩
theorem EXB_seq (Γ : Env) (T : Nat → Option FB) (a b : CB) (s : S) : EXB Γ T (.seq a b) s = match EXB Γ T a s with | some (.n s1) => EXB Γ T b s1 | r => r := by
  refine opt_ext (fun r h => ?_) fun r h => ?_
  · obtain ⟨k, hk⟩ := EXB_iff.1 h
    cases k with
    | zero => simp [exB] at hk
    | succ k =>
      simp only [exB] at hk
      cases ha : exB Γ T k a s with
      | none => rw [ha] at hk; cases hk
      | some r1 =>
        rw [ha] at hk
        rw [le_EXB Γ T k _ _ _ ha]
        cases r1 with
        | n s1 => exact le_EXB Γ T k _ _ _ hk
        | x j s1 => exact hk
        | r s1 => exact hk
  · cases ha : EXB Γ T a s with
    | none => rw [ha] at h; cases h
    | some r1 =>
      rw [ha] at h
      obtain ⟨k1, h1⟩ := EXB_iff.1 ha
      cases r1 with
      | n s1 =>
        obtain ⟨k2, h2⟩ := EXB_iff.1 h
        refine EXB_iff.2 ⟨max k1 k2 + 1, ?_⟩
        simp only [exB]
        rw [exB_le Γ T (Nat.le_max_left _ _) _ _ _ h1]
        exact exB_le Γ T (Nat.le_max_right _ _) _ _ _ h2
      | x j s1 => refine EXB_iff.2 ⟨k1 + 1, ?_⟩; simp only [exB]; rw [h1]; exact h
      | r s1 => refine EXB_iff.2 ⟨k1 + 1, ?_⟩; simp only [exB]; rw [h1]; exact h
theorem EXB_cond (Γ : Env) (T : Nat → Option FB) (o : O) (a b : CB) (s : S) : EXB Γ T (.cond o a b) s = match val s.e o with | .im (.bool true) => EXB Γ T a s | .im (.bool false) => EXB Γ T b s | _ => none := by
  refine opt_ext (fun r h => ?_) fun r h => ?_
  · obtain ⟨k, hk⟩ := EXB_iff.1 h
    cases k with
    | zero => simp [exB] at hk
    | succ k =>
      simp only [exB] at hk
      split at hk
      · rename_i hv; try rw [hv]
        exact le_EXB Γ T k _ _ _ hk
      · rename_i hv; try rw [hv]
        exact le_EXB Γ T k _ _ _ hk
      · cases hk
  · split at h
    · rename_i hv
      obtain ⟨k, hk⟩ := EXB_iff.1 h
      exact EXB_iff.2 ⟨k + 1, by simp only [exB]; rw [hv]; exact hk⟩
    · rename_i hv
      obtain ⟨k, hk⟩ := EXB_iff.1 h
      exact EXB_iff.2 ⟨k + 1, by simp only [exB]; rw [hv]; exact hk⟩
    · cases h
theorem EXB_blk (Γ : Env) (T : Nat → Option FB) (id : Nat) (a : CB) (s : S) : EXB Γ T (.blk id a) s = match EXB Γ T a s with | some (.x j s1) => if j = id then some (.n s1) else some (.x j s1) | r => r := by
  refine opt_ext (fun r h => ?_) fun r h => ?_
  · obtain ⟨k, hk⟩ := EXB_iff.1 h
    cases k with
    | zero => simp [exB] at hk
    | succ k =>
      simp only [exB] at hk
      cases ha : exB Γ T k a s with
      | none => rw [ha] at hk; cases hk
      | some r1 => rw [ha] at hk; rw [le_EXB Γ T k _ _ _ ha]; exact hk
  · cases ha : EXB Γ T a s with
    | none => rw [ha] at h; cases h
    | some r1 =>
      rw [ha] at h
      obtain ⟨k1, h1⟩ := EXB_iff.1 ha
      exact EXB_iff.2 ⟨k1 + 1, by simp only [exB]; rw [h1]; exact h⟩
theorem EXB_lp (Γ : Env) (T : Nat → Option FB) (a : CB) (s : S) : EXB Γ T (.lp a) s = match EXB Γ T a s with | some (.n s1) => EXB Γ T (.lp a) s1 | r => r := by
  refine opt_ext (fun r h => ?_) fun r h => ?_
  · obtain ⟨k, hk⟩ := EXB_iff.1 h
    cases k with
    | zero => simp [exB] at hk
    | succ k =>
      simp only [exB] at hk
      cases ha : exB Γ T k a s with
      | none => rw [ha] at hk; cases hk
      | some r1 =>
        rw [ha] at hk
        rw [le_EXB Γ T k _ _ _ ha]
        cases r1 with
        | n s1 => exact le_EXB Γ T k _ _ _ hk
        | x j s1 => exact hk
        | r s1 => exact hk
  · cases ha : EXB Γ T a s with
    | none => rw [ha] at h; cases h
    | some r1 =>
      rw [ha] at h
      obtain ⟨k1, h1⟩ := EXB_iff.1 ha
      cases r1 with
      | n s1 =>
        obtain ⟨k2, h2⟩ := EXB_iff.1 h
        refine EXB_iff.2 ⟨max k1 k2 + 1, ?_⟩
        simp only [exB]
        rw [exB_le Γ T (Nat.le_max_left _ _) _ _ _ h1]
        exact exB_le Γ T (Nat.le_max_right _ _) _ _ _ h2
      | x j s1 => refine EXB_iff.2 ⟨k1 + 1, ?_⟩; simp only [exB]; rw [h1]; exact h
      | r s1 => refine EXB_iff.2 ⟨k1 + 1, ?_⟩; simp only [exB]; rw [h1]; exact h

theorem EXB_nm (Γ : Env) (T : Nat → Option FB) (L : List Nat) (a : CB) (s : S) : EXB Γ T (.nm L a) s = match nmS L s with | some s1 => EXB Γ T a s1 | none => none := by
  refine opt_ext (fun r h => ?_) fun r h => ?_
  · obtain ⟨k, hk⟩ := EXB_iff.1 h
    cases k with
    | zero => simp [exB] at hk
    | succ k =>
      rw [exB_nm] at hk
      split at hk
      · rename_i s1 hs; try rw [hs]
        exact le_EXB Γ T k _ _ _ hk
      · cases hk
  · split at h
    · rename_i s1 hs
      obtain ⟨k, hk⟩ := EXB_iff.1 h
      exact EXB_iff.2 ⟨k + 1, by rw [exB_nm, hs]; exact hk⟩
    · cases h

theorem EXB_dp (Γ : Env) (T : Nat → Option FB) (x i : Nat) (a : CB) (s : S) : EXB Γ T (.dp x i a) s = match dpS x i s with | some s1 => EXB Γ T a s1 | none => none := by
  refine opt_ext (fun r h => ?_) fun r h => ?_
  · obtain ⟨k, hk⟩ := EXB_iff.1 h
    cases k with
    | zero => simp [exB] at hk
    | succ k =>
      rw [exB_dp] at hk
      split at hk
      · rename_i s1 hs; try rw [hs]
        exact le_EXB Γ T k _ _ _ hk
      · cases hk
  · split at h
    · rename_i s1 hs
      obtain ⟨k, hk⟩ := EXB_iff.1 h
      exact EXB_iff.2 ⟨k + 1, by rw [exB_dp, hs]; exact hk⟩
    · cases h

/-- The call of a function on trees. -/
noncomputable def CALLB (Γ : Env) (T : Nat → Option FB) (f : Nat) (ms : List M) (args : List V) : Option (V × List V) := isoB Γ T (EXB Γ T) f ms args

theorem CALLB_ok {P : Program} {Γ : Env} {T : Nat → Option FB} (hΓ : EnvOK P Γ) (hB : EnvB Γ T) {f : Nat} {ms : List M} (hmd : Γ.md f = some ms) {args : List V} (hp : PurL args) {res : V} {us : List V} (h : CALLB Γ T f ms args = some (res, us)) : IsoOK P f ms args res us := by
  obtain ⟨k, hk⟩ := isoB_fin h
  have := (iso_simB hB (exB_sim hB k) f ms args res us hk hp).1
  exact CALL_ok hΓ hmd this

end Go.Am

/- The B-machine, part 13: code, one operation at a time. -/
namespace Go.Am

/-- The code comes to an end, and of that this is so. -/
def WP (Γ : Env) (T : Nat → Option FB) (c : CB) (s : S) (Q : R → Prop) : Prop := ∃ r, EXB Γ T c s = some r ∧ Q r
def WL (Γ : Env) (T : Nat → Option FB) (l : List I) (s : S) (K : S → Prop) : Prop := ∃ s1, runB (callB Γ T (EXB Γ T)) l s = some s1 ∧ K s1
def WO (Γ : Env) (T : Nat → Option FB) (a : A) (s : S) (K : V → S → Prop) : Prop := ∃ v s1, opB (callB Γ T (EXB Γ T)) s a = some (v, s1) ∧ K v s1

section
variable {Γ : Env} {T : Nat → Option FB} {s : S} {Q : R → Prop}

def SqQ (Γ : Env) (T : Nat → Option FB) (b : CB) (Q : R → Prop) : R → Prop
  | .n s1 => WP Γ T b s1 Q
  | r => Q r
def BkQ (id : Nat) (Q : R → Prop) : R → Prop
  | .x j s1 => if j = id then Q (.n s1) else Q (.x j s1)
  | r => Q r

theorem wp_skip (h : Q (.n s)) : WP Γ T .skip s Q := ⟨_, EXB_skip _ _ _, h⟩
theorem wp_ret (h : Q (.r s)) : WP Γ T .ret s Q := ⟨_, EXB_ret _ _ _, h⟩
theorem wp_ex {id : Nat} (h : Q (.x id s)) : WP Γ T (.ex id) s Q := ⟨_, EXB_ex _ _ _ _, h⟩
theorem wp_seq {a b : CB} (h : WP Γ T a s (SqQ Γ T b Q)) : WP Γ T (.seq a b) s Q := by
  obtain ⟨r, h1, h2⟩ := h
  cases r with
  | n s1 =>
    obtain ⟨r2, h3, h4⟩ := h2
    exact ⟨r2, by rw [EXB_seq, h1]; exact h3, h4⟩
  | x i s1 => exact ⟨_, by rw [EXB_seq, h1], h2⟩
  | r s1 => exact ⟨_, by rw [EXB_seq, h1], h2⟩
theorem wp_rg {l : List I} (h : WL Γ T l s fun s1 => Q (.n s1)) : WP Γ T (.rg l) s Q := by
  obtain ⟨s1, h1, h2⟩ := h
  exact ⟨_, by rw [EXB_rg, h1]; rfl, h2⟩
theorem wp_cond {o : O} {a b : CB} {c : Bool} (hc : val s.e o = .b c) (ht : c = true → WP Γ T a s Q) (hf : c = false → WP Γ T b s Q) : WP Γ T (.cond o a b) s Q := by
  cases c with
  | true => obtain ⟨r, h1, h2⟩ := ht rfl; exact ⟨r, by rw [EXB_cond, hc]; exact h1, h2⟩
  | false => obtain ⟨r, h1, h2⟩ := hf rfl; exact ⟨r, by rw [EXB_cond, hc]; exact h1, h2⟩
theorem wp_blk {id : Nat} {a : CB} (h : WP Γ T a s (BkQ id Q)) : WP Γ T (.blk id a) s Q := by
  obtain ⟨r, h1, h2⟩ := h
  cases r with
  | x j s1 =>
    simp only [BkQ] at h2
    by_cases hj : j = id
    · rw [if_pos hj] at h2; exact ⟨_, by rw [EXB_blk, h1]; exact if_pos hj, h2⟩
    · rw [if_neg hj] at h2; exact ⟨_, by rw [EXB_blk, h1]; exact if_neg hj, h2⟩
  | n s1 => exact ⟨_, by rw [EXB_blk, h1], h2⟩
  | r s1 => exact ⟨_, by rw [EXB_blk, h1], h2⟩
theorem wp_lp {a : CB} (h : WP Γ T a s (SqQ Γ T (.lp a) Q)) : WP Γ T (.lp a) s Q := by
  obtain ⟨r, h1, h2⟩ := h
  cases r with
  | n s1 =>
    obtain ⟨r2, h3, h4⟩ := h2
    exact ⟨r2, by rw [EXB_lp, h1]; exact h3, h4⟩
  | x i s1 => exact ⟨_, by rw [EXB_lp, h1], h2⟩
  | r s1 => exact ⟨_, by rw [EXB_lp, h1], h2⟩
theorem wp_nm {L : List Nat} {a : CB} {s1 : S} (hs : nmS L s = some s1) (h : WP Γ T a s1 Q) : WP Γ T (.nm L a) s Q := by
  obtain ⟨r, h1, h2⟩ := h
  exact ⟨r, by rw [EXB_nm, hs]; exact h1, h2⟩
theorem wp_dp {x i b n c kn : Nat} {k : Int} {B : Blk} {kk : IntKind} {a : CB} (hx : s.e x = .hs b 0 n c) (hi : s.e i = .im (.int kk k)) (hB : s.H b = some B) (hk : k = (kn : Nat)) (hle : kn ≤ B.es.length) (h : WP Γ T a (s.blk b (some { B with es := List.replicate kn V.dd ++ B.es.drop kn })) Q) : WP Γ T (.dp x i a) s Q := by
  obtain ⟨r, h1, h2⟩ := h
  have e : dpS x i s = some (s.blk b (some { B with es := List.replicate kn V.dd ++ B.es.drop kn })) := by
    subst hk
    simp only [dpS, hx, hi, hB, Int.toNat_natCast]
    rw [if_pos hle]
  exact ⟨r, by rw [EXB_dp, e]; exact h1, h2⟩
theorem wp_mono {c : CB} {Q' : R → Prop} (h : WP Γ T c s Q) (hq : ∀ r, Q r → Q' r) : WP Γ T c s Q' := let ⟨r, h1, h2⟩ := h; ⟨r, h1, hq r h2⟩

theorem wr_nil {K : S → Prop} (h : K s) : WL Γ T [] s K := ⟨s, rfl, h⟩
theorem wr_op {d : Option Nat} {a : A} {l : List I} {K : S → Prop} (h : WO Γ T a s fun v s1 => WL Γ T l (s1.put d v) K) : WL Γ T (⟨d, none, a⟩ :: l) s K := by
  obtain ⟨v, s1, h1, s2, h2, h3⟩ := h
  exact ⟨s2, by simp only [runB_cons, guardA, h1]; exact h2, h3⟩
theorem wr_g {d : Option Nat} {t : Nat} {w : Bool} {a : A} {l : List I} {K : S → Prop} {b : Bool} (hb : s.e t = .b b) (h1 : b = w → WO Γ T a s fun v s1 => WL Γ T l (s1.put d v) K) (h2 : b ≠ w → WL Γ T l (s.put d .un) K) : WL Γ T (⟨d, some (t, w), a⟩ :: l) s K := by
  by_cases hw : b = w
  · obtain ⟨v, s1, h1, s2, h2, h3⟩ := h1 hw
    exact ⟨s2, by simp only [runB_cons, guardA, hb, hw, beq_self_eq_true, h1]; exact h2, h3⟩
  · obtain ⟨s2, h3, h4⟩ := h2 hw
    have : (b == w) = false := by simpa using hw
    exact ⟨s2, by simp only [runB_cons, guardA, hb, this]; exact h3, h4⟩

theorem wr_gt {d : Option Nat} {t : Nat} {w : Bool} {a : A} {l : List I} {K : S → Prop} {b : Bool} (hb : s.e t = .b b) (hw : b = w) (h : WO Γ T a s fun v s1 => WL Γ T l (s1.put d v) K) : WL Γ T (⟨d, some (t, w), a⟩ :: l) s K := wr_g hb (fun _ => h) fun hn => absurd hw hn
theorem wr_gf {d : Option Nat} {t : Nat} {w : Bool} {a : A} {l : List I} {K : S → Prop} {b : Bool} (hb : s.e t = .b b) (hw : b = !w) (h : WL Γ T l (s.put d .un) K) : WL Γ T (⟨d, some (t, w), a⟩ :: l) s K := wr_g hb (fun hn => by rw [hn] at hw; cases w <;> cases hw) fun _ => h
/-- A guard: the cases. -/
theorem wr_gc {d : Option Nat} {t : Nat} {w : Bool} {a : A} {l : List I} {K : S → Prop} {b : Bool} (hb : s.e t = .b b) (h1 : b = w → WO Γ T a s fun v s1 => WL Γ T l (s1.put d v) K) (h2 : b = !w → WL Γ T l (s.put d .un) K) : WL Γ T (⟨d, some (t, w), a⟩ :: l) s K :=
  wr_g hb h1 fun hn => h2 (by cases b <;> cases w <;> simp_all)

variable {K : V → S → Prop}
theorem wo_of {a : A} {v : V} {s1 : S} (h : opB (callB Γ T (EXB Γ T)) s a = some (v, s1)) (k : K v s1) : WO Γ T a s K := ⟨v, s1, h, k⟩
theorem wo_mv {x : O} {v : V} (hv : val s.e x = v) (k : K v s) : WO Γ T (.mv x) s K := ⟨v, s, by simp only [opB, opA, hv], k⟩
theorem wo_ln {x : O} {n : Nat} (hv : vlen (val s.e x) = some n) (k : K (.i n) s) : WO Γ T (.ln x) s K := ⟨_, s, by simp only [opB, opA, hv], k⟩
theorem wo_bi {op : BinOp} {x y : O} {u w z : Value} (hx : val s.e x = .im u) (hy : val s.e y = .im w) (h : abin op u w = some z) (k : K (.im z) s) : WO Γ T (.bi op x y) s K := ⟨_, s, by simp only [opB, opA, hx, hy, h]; rfl, k⟩

theorem wo_ia {q : Option Nat} {x i : O} {es : List V} {e : V} {n : Int} (hx : val s.e x = .sl es) (hi : val s.e i = .i n) (h0 : 0 ≤ n) (he : es[n.toNat]? = some e) (hs : e.size = ksz q) (k : K (.rp e) s) : WO Γ T (.ia q x i) s K :=
  ⟨_, s, by simp only [opB, opA, hx, hi, asI, h0, if_true, he, hs], k⟩
theorem wo_iah {q : Option Nat} {x i : O} {b off m c : Nat} {B : Blk} {n : Int} (hx : val s.e x = .hs b off m c) (hi : val s.e i = .i n) (hB : s.H b = some B) (h0 : 0 ≤ n) (h1 : n < m) (hk : B.k = ksz q) (k : K (.hp b (off + n.toNat)) s) : WO Γ T (.ia q x i) s K :=
  ⟨_, s, by simp only [opB, opA, hx, hi, asI, hB]; rw [if_pos ⟨h0, h1, hk⟩], k⟩
theorem wo_call {f : Nat} {xs : List O} {ms : List M} {ts us vs : List V} {rs os : List Nat} {t v : V} {s1 s2 : S} (hu : (xs.all fun x => !isUn (val s.e x)) = true) (hv : xs.map (val s.e) = vs) (hm : Γ.md f = some ms) (hh : handB s.H ms vs = some (ts, rs, os)) (hn : os.Nodup ∧ ∀ b ∈ os, b ∉ rs)
    (hc : CALLB Γ T f ms ts = some (t, us)) (hr : (rs.isEmpty || (free DEP t && allL (free DEP) us)) = true) (hb : backLB s.H (lent ms vs) us (s.mem (kill s.H os)) = some s1) (ht : takeB DEP t s1 = some (v, s2)) (k : K v s2) :
    WO Γ T (.ca (.k (.cl f [])) xs) s K := by
  refine ⟨v, s2, ?_, k⟩
  have h1 : ((O.k (.cl f []) :: xs).all fun x => !isUn (val s.e x)) = true := by simp only [List.all_cons, Bool.and_eq_true]; exact ⟨rfl, hu⟩
  simp only [opB]
  rw [if_pos h1, hv]
  simp only [callB, val, fnOf, hm, List.append_nil, hh]
  rw [if_pos hn]
  have hc' : isoB Γ T (EXB Γ T) f ms ts = some (t, us) := hc
  rw [hc']
  simp only [hr, if_true]
  rw [hb]
  exact ht
/-- A call whose arguments are only read, and name no memory of the frame. -/
theorem wo_call0 {f : Nat} {xs : List O} {ts vs : List V} {t v : V} {s2 : S} (hu : (xs.all fun x => !isUn (val s.e x)) = true) (hv : xs.map (val s.e) = vs) (hm : Γ.md f = some []) (hh : handB s.H [] vs = some (ts, [], []))
    (hc : CALLB Γ T f [] ts = some (t, [])) (ht : takeB DEP t s = some (v, s2)) (k : K v s2) :
    WO Γ T (.ca (.k (.cl f [])) xs) s K := by
  have hl : lent ([] : List M) vs = [] := lent_ro [] vs rfl
  refine wo_call hu hv hm hh ⟨List.nodup_nil, by simp⟩ hc rfl (s1 := s) ?_ ht k
  rw [hl, kill_nil]; rfl

theorem lent_nil_len {α β : Type} : ∀ (ms : List M) (l : List α) (l' : List β), l.length = l'.length → lent ms l = [] → lent ms l' = []
  | _, [], [], _, _ => rfl
  | ms, a :: l, b :: l', h, h0 => by
    have h2 := lent_nil_len ms.tail l l' (by simpa using h)
    simp only [lent] at h0 ⊢
    cases hm : ms.headD .ro with
    | io => rw [hm] at h0; cases h0
    | ro => rw [hm] at h0; exact h2 h0
    | tk => rw [hm] at h0; exact h2 h0
theorem lentB_nil {ms : List M} {vals args : List V} {n : Nat} {s s0 : S} {e : Nat → V} (hl : lent ms vals = []) (ht : takeL (takeB DEP) args s = some (vals, s0)) (hn : args.length = n) : lentB n ms e = [] :=
  lent_nil_len ms vals _ (by rw [takeL_len ht, hn]; simp) hl
theorem call_of {f : Nat} {ms : List M} {args vals us : List V} {t : V} {x : FB} {s0 : S} (hp : Γ.pr f = none) (hT : T f = some x) (hn : args.length = x.np) (ht : takeL (takeB DEP) args { e := fun _ => .un, H := fun _ => none, nx := 0 } = some (vals, s0))
    (h : WP Γ T x.body { e := envOf vals, H := s0.H, nx := s0.nx } fun r => match r with
      | .n s | .r s => ∃ v o i j, resOfB s x.res = some (v, o) ∧ giveB DEP s.H v = some (t, i) ∧ overL (giveB DEP s.H) (lentB x.np ms s.e) = some (us, j) ∧ (o ++ i ++ j).Nodup ∧ ((lentB x.np ms s.e).isEmpty || (x.body.keeps (lent ms (List.range x.np)) && (lentB x.np ms s.e).all fun v => !isUn v)) = true
      | _ => False) : CALLB Γ T f ms args = some (t, us) := by
  obtain ⟨r, h1, h2⟩ := h
  unfold CALLB isoB
  simp only [hp, hT]
  rw [if_pos hn]
  simp only [ht, h1]
  cases r with
  | n s =>
    obtain ⟨v, o, i, j, g1, g2, g3, g4, g5⟩ := h2
    simp only [g1, g2, g3]
    rw [if_pos ⟨g4, g5⟩]
  | r s =>
    obtain ⟨v, o, i, j, g1, g2, g3, g4, g5⟩ := h2
    simp only [g1, g2, g3]
    rw [if_pos ⟨g4, g5⟩]
  | x i s => exact h2.elim
/-- The same, of a function that only reads. -/
theorem call_ro {f : Nat} {args vals : List V} {t : V} {x : FB} {s0 : S} (hp : Γ.pr f = none) (hT : T f = some x) (hn : args.length = x.np) (ht : takeL (takeB DEP) args { e := fun _ => .un, H := fun _ => none, nx := 0 } = some (vals, s0))
    (h : WP Γ T x.body { e := envOf vals, H := s0.H, nx := s0.nx } fun r => match r with
      | .n s | .r s => ∃ v o i, resOfB s x.res = some (v, o) ∧ giveB DEP s.H v = some (t, i) ∧ (o ++ i).Nodup
      | _ => False) : CALLB Γ T f [] args = some (t, []) := by
  have hl : lent ([] : List M) vals = [] := lent_ro [] vals rfl
  refine call_of hp hT hn ht (wp_mono h fun r hr => ?_)
  cases r with
  | n s => obtain ⟨v, o, i, g1, g2, g3⟩ := hr; exact ⟨v, o, i, [], g1, g2, by rw [lentB_nil hl ht hn]; rfl, by simpa using g3, by rw [lentB_nil hl ht hn]; rfl⟩
  | r s => obtain ⟨v, o, i, g1, g2, g3⟩ := hr; exact ⟨v, o, i, [], g1, g2, by rw [lentB_nil hl ht hn]; rfl, by simpa using g3, by rw [lentB_nil hl ht hn]; rfl⟩
  | x i s => exact hr

/-- A loop with something that falls. -/
theorem wp_loop {α : Type} {a : CB} (Inv : α → S → Prop) (μ : α → Nat) (h : ∀ x s, Inv x s → WP Γ T a s fun r => match r with | .n s' => ∃ x', μ x' < μ x ∧ Inv x' s' | r => Q r) (x : α) (hs : Inv x s) : WP Γ T (.lp a) s Q := by
  generalize hn : μ x = n
  induction n using Nat.strongRecOn generalizing x s with
  | ind n ih =>
    refine wp_lp (wp_mono (h x s hs) fun r hr => ?_)
    cases r with
    | n s' =>
      obtain ⟨x', h1, h2⟩ := hr
      exact ih (μ x') (by omega) x' h2 rfl
    | x i s' => exact hr
    | r s' => exact hr
end

section
variable {Γ : Env} {T : Nat → Option FB} {s : S} {Q : R → Prop} {b : CB}
theorem sq_n (h : WP Γ T b s Q) : SqQ Γ T b Q (.n s) := h
theorem sq_r (h : Q (.r s)) : SqQ Γ T b Q (.r s) := h
theorem sq_x {i : Nat} (h : Q (.x i s)) : SqQ Γ T b Q (.x i s) := h
theorem bk_n {id : Nat} (h : Q (.n s)) : BkQ id Q (.n s) := h
theorem bk_r {id : Nat} (h : Q (.r s)) : BkQ id Q (.r s) := h
theorem bk_x {id : Nat} (h : Q (.n s)) : BkQ id Q (.x id s) := by simp only [BkQ, if_true]; exact h
theorem bk_y {id j : Nat} (hj : j ≠ id) (h : Q (.x j s)) : BkQ id Q (.x j s) := by simp only [BkQ, if_neg hj]; exact h
end
attribute [irreducible] WP WL WO SqQ BkQ

abbrev o (d : Nat) (a : A) : I := ⟨some d, none, a⟩
abbrev oo (a : A) : I := ⟨none, none, a⟩
abbrev og (d t : Nat) (w : Bool) (a : A) : I := ⟨some d, some (t, w), a⟩
abbrev oog (t : Nat) (w : Bool) (a : A) : I := ⟨none, some (t, w), a⟩

end Go.Am

/- The B-machine, part 14: facts for proofs about code. -/
namespace Go.Am

theorem wrap_id {n : Int} (h0 : -9223372036854775808 ≤ n) (h1 : n ≤ 9223372036854775807) : IntKind.i64.wrap n = n := by rw [IntKind.wrap_i64]; omega
theorem wrap_nat {n : Nat} (h : n ≤ 9223372036854775807) : IntKind.i64.wrap (n : Int) = n := wrap_id (by omega) (by omega)
theorem wrap_succ {n : Nat} (h : n < 9223372036854775807) : IntKind.i64.wrap ((n : Int) + 1) = ((n + 1 : Nat) : Int) := by rw [wrap_id] <;> omega

theorem allL_iff {f : V → Bool} : ∀ {l : List V}, allL f l = true ↔ ∀ v ∈ l, f v = true
  | [] => by simp [allL]
  | v :: l => by simp [allL, allL_iff (l := l)]

/-- A pure tree is renamed, given, to itself. -/
theorem ren_ok {H : Nat → Option Blk} {r : List Nat} : ∀ {d : Nat} {v : V}, okD d v = true → ren H r d v = some (v, [])
  | 0, v, h => by simp [okD] at h
  | d + 1, v, h => by
    have lst : ∀ (vs : List V), allL (okD d) vs = true → overL (ren H r d) vs = some (vs, []) := by
      intro vs
      induction vs with
      | nil => intro _; rfl
      | cons v vs ih =>
        intro h
        simp only [allL, Bool.and_eq_true] at h
        exact overL_mk (L1 := []) (L2 := []) (ren_ok h.1) (ih h.2)
    cases v <;> simp only [okD, Bool.false_eq_true] at h <;> simp only [ren]
    case st cs => rw [lst cs h]
    case cl f cs => rw [List.isEmpty_iff] at h; subst h; rfl
theorem overL_ren {H : Nat → Option Blk} {r : List Nat} {d : Nat} : ∀ {vs : List V}, allL (okD d) vs = true → overL (ren H r d) vs = some (vs, [])
  | [], _ => rfl
  | v :: vs, h => by
    simp only [allL, Bool.and_eq_true] at h
    exact overL_mk (L1 := []) (L2 := []) (ren_ok h.1) (overL_ren h.2)
theorem giveB_ok {H : Nat → Option Blk} : ∀ {d : Nat} {v : V}, okD d v = true → giveB d H v = some (v, [])
  | 0, v, h => by simp [okD] at h
  | d + 1, v, h => by
    have lst : ∀ (vs : List V), allL (okD d) vs = true → overL (giveB d H) vs = some (vs, []) := by
      intro vs
      induction vs with
      | nil => intro _; rfl
      | cons v vs ih =>
        intro h
        simp only [allL, Bool.and_eq_true] at h
        exact overL_mk (L1 := []) (L2 := []) (giveB_ok h.1) (ih h.2)
    have h0 := h
    cases v <;> simp only [okD, Bool.false_eq_true] at h <;> simp only [giveB]
    case st cs => rw [lst cs h]
    case cl f cs => rw [List.isEmpty_iff] at h; subst h; rfl
    case ow k es => rw [if_pos h0]
    case op v => rw [if_pos h0]
theorem overL_giveB {H : Nat → Option Blk} {d : Nat} : ∀ {vs : List V}, allL (okD d) vs = true → overL (giveB d H) vs = some (vs, [])
  | [], _ => rfl
  | v :: vs, h => by
    simp only [allL, Bool.and_eq_true] at h
    exact overL_mk (L1 := []) (L2 := []) (giveB_ok h.1) (overL_giveB h.2)

/-- A slice that fills its block, handed over. -/
theorem giveB_hs {H : Nat → Option Blk} {d b : Nat} {B : Blk} (hB : H b = some B) (h : allL (okD d) B.es = true) {n c : Nat} (hn : n = B.es.length) : giveB (d + 1) H (.hs b 0 n c) = some (.ow B.k B.es, [b]) := by
  subst hn
  simp only [giveB, hB]
  rw [if_pos (by omega)]
  simp only [List.drop_zero, List.take_length, overL_giveB h]

/-- A canonical state. -/
theorem nmS_of {L r ids : List Nat} {bs : List (Option Blk)} {s : S} {e : List (Nat × V)} (hr : dedup (L.flatMap fun t => refs 3 (s.e t)) = r) (hb : renBs s.H r r = some (bs, ids)) (hn : (ids ++ r).Nodup)
    (he : (L.map fun t => (t, match ren s.H r 3 (s.e t) with | some (v, []) => v | _ => V.dd)) = e) : nmS L s = some ⟨envA e, heapA bs, r.length, false⟩ := by
  unfold nmS
  simp only [hr, hb]
  rw [if_pos hn, ← he]
  rfl
theorem renBs_nil {H : Nat → Option Blk} {r : List Nat} : renBs H r [] = some ([], []) := rfl
theorem renBs_cons {H : Nat → Option Blk} {r : List Nat} {b : Nat} {rs : List Nat} {B : Blk} {es : List V} {i j : List Nat} {bs : List (Option Blk)} (hB : H b = some B) (he : overL (ren H r DEP) B.es = some (es, i)) (hr : renBs H r rs = some (bs, j)) :
    renBs H r (b :: rs) = some (some ⟨B.k, es, B.fr⟩ :: bs, i ++ j) := by
  simp only [renBs, hB, he, Option.map_some, hr]
/-- One block of pure elements. -/
theorem renBs_one {H : Nat → Option Blk} {r : List Nat} {b : Nat} {rs : List Nat} {B : Blk} {j : List Nat} {bs : List (Option Blk)} (hB : H b = some B) (he : allL (okD DEP) B.es = true) (hr : renBs H r rs = some (bs, j)) :
    renBs H r (b :: rs) = some (some B :: bs, j) := by
  rw [renBs_cons hB (overL_ren he) hr]; rfl


section
variable {Γ : Env} {T : Nat → Option FB} {s : S} {K : V → S → Prop}
theorem wo_ms {z : V} {q : Option Nat} {l c : O} {n m : Nat} (hl : val s.e l = .i n) (hc : val s.e c = .i m) (h1 : n ≤ m) (h2 : m ≤ LIM) (hf : z.fits q = true) (k : K (.hs s.nx 0 n m) (s.new (ksz q) (List.replicate m z))) : WO Γ T (.ms z q l c) s K := by
  refine wo_of (v := .hs s.nx 0 n m) (s1 := s.new (ksz q) (List.replicate m z)) ?_ k
  simp only [opB, opA, hl, hc]
  rw [if_pos ⟨by omega, by omega, by omega, hf⟩]
  rfl
theorem wo_iah0 {q : Option Nat} {x i : O} {b m c j : Nat} {B : Blk} (hx : val s.e x = .hs b 0 m c) (hi : val s.e i = .i (j : Nat)) (hB : s.H b = some B) (h1 : j < m) (hk : B.k = ksz q) (k : K (.hp b j) s) : WO Γ T (.ia q x i) s K :=
  wo_iah hx hi hB (by omega) (by omega) hk (by simpa using k)
theorem wo_so {q : Option Nat} {p x : O} {b i : Nat} {B : Blk} (hp : val s.e p = .hp b i) (hB : s.H b = some B) (hfr : B.fr = false) (hi : i < B.es.length) (hk : B.k = ksz q) (hf : (val s.e x).fits q = true)
    (k : K .un { s with H := upd s.H b (some { B with es := B.es.set i (val s.e x) }) }) : WO Γ T (.so q p x) s K := by
  refine wo_of (v := .un) ?_ k
  simp only [opB, opA, hp, storeAt, hB]
  rw [if_pos ⟨hfr, hi, hk, hf⟩]
end


theorem fill_full {α : Type} (f : α → V) (l : List α) (z : V) : (l.take l.length).map f ++ List.replicate (l.length - l.length) z = l.map f := by simp
/-- A made slice is filled from the front. -/
theorem fill_set {α : Type} (f : α → V) (l : List α) (z : V) {i : Nat} (hi : i < l.length) : ((l.take i).map f ++ List.replicate (l.length - i) z).set i (f l[i]) = (l.take (i + 1)).map f ++ List.replicate (l.length - (i + 1)) z := by
  rw [List.set_append_right _ _ (by simp; omega)]
  have h1 : (l.take i).length = i := by simp; omega
  simp only [List.length_map, h1, Nat.sub_self]
  rw [show l.length - i = (l.length - (i + 1)) + 1 by omega, List.replicate_succ, List.set_cons_zero, List.take_succ_eq_append_getElem hi, List.map_append, List.append_assoc]
  rfl


theorem overL_app {f : V → Option (V × List Nat)} : ∀ {as bs ts us : List V} {L K : List Nat}, overL f as = some (ts, L) → overL f bs = some (us, K) → overL f (as ++ bs) = some (ts ++ us, L ++ K)
  | [], bs, ts, us, L, K, h, k => by simp only [overL, Option.some.injEq, Prod.mk.injEq] at h; obtain ⟨rfl, rfl⟩ := h; simpa using k
  | a :: as, bs, ts, us, L, K, h, k => by
    obtain ⟨t, ts', i, j, h2, h3, rfl, rfl⟩ := overL_cons h
    have := overL_mk h2 (overL_app h3 k)
    simpa using this

/-- A list of pure elements, one of which is another. -/
theorem overL_set {f : V → Option (V × List Nat)} {v t : V} {ids : List Nat} (hv : f v = some (t, ids)) : ∀ {es : List V} {i : Nat}, overL f es = some (es, []) → i < es.length → overL f (es.set i v) = some (es.set i t, ids)
  | [], i, _, hi => by simp at hi
  | e :: es, 0, h, _ => by
    obtain ⟨t', ts', a, b, h2, h3, e1, e2⟩ := overL_cons h
    obtain ⟨rfl, rfl⟩ := List.cons.inj e1
    obtain ⟨rfl, rfl⟩ := List.append_eq_nil_iff.1 e2.symm
    have := overL_mk hv h3
    simpa using this
  | e :: es, i + 1, h, hi => by
    obtain ⟨t', ts', a, b, h2, h3, e1, e2⟩ := overL_cons h
    obtain ⟨rfl, rfl⟩ := List.cons.inj e1
    obtain ⟨rfl, rfl⟩ := List.append_eq_nil_iff.1 e2.symm
    have := overL_mk h2 (overL_set hv h3 (by simpa using hi))
    simpa using this

/-- A slice that fills its block, packed. -/
theorem packB_hs {H : Nat → Option Blk} {d b : Nat} {B : Blk} (hB : H b = some B) (h : overL (packB d H) B.es = some (B.es, [])) {n c : Nat} (hn : n = B.es.length) (hc : c = n) : packB (d + 1) H (.hs b 0 n c) = some (.ow B.k B.es, [b]) := by
  subst hc; subst hn
  simp only [packB, hB, and_self, if_true, h]
theorem packB_ok {H : Nat → Option Blk} : ∀ {d : Nat} {v : V}, okD d v = true → packB d H v = some (v, [])
  | 0, v, h => by simp [okD] at h
  | d + 1, v, h => by
    have lst : ∀ (vs : List V), allL (okD d) vs = true → overL (packB d H) vs = some (vs, []) := by
      intro vs
      induction vs with
      | nil => intro _; rfl
      | cons v vs ih =>
        intro h
        simp only [allL, Bool.and_eq_true] at h
        exact overL_mk (L1 := []) (L2 := []) (packB_ok h.1) (ih h.2)
    cases v <;> simp only [okD, Bool.false_eq_true] at h <;> simp only [packB]
    case st cs => rw [lst cs h]
    case cl f cs => rw [List.isEmpty_iff] at h; subst h; rfl
theorem overL_packB {H : Nat → Option Blk} {d : Nat} : ∀ {vs : List V}, allL (okD d) vs = true → overL (packB d H) vs = some (vs, [])
  | [], _ => rfl
  | v :: vs, h => by
    simp only [allL, Bool.and_eq_true] at h
    exact overL_mk (L1 := []) (L2 := []) (packB_ok h.1) (overL_packB h.2)
theorem ren_hs {H : Nat → Option Blk} {r : List Nat} {d b : Nat} {B : Blk} (hr : posOf r b = none) (hB : H b = some B) (h : allL (okD d) B.es = true) {n c : Nat} (hn : n = B.es.length) (hc : c = n) : ren H r (d + 1) (.hs b 0 n c) = some (.ow B.k B.es, [b]) := by
  simp only [ren, hr]
  exact packB_hs hB (overL_packB h) hn hc


theorem overL_map {α : Type} {f : V → Option (V × List Nat)} {g h : α → V} : ∀ {l : List α}, (∀ x ∈ l, f (g x) = some (h x, [])) → overL f (l.map g) = some (l.map h, [])
  | [], _ => rfl
  | x :: l, hf => by
    have := overL_mk (hf x (by simp)) (overL_map (l := l) fun y hy => hf y (by simp [hy]))
    simpa using this

section
variable {Γ : Env} {T : Nat → Option FB} {s : S} {K : V → S → Prop}
/-- The call of a function value. -/
theorem wo_callv {f : Nat} {fo : O} {xs : List O} {ms : List M} {ts us vs caps : List V} {rs os : List Nat} {t v : V} {s1 s2 : S} (hf : fnOf (val s.e fo) = some (f, caps)) (hu : (xs.all fun x => !isUn (val s.e x)) = true) (hv : xs.map (val s.e) ++ caps = vs) (hm : Γ.md f = some ms)
    (hh : handB s.H ms vs = some (ts, rs, os)) (hn : os.Nodup ∧ ∀ b ∈ os, b ∉ rs)
    (hc : CALLB Γ T f ms ts = some (t, us)) (hr : (rs.isEmpty || (free DEP t && allL (free DEP) us)) = true) (hb : backLB s.H (lent ms vs) us (s.mem (kill s.H os)) = some s1) (ht : takeB DEP t s1 = some (v, s2)) (k : K v s2) :
    WO Γ T (.ca fo xs) s K := by
  refine wo_of (v := v) (s1 := s2) ?_ k
  have hfu : isUn (val s.e fo) = false := by
    cases hh : isUn (val s.e fo) with
    | false => rfl
    | true => rw [isUn_iff.1 hh] at hf; cases hf
  have h1 : ((fo :: xs).all fun x => !isUn (val s.e x)) = true := by simp only [List.all_cons, Bool.and_eq_true]; exact ⟨by rw [hfu]; rfl, hu⟩
  simp only [opB]
  rw [if_pos h1]
  have hc' : isoB Γ T (EXB Γ T) f ms ts = some (t, us) := hc
  unfold callB
  simp only [hf, hm, hv, hh]
  rw [if_pos hn, hc']
  simp only [hr, if_true, hb]
  exact ht
/-- The same, where the arguments are only read and the result shares nothing. -/
theorem wo_callr {f : Nat} {fo : O} {xs : List O} {ts vs caps : List V} {rs : List Nat} {t v : V} {s2 : S} (hf : fnOf (val s.e fo) = some (f, caps)) (hu : (xs.all fun x => !isUn (val s.e x)) = true) (hv : xs.map (val s.e) ++ caps = vs) (hm : Γ.md f = some [])
    (hh : handB s.H [] vs = some (ts, rs, [])) (hc : CALLB Γ T f [] ts = some (t, [])) (hr : (rs.isEmpty || free DEP t) = true) (ht : takeB DEP t s = some (v, s2)) (k : K v s2) : WO Γ T (.ca fo xs) s K := by
  have hl : lent ([] : List M) vs = [] := lent_ro [] vs rfl
  refine wo_callv hf hu hv hm hh ⟨List.nodup_nil, by simp⟩ hc ?_ (s1 := s) ?_ ht k
  · simpa [allL] using hr
  · rw [hl, kill_nil]; rfl
end


theorem giveB_st {H : Nat → Option Blk} {d : Nat} {cs ts : List V} {i : List Nat} (h : overL (giveB d H) cs = some (ts, i)) : giveB (d + 1) H (.st cs) = some (.st ts, i) := by simp only [giveB, h]
theorem snapB_st {H : Nat → Option Blk} {d : Nat} {cs ts : List V} {i : List Nat} (h : overL (snapB d H) cs = some (ts, i)) : snapB (d + 1) H (.st cs) = some (.st ts, i) := by simp only [snapB, h]
theorem snapB_hs {H : Nat → Option Blk} {d b : Nat} {B : Blk} {ts : List V} (hB : H b = some B) (h : overL (snapB d H) B.es = some (ts, [])) {n c : Nat} (hn : n = B.es.length) : snapB (d + 1) H (.hs b 0 n c) = some (.sl ts, [b]) := by
  subst hn
  simp only [snapB, hB]
  rw [if_pos (by omega)]
  simp only [List.drop_zero, List.take_length, h]
theorem takeB_ow {d k : Nat} {es : List V} {s : S} (h : allL (okD d) es = true) : takeB (d + 1) (.ow k es) s = some (.hs s.nx 0 es.length es.length, s.new k es) := by
  simp only [takeB]
  rw [if_pos (show okD (d + 1) (.ow k es) = true from h)]

end Go.Am
