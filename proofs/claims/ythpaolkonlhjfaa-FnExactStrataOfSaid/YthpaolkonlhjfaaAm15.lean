/- The A-machine, part 15: handing over and coming back. -/
import Derived.Test.YthpaolkonlhjfaaAm14
set_option linter.all false
namespace Go.Am
variable {P : Program} {St Mine : Nat → Prop} {w : World}

mutual
theorem RO.repT {St : Nat → Prop} {w : World} : ∀ (v : V) (m : Value), RO St w v m → RepT St w v m []
  | .im x, m, r => by simpa [RO, RepT] using r
  | .st cs, m, r => by simp only [RO] at r; simp only [RepT]; obtain ⟨ms, e, q⟩ := r; exact ⟨ms, e, ROL.repT cs ms q⟩
  | .tu cs, m, r => by simp only [RO] at r; simp only [RepT]; obtain ⟨ms, e, q⟩ := r; exact ⟨ms, e, ROL.repT cs ms q⟩
  | .cl f cs, m, r => by simp only [RO] at r; simp only [RepT]; obtain ⟨ms, e, q⟩ := r; exact ⟨ms, e, ROL.repT cs ms q⟩
  | .e0, m, r => by simp only [RO] at r; simp only [RepT]; exact ⟨r, trivial⟩
  | .sl es, m, r => by simp only [RepT]; exact ⟨r, trivial⟩
  | .rp v, m, r => by simp only [RepT]; exact ⟨r, trivial⟩
  | .ow _ _, m, r => by simp [RO] at r
  | .op _, m, r => by simp [RO] at r
  | .hs .., m, r => by simp [RO] at r
  | .hp .., m, r => by simp [RO] at r
  | .hf .., m, r => by simp [RO] at r
theorem ROL.repT {St : Nat → Prop} {w : World} : ∀ (vs : List V) (ms : List Value), ROL St w vs ms → RepTL St w vs ms []
  | [], ms, r => by simpa [ROL, RepTL] using r
  | v :: vs, ms, r => by
    simp only [ROL] at r
    obtain ⟨m, ms', e, q, q'⟩ := r
    simp only [RepTL]
    exact ⟨m, ms', [], [], e, rfl, RO.repT v m q, ROL.repT vs ms' q'⟩
end

mutual
theorem RepT.st {St St' : Nat → Prop} {w : World} (hS : ∀ β, St β → St' β) : ∀ (v : V) (m : Value) (L : List Nat), RepT St w v m L → RepT St' w v m L
  | .im x, m, L, r => by simpa [RepT] using r
  | .st cs, m, L, r => by simp only [RepT] at r ⊢; obtain ⟨ms, e, q⟩ := r; exact ⟨ms, e, RepTL.st hS cs ms L q⟩
  | .tu cs, m, L, r => by simp only [RepT] at r ⊢; obtain ⟨ms, e, q⟩ := r; exact ⟨ms, e, RepTL.st hS cs ms L q⟩
  | .cl f cs, m, L, r => by simp only [RepT] at r ⊢; obtain ⟨ms, e, q⟩ := r; exact ⟨ms, e, RepTL.st hS cs ms L q⟩
  | .e0, m, L, r => by simpa [RepT] using r
  | .sl es, m, L, r => by simp only [RepT] at r ⊢; exact ⟨RO.mono hS (fun _ _ => rfl) _ _ r.1, r.2⟩
  | .rp v, m, L, r => by simp only [RepT] at r ⊢; exact ⟨RO.mono hS (fun _ _ => rfl) _ _ r.1, r.2⟩
  | .ow k es, m, L, r => by
    simp only [RepT] at r ⊢
    obtain ⟨a, c, e, h, q⟩ := r
    refine ⟨a, c, e, h, ?_⟩
    rcases q with q | ⟨β, o, L', h1, h2, h3, h4, h5⟩
    · exact .inl q
    · exact .inr ⟨β, o, L', h1, h2, h3, h4, RepTE.st hS β o es L' h5⟩
  | .op v, m, L, r => by
    rw [RepT_op] at r ⊢
    obtain ⟨β, o, L', h1, h2, h3, h5⟩ := r
    refine ⟨β, o, L', h1, h2, h3, ?_⟩
    cases v with
    | st cs => exact RepTC.st hS β o cs L' h5
    | _ =>
      simp only [cellsOf, RepTC] at h5 ⊢
      obtain ⟨L1, L2, e, ⟨u, hu, hr⟩, e2⟩ := h5
      exact ⟨L1, L2, e, ⟨u, hu, RepT.st hS _ u L1 hr⟩, e2⟩
  | .hs .., m, L, r => by simp [RepT] at r
  | .hp .., m, L, r => by simp [RepT] at r
  | .hf .., m, L, r => by simp [RepT] at r
theorem RepTL.st {St St' : Nat → Prop} {w : World} (hS : ∀ β, St β → St' β) : ∀ (vs : List V) (ms : List Value) (L : List Nat), RepTL St w vs ms L → RepTL St' w vs ms L
  | [], ms, L, r => by simpa [RepTL] using r
  | v :: vs, ms, L, r => by
    simp only [RepTL] at r ⊢
    obtain ⟨m, ms', L1, L2, e1, e2, q1, q2⟩ := r
    exact ⟨m, ms', L1, L2, e1, e2, RepT.st hS v m L1 q1, RepTL.st hS vs ms' L2 q2⟩
theorem RepTC.st {St St' : Nat → Prop} {w : World} (hS : ∀ β, St β → St' β) (β : Nat) : ∀ (o : Nat) (vs : List V) (L : List Nat), RepTC St w β o vs L → RepTC St' w β o vs L
  | o, [], L, r => by simpa [RepTC] using r
  | o, v :: vs, L, r => by
    simp only [RepTC] at r ⊢
    obtain ⟨L1, L2, e1, ⟨u, hu, q1⟩, q2⟩ := r
    exact ⟨L1, L2, e1, ⟨u, hu, RepT.st hS v u L1 q1⟩, RepTC.st hS β (o + 1) vs L2 q2⟩
theorem RepTE.st {St St' : Nat → Prop} {w : World} (hS : ∀ β, St β → St' β) (β : Nat) : ∀ (o : Nat) (vs : List V) (L : List Nat), RepTE St w β o vs L → RepTE St' w β o vs L
  | o, [], L, r => by simpa [RepTE] using r
  | o, v :: vs, L, r => by
    rw [RepTE_cons] at r ⊢
    obtain ⟨L1, L2, e1, q1, q2⟩ := r
    refine ⟨L1, L2, e1, ?_, RepTE.st hS β _ vs L2 q2⟩
    cases v with
    | st cs => exact RepTC.st hS β o cs L1 q1
    | _ =>
      simp only [cellsOf, RepTC] at q1 ⊢
      obtain ⟨M1, M2, e, ⟨u, hu, hr⟩, e2⟩ := q1
      exact ⟨M1, M2, e, ⟨u, hu, RepT.st hS _ u M1 hr⟩, e2⟩
end

/-- What shares no memory with anybody reads so whatever is kept. -/
theorem free_spec {St St' : Nat → Prop} {w : World} : ∀ (d : Nat),
    (∀ (v : V) (m : Value) (L : List Nat), free d v = true → RepT St w v m L → RepT St' w v m L) ∧
    (∀ (v : V) (β o : Nat) (L : List Nat), free d v = true → RepTC St w β o (cellsOf v) L → RepTC St' w β o (cellsOf v) L)
  | 0 => ⟨fun _ _ _ h => by simp [free] at h, fun _ _ _ _ h => by simp [free] at h⟩
  | d + 1 => by
    obtain ⟨ihV, ihA⟩ := free_spec (St := St) (St' := St') (w := w) d
    have lst : ∀ (vs : List V) (ms : List Value) (L : List Nat), allL (free d) vs = true → RepTL St w vs ms L → RepTL St' w vs ms L := by
      intro vs
      induction vs with
      | nil => intro ms L _ r; simpa [RepTL] using r
      | cons v vs ih =>
        intro ms L h r
        simp only [allL, Bool.and_eq_true] at h
        simp only [RepTL] at r ⊢
        obtain ⟨m, ms', L1, L2, e1, e2, q1, q2⟩ := r
        exact ⟨m, ms', L1, L2, e1, e2, ihV v m L1 h.1 q1, ih ms' L2 h.2 q2⟩
    have cel : ∀ (vs : List V) (β o : Nat) (L : List Nat), allL (free d) vs = true → RepTC St w β o vs L → RepTC St' w β o vs L := by
      intro vs
      induction vs with
      | nil => intro β o L _ r; simpa [RepTC] using r
      | cons v vs ih =>
        intro β o L h r
        simp only [allL, Bool.and_eq_true] at h
        simp only [RepTC] at r ⊢
        obtain ⟨L1, L2, e1, ⟨u, hu, q1⟩, q2⟩ := r
        exact ⟨L1, L2, e1, ⟨u, hu, ihV v u L1 h.1 q1⟩, ih β (o + 1) L2 h.2 q2⟩
    have els : ∀ (vs : List V) (β o : Nat) (L : List Nat), allL (free d) vs = true → RepTE St w β o vs L → RepTE St' w β o vs L := by
      intro vs
      induction vs with
      | nil => intro β o L _ r; simpa [RepTE] using r
      | cons v vs ih =>
        intro β o L h r
        simp only [allL, Bool.and_eq_true] at h
        rw [RepTE_cons] at r ⊢
        obtain ⟨L1, L2, e1, q1, q2⟩ := r
        exact ⟨L1, L2, e1, ihA v β o L1 h.1 q1, ih β _ L2 h.2 q2⟩
    have val : ∀ (v : V) (m : Value) (L : List Nat), free (d + 1) v = true → RepT St w v m L → RepT St' w v m L := by
      intro v m L h r
      cases v <;> simp only [free] at h
      case im x => simpa [RepT] using r
      case e0 => simpa [RepT] using r
      case st cs => simp only [RepT] at r ⊢; obtain ⟨ms, e, q⟩ := r; exact ⟨ms, e, lst cs ms L h q⟩
      case tu cs => simp only [RepT] at r ⊢; obtain ⟨ms, e, q⟩ := r; exact ⟨ms, e, lst cs ms L h q⟩
      case cl f cs => simp only [RepT] at r ⊢; obtain ⟨ms, e, q⟩ := r; exact ⟨ms, e, lst cs ms L h q⟩
      case ow k es =>
        simp only [RepT] at r ⊢
        obtain ⟨a, c, e, h0, q⟩ := r
        refine ⟨a, c, e, h0, ?_⟩
        rcases q with q | ⟨β, o, L', h1, h2, h3, h4, h5⟩
        · exact .inl q
        · exact .inr ⟨β, o, L', h1, h2, h3, h4, els es β o L' h h5⟩
      case op v =>
        rw [RepT_op] at r ⊢
        obtain ⟨β, o, L', h1, h2, h3, h5⟩ := r
        exact ⟨β, o, L', h1, h2, h3, ihA v β o L' h h5⟩
      all_goals cases h
    refine ⟨val, fun v β o L h r => ?_⟩
    cases v with
    | st cs => simp only [free] at h; exact cel cs β o L h r
    | _ =>
      simp only [cellsOf, RepTC] at r ⊢
      obtain ⟨L1, L2, e, ⟨u, hu, hr⟩, e2⟩ := r
      exact ⟨L1, L2, e, ⟨u, hu, val _ u L1 h hr⟩, e2⟩

theorem free_list {St St' : Nat → Prop} {w : World} {d : Nat} : ∀ (vs : List V) (ms : List Value) (L : List Nat), allL (free d) vs = true → RepTL St w vs ms L → RepTL St' w vs ms L
  | [], ms, L, _, r => by simpa [RepTL] using r
  | v :: vs, ms, L, h, r => by
    simp only [allL, Bool.and_eq_true] at h
    simp only [RepTL] at r ⊢
    obtain ⟨m, ms', L1, L2, e1, e2, q1, q2⟩ := r
    exact ⟨m, ms', L1, L2, e1, e2, (free_spec d).1 v m L1 h.1 q1, free_list vs ms' L2 h.2 q2⟩

/-! ### Handing over -/

theorem RepTL_st_iff {St : Nat → Prop} {w : World} {cs : List V} {m : Value} {L : List Nat} : RepT St w (.st cs) m L ↔ ∃ ms : List Value, m = .agg ms.toArray ∧ RepTL St w cs ms L := by simp only [RepT]
theorem lend1_spec {φ : Phi} {H : Nat → Option Blk} {nx : Nat} (q : WR φ St Mine w H nx) {v t : V} {m : Value} {ids : List Nat} (h : lend1 H v = some (t, ids)) (r : Rep φ St w v m) : RepT St w t m (Lof φ ids) := by
  unfold lend1 at h
  split at h
  · rename_i b off n c
    split at h
    · rename_i hn
      obtain ⟨rfl, rfl⟩ := Prod.mk.inj (Option.some.inj h)
      subst hn
      simp only [Rep] at r
      obtain ⟨a, c', e, _, _, _⟩ := r
      simp only [RepT, RO]
      exact ⟨⟨a, c', by simpa using e, by simp, .inl trivial⟩, rfl⟩
    · exact (give_spec q 8).1 _ _ _ _ h r
  · exact (give_spec q 8).1 _ _ _ _ h r
theorem lend1L_spec {φ : Phi} {H : Nat → Option Blk} {nx : Nat} (q : WR φ St Mine w H nx) : ∀ (cs ts : List V) (ms : List Value) (ids : List Nat), overL (lend1 H) cs = some (ts, ids) → RepL φ St w cs ms → RepTL St w ts ms (Lof φ ids)
  | [], ts, ms, ids, h, r => by
    simp only [overL, Option.some.injEq, Prod.mk.injEq] at h
    obtain ⟨rfl, rfl⟩ := h
    simp only [RepL] at r
    subst r
    simp [RepTL, Lof]
  | c :: cs, ts, ms, ids, h, r => by
    obtain ⟨t, ts', i, j, h1, h2, rfl, rfl⟩ := overL_cons h
    simp only [RepL] at r
    obtain ⟨m, ms', rfl, r1, r2⟩ := r
    simp only [RepTL]
    exact ⟨m, ms', _, _, rfl, Lof_append _ _ _, lend1_spec q h1 r1, lend1L_spec q cs ts' ms' j h2 r2⟩
theorem lend_spec {φ : Phi} {H : Nat → Option Blk} {nx : Nat} (q : WR φ St Mine w H nx) {v t : V} {m : Value} {ids : List Nat} (h : lend H v = some (t, ids)) (r : Rep φ St w v m) : RepT St w t m (Lof φ ids) := by
  unfold lend at h
  split at h
  · split at h
    case h_2 => cases h
    rename_i hts
    obtain ⟨rfl, rfl⟩ := Prod.mk.inj (Option.some.inj h)
    simp only [Rep] at r
    obtain ⟨ms, e, r⟩ := r
    simp only [RepT]
    exact ⟨ms, e, lend1L_spec q _ _ _ _ hts r⟩
  · exact lend1_spec q h r
theorem lend1_alive {H : Nat → Option Blk} {v t : V} {ids : List Nat} (h : lend1 H v = some (t, ids)) : ∀ b ∈ ids, ∃ B, H b = some B := by
  unfold lend1 at h
  split at h
  · split at h
    · obtain ⟨rfl, rfl⟩ := Prod.mk.inj (Option.some.inj h); simp
    · exact give_alive _ _ _ _ h
  · exact give_alive _ _ _ _ h
theorem lend1L_alive {H : Nat → Option Blk} : ∀ (cs ts : List V) (ids : List Nat), overL (lend1 H) cs = some (ts, ids) → ∀ b ∈ ids, ∃ B, H b = some B
  | [], ts, ids, h => by simp only [overL, Option.some.injEq, Prod.mk.injEq] at h; obtain ⟨_, rfl⟩ := h; simp
  | c :: cs, ts, ids, h => by
    obtain ⟨t, ts', i, j, h1, h2, rfl, rfl⟩ := overL_cons h
    intro b hb
    rcases List.mem_append.1 hb with hb | hb
    · exact lend1_alive h1 b hb
    · exact lend1L_alive cs ts' j h2 b hb
theorem lend_alive {H : Nat → Option Blk} {v t : V} {ids : List Nat} (h : lend H v = some (t, ids)) : ∀ b ∈ ids, ∃ B, H b = some B := by
  unfold lend at h
  split at h
  · split at h
    case h_2 => cases h
    rename_i hts
    obtain ⟨rfl, rfl⟩ := Prod.mk.inj (Option.some.inj h)
    exact lend1L_alive _ _ _ hts
  · exact lend1_alive h

theorem hand_spec {φ : Phi} {H : Nat → Option Blk} {nx : Nat} (q : WR φ St Mine w H nx) {St' : Nat → Prop} (hS : ∀ β, St β → St' β) : ∀ (ms : List M) (vs ts : List V) (vals : List Value) (rs os : List Nat),
    handL H ms vs = some (ts, rs, os) → RepL φ St w vs vals → (∀ b ∈ rs, ∀ β o k, φ b = some (β, o, k) → St' β) → RepTL St' w ts vals (Lof φ os)
  | ms, [], ts, vals, rs, os, h, r, _ => by
    simp only [handL, Option.some.injEq, Prod.mk.injEq] at h
    obtain ⟨rfl, rfl, rfl⟩ := h
    simp only [RepL] at r
    subst r
    simp [RepTL, Lof]
  | ms, v :: vs, ts, vals, rs, os, h, r, hr => by
    simp only [RepL] at r
    obtain ⟨m, vals', rfl, r1, r2⟩ := r
    simp only [handL] at h
    split at h
    case h_2 => cases h
    rename_i t r0 o0 hx
    split at h
    case h_2 => cases h
    rename_i ts' rs' os' hrest
    obtain ⟨rfl, h'⟩ := Prod.mk.inj (Option.some.inj h)
    obtain ⟨rfl, rfl⟩ := Prod.mk.inj h'
    have ih := hand_spec q hS ms.tail vs ts' vals' rs' os' hrest r2 fun b hb => hr b (by simp [hb])
    simp only [RepTL]
    refine ⟨m, vals', Lof φ o0, Lof φ os', rfl, Lof_append _ _ _, ?_, ih⟩
    split at hx
    · obtain ⟨⟨x1, x2⟩, hy, e⟩ := Option.map_eq_some_iff.1 hx
      cases e
      exact RO.repT _ _ ((snap_spec q hS DEP).1 v x1 m x2 hy r1 fun b hb => hr b (by simp [hb]))
    · obtain ⟨⟨x1, x2⟩, hy, e⟩ := Option.map_eq_some_iff.1 hx
      cases e
      exact RepT.st hS _ _ _ ((give_spec q DEP).1 v x1 m x2 hy r1)
    · obtain ⟨⟨x1, x2⟩, hy, e⟩ := Option.map_eq_some_iff.1 hx
      cases e
      exact RepT.st hS _ _ _ (lend_spec q hy r1)

theorem hand_alive {H : Nat → Option Blk} : ∀ (ms : List M) (vs ts : List V) (rs os : List Nat), handL H ms vs = some (ts, rs, os) → (∀ b ∈ rs, ∃ B, H b = some B) ∧ ∀ b ∈ os, ∃ B, H b = some B
  | ms, [], ts, rs, os, h => by
    simp only [handL, Option.some.injEq, Prod.mk.injEq] at h
    obtain ⟨rfl, rfl, rfl⟩ := h
    simp
  | ms, v :: vs, ts, rs, os, h => by
    simp only [handL] at h
    split at h
    case h_2 => cases h
    rename_i t r0 o0 hx
    split at h
    case h_2 => cases h
    rename_i ts' rs' os' hrest
    obtain ⟨rfl, h'⟩ := Prod.mk.inj (Option.some.inj h)
    obtain ⟨rfl, rfl⟩ := Prod.mk.inj h'
    obtain ⟨i1, i2⟩ := hand_alive ms.tail vs ts' rs' os' hrest
    split at hx
    · obtain ⟨⟨x1, x2⟩, hy, e⟩ := Option.map_eq_some_iff.1 hx
      cases e
      refine ⟨fun b hb => ?_, fun b hb => i2 b (by simpa using hb)⟩
      rcases List.mem_append.1 hb with hb | hb
      · exact snap_alive _ _ _ _ hy b hb
      · exact i1 b hb
    · obtain ⟨⟨x1, x2⟩, hy, e⟩ := Option.map_eq_some_iff.1 hx
      cases e
      refine ⟨fun b hb => i1 b (by simpa using hb), fun b hb => ?_⟩
      rcases List.mem_append.1 hb with hb | hb
      · exact give_alive _ _ _ _ hy b hb
      · exact i2 b hb
    · obtain ⟨⟨x1, x2⟩, hy, e⟩ := Option.map_eq_some_iff.1 hx
      cases e
      refine ⟨fun b hb => i1 b (by simpa using hb), fun b hb => ?_⟩
      rcases List.mem_append.1 hb with hb | hb
      · exact lend_alive hy b hb
      · exact i2 b hb

theorem Lof_nodup {φ : Phi} {H : Nat → Option Blk} {nx : Nat} (q : WR φ St Mine w H nx) : ∀ {os : List Nat}, os.Nodup → (∀ b ∈ os, ∃ B, H b = some B) → (Lof φ os).Nodup
  | [], _, _ => by simp [Lof]
  | b :: os, h, ha => by
    rw [Lof_cons]
    have h2 := List.nodup_cons.1 h
    refine List.nodup_append.2 ⟨?_, Lof_nodup q h2.2 (fun b' hb => ha b' (by simp [hb])), ?_⟩
    · unfold Lof
      simp only [List.flatMap_cons, List.flatMap_nil, List.append_nil]
      split <;> simp
    · intro β hβ β' hβ' e
      subst e
      obtain ⟨b1, hb1, o1, k1, p1⟩ := mem_Lof.1 hβ
      obtain rfl : b1 = b := by simpa using hb1
      obtain ⟨b2, hb2, o2, k2, p2⟩ := mem_Lof.1 hβ'
      obtain ⟨B1, g1⟩ := ha b1 (by simp)
      obtain ⟨B2, g2⟩ := ha b2 (by simp [hb2])
      have := q.inj b1 b2 B1 B2 β o1 k1 o2 k2 g1 g2 p1 p2
      subst this
      exact h2.1 hb2

/-! ### Coming back -/

/-- A block that lies dead, written anew. -/
theorem WR.revive {φ : Phi} {H : Nat → Option Blk} {nx b k β o : Nat} {es : List V} (q : WR φ St Mine w H nx) (hb : b < nx) (hp : φ b = some (β, o, k))
    (hfree : ∀ b' B o' k', H b' = some B → φ b' = some (β, o', k') → False)
    (hS : ¬ St β) (hM : Mine β) (ho : Own w β (o + es.length * k)) (hk : ∀ e ∈ es, e.size = k) (hr : RepE φ St w β o k es) :
    WR φ St Mine w (upd H b (some { k := k, es := es })) nx := by
  have old : ∀ b' B, upd H b (some { k := k, es := es }) b' = some B → (b' = b ∧ B = { k := k, es := es }) ∨ (b' ≠ b ∧ H b' = some B) := by
    intro b' B h
    by_cases e : b' = b
    · subst e; rw [upd_same] at h; exact .inl ⟨rfl, (Option.some.inj h).symm⟩
    · rw [upd_ne _ _ e] at h; exact .inr ⟨e, h⟩
  refine ⟨fun b' hb' => by rw [upd_ne _ _ (by omega)]; exact q.bnd b' hb', q.dom, fun b' B hB => ?_, ?_, ?_, q.stB, q.mine⟩
  · rcases old b' B hB with ⟨rfl, rfl⟩ | ⟨e, h⟩
    · exact .inr ⟨β, o, hp, fun _ => hS, fun h => (by simp at h), ho, hk, hr⟩
    · exact q.blk b' B h
  · intro b1 b2 B1 B2 β1 o1 k1 o2 k2 h1 h2 p1 p2
    rcases old b1 B1 h1 with ⟨rfl, _⟩ | ⟨e1, g1⟩ <;> rcases old b2 B2 h2 with ⟨rfl, _⟩ | ⟨e2, g2⟩
    · rfl
    · rw [hp] at p1; cases p1; exact (hfree b2 B2 _ _ g2 p2).elim
    · rw [hp] at p2; cases p2; exact (hfree b1 B1 _ _ g1 p1).elim
    · exact q.inj b1 b2 B1 B2 β1 o1 k1 o2 k2 g1 g2 p1 p2
  · intro b1 B1 β1 o1 k1 h1 p1
    rcases old b1 B1 h1 with ⟨rfl, _⟩ | ⟨_, g1⟩
    · rw [hp] at p1; cases p1; exact hM
    · exact q.own b1 B1 β1 o1 k1 g1 p1

/-- From s to s1 blocks have come or come back, all out of L; nothing else has turned. -/
structure Bk (φ φ' : Phi) (s s1 : S) (L : List Nat) : Prop where
  ext : Ext φ φ' s.nx
  e : s1.e = s.e
  nx : s.nx ≤ s1.nx
  old : ∀ b B, s.H b = some B → s1.H b = some B
  new : ∀ b B β o k, s1.H b = some B → φ' b = some (β, o, k) → s.H b = some B ∨ β ∈ L
  fz : s1.fz = s.fz
  fr : ∀ b B, s1.H b = some B → s.H b = some B ∨ B.fr = false

theorem Tk.bk {φ φ' : Phi} {s s1 : S} {L : List Nat} (h : Tk φ φ' s s1 L) (q : WR φ St Mine w s.H s.nx) : Bk φ φ' s s1 L := by
  refine ⟨h.ext, h.e, h.nx, fun b B hB => ?_, fun b B β o k hB hp => ?_, h.fz, fun b B hB => ?_⟩
  · have : b < s.nx := by
      rcases Nat.lt_or_ge b s.nx with g | g
      · exact g
      · rw [q.bnd b g] at hB; cases hB
    rw [h.old b this]; exact hB
  · by_cases hlt : b < s.nx
    · left; rw [← h.old b hlt]; exact hB
    · right; exact h.new b B β o k (by omega) hB hp
  · by_cases hlt : b < s.nx
    · left; rw [← h.old b hlt]; exact hB
    · right; exact h.fr b B (by omega) hB

theorem Bk.refl (φ : Phi) (s : S) (L : List Nat) : Bk φ φ s s L := ⟨Ext.refl _ _, rfl, Nat.le_refl _, fun _ _ h => h, fun _ _ _ _ _ h _ => .inl h, rfl, fun _ _ h => .inl h⟩

theorem Bk.trans {φ φ1 φ2 : Phi} {s s1 s2 : S} {L1 L2 L : List Nat} (h : Bk φ φ1 s s1 L1) (k : Bk φ1 φ2 s1 s2 L2) (q : WR φ1 St Mine w s1.H s1.nx) (h1 : ∀ β ∈ L1, β ∈ L) (h2 : ∀ β ∈ L2, β ∈ L) : Bk φ φ2 s s2 L := by
  refine ⟨h.ext.trans k.ext h.nx, k.e.trans h.e, Nat.le_trans h.nx k.nx, fun b B hB => k.old b B (h.old b B hB), fun b B β o k' hB hp => ?_, k.fz.trans h.fz, fun b B hB => ?_⟩
  · rcases k.new b B β o k' hB hp with g | g
    · have hlt : b < s1.nx := by
        rcases Nat.lt_or_ge b s1.nx with g' | g'
        · exact g'
        · rw [q.bnd b g'] at g; cases g
      rw [k.ext b hlt] at hp
      rcases h.new b B β o k' g hp with g' | g'
      · exact .inl g'
      · exact .inr (h1 _ g')
    · exact .inr (h2 _ g)
  · rcases k.fr b B hB with g | g
    · exact h.fr b B g
    · exact .inr g

theorem Can.bk {φ φ1 : Phi} {s s1 : S} {L1 L2 : List Nat} (h : Can φ St Mine s (L1 ++ L2)) (t : Bk φ φ1 s s1 L1) (q : WR φ St Mine w s.H s.nx) : Can φ1 St Mine s1 L2 := by
  refine ⟨(List.nodup_append.1 h.nd).2.1, fun β hb => h.ns β (by simp [hb]), fun β hb => h.mi β (by simp [hb]), fun b B β o k h1 h2 h3 => ?_⟩
  rcases t.new b B β o k h1 h2 with g | g
  · have hlt : b < s.nx := by
      rcases Nat.lt_or_ge b s.nx with g' | g'
      · exact g'
      · rw [q.bnd b g'] at g; cases g
    rw [t.ext b hlt] at h2
    exact h.fr b B β o k g h2 (by simp [h3])
  · exact (List.nodup_append.1 h.nd).2.2 β g β h3 rfl

/-- What the blocks were before they went over. -/
def OldOK (φ : Phi) (old : Nat → Option Blk) (nx : Nat) : Prop := ∀ b B, old b = some B → b < nx ∧ ∀ β o k, φ b = some (β, o, k) → k = B.k

theorem RepTL.single {v : V} {vs : List V} {ms : List Value} {L : List Nat} (h : RepTL St w (v :: vs) ms L) : ∃ m ms' L1 L2, ms = m :: ms' ∧ L = L1 ++ L2 ∧ RepT St w v m L1 ∧ RepTL St w vs ms' L2 := by simpa only [RepTL] using h

theorem backV_spec {φ : Phi} {old : Nat → Option Blk} {v t : V} {m : Value} {L : List Nat} {s s1 : S} (h : backV old v t s = some s1) (hv : Rep φ St w v m) (ht : RepT St w t m L) (c : Can φ St Mine s L) (q : WR φ St Mine w s.H s.nx)
    (ho : OldOK φ old s.nx) : ∃ φ', Bk φ φ' s s1 L ∧ WR φ' St Mine w s1.H s1.nx := by
  have same : some s = some s1 → ∃ φ', Bk φ φ' s s1 L ∧ WR φ' St Mine w s1.H s1.nx := fun e => by
    obtain rfl := Option.some.inj e
    exact ⟨φ, Bk.refl _ _ _, q⟩
  unfold backV at h
  split at h
  · rename_i b off n c0 k es
    split at h
    · split at h
      · exact same h
      · cases h
    rename_i hne
    split at h
    case h_2 => cases h
    rename_i B hB
    split at h
    case isFalse => cases h
    rename_i hcond
    obtain ⟨rfl, hn, hlen, rfl⟩ := hcond
    split at h
    case h_2 => cases h
    rename_i vs s2 hts
    obtain rfl := Option.some.inj h
    obtain ⟨hbn, hbk⟩ := ho b B hB
    have hvl := takeL_len hts
    simp only [Rep] at hv
    obtain ⟨a, c', em, r1, r2, r3⟩ := hv
    simp only [RepT] at ht
    obtain ⟨a2, c2, em2, hle, ht⟩ := ht
    rw [em] at em2
    obtain ⟨rfl, h5, rfl⟩ := Value.slice.inj em2
    have hpos : 0 < es.length := by
      rcases Nat.eq_zero_or_pos es.length with g | g
      · exact absurd (List.eq_nil_of_length_eq_zero g) hne
      · exact g
    rcases r3 with r3 | ⟨β, o, k, hp, ha, hroom⟩
    · omega
    rcases ht with ⟨ht, _⟩ | ⟨β', o', L', ha', rfl, hown, hk, hte⟩
    · omega
    rw [ha] at ha'
    have hinj := Option.some.inj ha'
    obtain ⟨rfl, rfl, _⟩ : β = β' ∧ o + 0 * k = o' ∧ True := by
      injection hinj with g1 g2 g3; exact ⟨g1, g2, trivial⟩
    have hkk := hbk _ _ _ hp
    subst hkk
    simp only [Nat.zero_mul, Nat.add_zero] at hte hown
    have c1 : Can φ St Mine s L' := ⟨(List.nodup_cons.1 c.nd).2, fun β hb => c.ns β (by simp [hb]), fun β hb => c.mi β (by simp [hb]), fun b B β o k h1 h2 h3 => c.fr b B β o k h1 h2 (by simp [h3])⟩
    -- the elements are taken over first
    have key : ∀ (ts vs : List V) (φ : Phi) (o : Nat) (L : List Nat) (s s1 : S), takeL (takeIn DEP) ts s = some (vs, s1) → (∀ e ∈ ts, e.size = B.k) → RepTE St w β o ts L → Can φ St Mine s L → WR φ St Mine w s.H s.nx →
        ∃ φ', Tk φ φ' s s1 L ∧ RepE φ' St w β o B.k vs ∧ WR φ' St Mine w s1.H s1.nx ∧ ∀ e ∈ vs, e.size = B.k := by
      intro ts
      induction ts with
      | nil =>
        intro vs φ o L s s1 h _ r c q
        simp only [takeL, Option.some.injEq, Prod.mk.injEq] at h
        obtain ⟨rfl, rfl⟩ := h
        exact ⟨φ, Tk.refl q rfl _, fun i e hi => (by simp at hi), q, by simp⟩
      | cons t ts ih =>
        intro vs φ o L s s2 h hk r c q
        obtain ⟨v, vs', s1, h1, h2, rfl⟩ := takeL_cons h
        rw [RepTE_cons] at r
        obtain ⟨L1, L2, rfl, r1, r2⟩ := r
        obtain ⟨φ1, k1, p1, q1⟩ := (take_spec DEP).2 φ _ _ _ _ _ _ _ h1 r1 c.left q
        have ht : t.size = B.k := hk t (by simp)
        rw [ht] at r2
        obtain ⟨φ2, k2, p2, q2, z2⟩ := ih _ φ1 _ _ _ _ h2 (fun e he => hk e (by simp [he])) r2 (c.right k1 q rfl) q1
        refine ⟨φ2, k1.trans k2 (by simp +contextual) (by simp +contextual), fun i e hi => ?_, q2, fun e he => ?_⟩
        · cases i with
          | zero =>
            obtain rfl : v = e := by simpa using hi
            simpa using monoC_same (k2.some q1) p1
          | succ i =>
            have := p2 i e (by simpa using hi)
            rwa [show o + B.k + i * B.k = o + (i + 1) * B.k by rw [Nat.succ_mul]; omega] at this
        · rcases List.mem_cons.1 he with rfl | he
          · rw [take_size h1, ht]
          · exact z2 e he
    obtain ⟨φ1, k1, p1, q1, z1⟩ := key es vs φ o L' s s2 hts hk hte c1 q
    have hp1 : φ1 b = some (β, o, B.k) := by rw [k1.ext b hbn]; exact hp
    have hlen2 : o + vs.length * B.k ≤ o + c' * B.k := Nat.add_le_add_left (Nat.mul_le_mul_right _ (by omega)) _
    have q2 := q1.revive (b := b) (by have := k1.nx; omega) hp1 (fun b' B' o' k' hB' hp' => by
      rcases (k1.bk q).new b' B' β o' k' hB' hp' with g | g
      · have hlt : b' < s.nx := by
          rcases Nat.lt_or_ge b' s.nx with g' | g'
          · exact g'
          · rw [q.bnd b' g'] at g; cases g
        rw [k1.ext b' hlt] at hp'
        exact c.fr b' B' β o' k' g hp' (by simp)
      · exact (List.nodup_cons.1 c.nd).1 g) (c.ns β (by simp)) (c.mi β (by simp)) (hown.mono hlen2) z1 p1
    have hdead : ∀ C, s.H b ≠ some C := fun C hC => c.fr b C β o B.k hC hp (by simp)
    refine ⟨φ1, ⟨k1.ext, k1.e, k1.nx, fun b' C hC => ?_, fun b' C β' o' k' hC hp' => ?_, k1.fz, fun b' C hC => ?_⟩, q2⟩
    · simp only [S.blk]
      rw [upd_ne _ _ (by rintro rfl; exact hdead _ hC)]
      exact (k1.bk q).old b' C hC
    · simp only [S.blk] at hC
      by_cases e : b' = b
      · subst e; rw [hp1] at hp'; cases hp'; exact .inr (by simp)
      · rw [upd_ne _ _ e] at hC
        rcases (k1.bk q).new b' C β' o' k' hC hp' with g | g
        · exact .inl g
        · exact .inr (by simp [g])
    · simp only [S.blk] at hC
      by_cases e : b' = b
      · subst e; rw [upd_same] at hC; obtain rfl := Option.some.inj hC; exact .inr rfl
      · rw [upd_ne _ _ e] at hC; exact (k1.bk q).fr b' C hC
  · rename_i b i v0
    split at h
    case h_2 => cases h
    rename_i B hB
    split at h
    case isFalse => cases h
    rename_i hcond
    obtain ⟨rfl, hBk⟩ := hcond
    split at h
    case h_2 => cases h
    rename_i v1 s2 hts
    obtain rfl := Option.some.inj h
    obtain ⟨hbn, hbk⟩ := ho b B hB
    simp only [Rep] at hv
    obtain ⟨β, o, k, hp, em⟩ := hv
    rw [RepT_op] at ht
    obtain ⟨β', o', L', em2, rfl, hown, hte⟩ := ht
    rw [em] at em2
    have hinj := Option.some.inj (Value.pointer.inj em2)
    obtain ⟨rfl, rfl⟩ : β = β' ∧ o + 0 * k = o' := by
      injection hinj with g1 g2 g3; exact ⟨g1, g2⟩
    have hkk := hbk _ _ _ hp
    simp only [Nat.zero_mul, Nat.add_zero] at hte hown
    have c1 : Can φ St Mine s L' := ⟨(List.nodup_cons.1 c.nd).2, fun β hb => c.ns β (by simp [hb]), fun β hb => c.mi β (by simp [hb]), fun b B β o k h1 h2 h3 => c.fr b B β o k h1 h2 (by simp [h3])⟩
    obtain ⟨φ1, k1, p1, q1⟩ := (take_spec DEP).2 φ _ _ _ _ _ _ _ hts hte c1 q
    have hsz := take_size hts
    have hp1 : φ1 b = some (β, o, v1.size) := by rw [k1.ext b hbn, hsz, ← hBk, ← hkk]; exact hp
    have q2 := q1.revive (b := b) (es := [v1]) (by have := k1.nx; omega) hp1 (fun b' B' o' k' hB' hp' => by
      rcases (k1.bk q).new b' B' β o' k' hB' hp' with g | g
      · have hlt : b' < s.nx := by
          rcases Nat.lt_or_ge b' s.nx with g' | g'
          · exact g'
          · rw [q.bnd b' g'] at g; cases g
        rw [k1.ext b' hlt] at hp'
        exact c.fr b' B' β o' k' g hp' (by simp)
      · exact (List.nodup_cons.1 c.nd).1 g) (c.ns β (by simp)) (c.mi β (by simp)) (hown.mono (by simp [hsz])) (by simp) (fun i x hi => by
        cases i with
        | zero => obtain rfl : v1 = x := by simpa using hi
                  simpa using p1
        | succ i => simp at hi)
    have hdead : ∀ C, s.H b ≠ some C := fun C hC => c.fr b C β o k hC hp (by simp)
    refine ⟨φ1, ⟨k1.ext, k1.e, k1.nx, fun b' C hC => ?_, fun b' C β' o' k' hC hp' => ?_, k1.fz, fun b' C hC => ?_⟩, q2⟩
    · simp only [S.blk]
      rw [upd_ne _ _ (by rintro rfl; exact hdead _ hC)]
      exact (k1.bk q).old b' C hC
    · simp only [S.blk] at hC
      by_cases e : b' = b
      · subst e; rw [hp1] at hp'; cases hp'; exact .inr (by simp)
      · rw [upd_ne _ _ e] at hC
        rcases (k1.bk q).new b' C β' o' k' hC hp' with g | g
        · exact .inl g
        · exact .inr (by simp [g])
    · simp only [S.blk] at hC
      by_cases e : b' = b
      · subst e; rw [upd_same] at hC; obtain rfl := Option.some.inj hC; exact .inr rfl
      · rw [upd_ne _ _ e] at hC; exact (k1.bk q).fr b' C hC
  · split at h
    · exact same h
    · cases h
  · exact same h
  · exact same h
  · exact same h
  · exact same h
  · cases h

theorem backVs_spec {old : Nat → Option Blk} : ∀ (vs ts : List V) (φ : Phi) (ms : List Value) (L : List Nat) (s s1 : S), backVs old vs ts s = some s1 → RepL φ St w vs ms → RepTL St w ts ms L → Can φ St Mine s L → WR φ St Mine w s.H s.nx →
    OldOK φ old s.nx → ∃ φ', Bk φ φ' s s1 L ∧ WR φ' St Mine w s1.H s1.nx ∧ OldOK φ' old s1.nx
  | [], [], φ, ms, L, s, s1, h, _, _, _, q, ho => by
    simp only [backVs, Option.some.injEq] at h; subst h
    exact ⟨φ, Bk.refl _ _ _, q, ho⟩
  | [], t :: ts, φ, ms, L, s, s1, h, _, _, _, _, _ => by simp [backVs] at h
  | v :: vs, [], φ, ms, L, s, s1, h, _, _, _, _, _ => by simp [backVs] at h
  | v :: vs, t :: ts, φ, ms, L, s, s1, h, hv, ht, c, q, ho => by
    simp only [backVs] at h
    split at h
    case h_2 => cases h
    rename_i s2 h1
    simp only [RepL] at hv
    obtain ⟨m, ms', rfl, hv1, hv2⟩ := hv
    simp only [RepTL] at ht
    obtain ⟨_, _, L1, L2, e, rfl, ht1, ht2⟩ := ht
    cases e
    obtain ⟨φ1, k1, q1⟩ := backV_spec h1 hv1 ht1 c.left q ho
    have ho1 : OldOK φ1 old s2.nx := fun b B hB => by
      obtain ⟨g1, g2⟩ := ho b B hB
      exact ⟨by have := k1.nx; omega, fun β o k hp => g2 β o k (by rw [← k1.ext b g1]; exact hp)⟩
    have hv3 : RepL φ1 St w vs ms' := RepL.mono (k1.ext.some q) (fun _ h => h) (fun _ _ => rfl) (fun _ _ h => h) _ _ hv2
    obtain ⟨φ2, k2, q2, ho2⟩ := backVs_spec vs ts φ1 ms' L2 s2 s1 h hv3 ht2 (c.bk k1 q) q1 ho1
    exact ⟨φ2, k1.trans k2 q1 (by simp +contextual) (by simp +contextual), q2, ho2⟩

theorem back1_spec {old : Nat → Option Blk} {v t : V} {φ : Phi} {m : Value} {L : List Nat} {s s1 : S} (h : back1 old v t s = some s1) (hv : Rep φ St w v m) (ht : RepT St w t m L) (c : Can φ St Mine s L) (q : WR φ St Mine w s.H s.nx)
    (ho : OldOK φ old s.nx) : ∃ φ', Bk φ φ' s s1 L ∧ WR φ' St Mine w s1.H s1.nx ∧ OldOK φ' old s1.nx := by
  have lift : (∃ φ', Bk φ φ' s s1 L ∧ WR φ' St Mine w s1.H s1.nx) → ∃ φ', Bk φ φ' s s1 L ∧ WR φ' St Mine w s1.H s1.nx ∧ OldOK φ' old s1.nx := by
    rintro ⟨φ1, k1, q1⟩
    refine ⟨φ1, k1, q1, fun b B hB => ?_⟩
    obtain ⟨g1, g2⟩ := ho b B hB
    exact ⟨by have := k1.nx; omega, fun β o k hp => g2 β o k (by rw [← k1.ext b g1]; exact hp)⟩
  unfold back1 at h
  split at h
  · simp only [Rep] at hv
    obtain ⟨ms, e1, hv⟩ := hv
    simp only [RepT] at ht
    obtain ⟨ms2, e2, ht⟩ := ht
    rw [e1] at e2
    have e3 : ms = ms2 := by
      have := Value.agg.inj e2
      simpa using this
    subst e3
    exact backVs_spec _ _ φ ms L s s1 h hv ht c q ho
  · exact lift (backV_spec h hv ht c q ho)

theorem backL_spec {old : Nat → Option Blk} : ∀ (vs ts : List V) (φ : Phi) (ms : List Value) (L : List Nat) (s s1 : S), backL old vs ts s = some s1 → RepL φ St w vs ms → RepTL St w ts ms L → Can φ St Mine s L → WR φ St Mine w s.H s.nx →
    OldOK φ old s.nx → ∃ φ', Bk φ φ' s s1 L ∧ WR φ' St Mine w s1.H s1.nx ∧ OldOK φ' old s1.nx
  | [], [], φ, ms, L, s, s1, h, _, _, _, q, ho => by
    simp only [backL, Option.some.injEq] at h; subst h
    exact ⟨φ, Bk.refl _ _ _, q, ho⟩
  | [], t :: ts, φ, ms, L, s, s1, h, _, _, _, _, _ => by simp [backL] at h
  | v :: vs, [], φ, ms, L, s, s1, h, _, _, _, _, _ => by simp [backL] at h
  | v :: vs, t :: ts, φ, ms, L, s, s1, h, hv, ht, c, q, ho => by
    simp only [backL] at h
    split at h
    case h_2 => cases h
    rename_i s2 h1
    simp only [RepL] at hv
    obtain ⟨m, ms', rfl, hv1, hv2⟩ := hv
    simp only [RepTL] at ht
    obtain ⟨_, _, L1, L2, e, rfl, ht1, ht2⟩ := ht
    cases e
    obtain ⟨φ1, k1, q1, ho1⟩ := back1_spec h1 hv1 ht1 c.left q ho
    have hv3 : RepL φ1 St w vs ms' := RepL.mono (k1.ext.some q) (fun _ h => h) (fun _ _ => rfl) (fun _ _ h => h) _ _ hv2
    obtain ⟨φ2, k2, q2, ho2⟩ := backL_spec vs ts φ1 ms' L2 s2 s1 h hv3 ht2 (c.bk k1 q) q1 ho1
    exact ⟨φ2, k1.trans k2 q1 (by simp +contextual) (by simp +contextual), q2, ho2⟩

/-- Blocks that may be shared from now on: nobody writes them any more. -/
theorem WR.freeze {φ : Phi} {H : Nat → Option Blk} {nx : Nat} {rs : List Nat} (q : WR φ St Mine w H nx) (ha : ∀ b ∈ rs, ∃ B, H b = some B) :
    WR φ (fun β => St β ∨ β ∈ Lof φ rs) Mine w (Am.freeze H rs) nx := by
  have old : ∀ b B, Am.freeze H rs b = some B → (b ∈ rs ∧ ∃ C, H b = some C ∧ B = { C with fr := true }) ∨ (b ∉ rs ∧ H b = some B) := by
    intro b B h
    unfold Am.freeze at h
    split at h
    · rename_i hb
      obtain ⟨C, hC, rfl⟩ := Option.map_eq_some_iff.1 h
      exact .inl ⟨hb, C, hC, rfl⟩
    · rename_i hb
      exact .inr ⟨hb, h⟩
  have alive : ∀ b B, Am.freeze H rs b = some B → ∃ C, H b = some C ∧ C.k = B.k ∧ C.es = B.es := by
    intro b B h
    rcases old b B h with ⟨_, C, hC, rfl⟩ | ⟨_, hC⟩
    · exact ⟨C, hC, rfl, rfl⟩
    · exact ⟨B, hC, rfl, rfl⟩
  have mono : ∀ {β o k : Nat} {es : List V}, RepE φ St w β o k es → RepE φ (fun β => St β ∨ β ∈ Lof φ rs) w β o k es := fun h => RepE.mono (fun _ _ h => h) (fun _ h => .inl h) (fun _ _ => rfl) (fun _ _ h => h) (fun _ => rfl) h
  refine ⟨fun b hb => ?_, q.dom, fun b B hB => ?_, ?_, ?_, fun β hb => ?_, q.mine⟩
  · have := q.bnd b hb
    unfold Am.freeze
    split <;> simp [this]
  · rcases old b B hB with ⟨hbr, C, hC, rfl⟩ | ⟨hbr, hC⟩
    · rcases q.blk b C hC with ⟨h1, h2⟩ | ⟨β, o, h1, h2, h3, h4, h5, h6⟩
      · exact .inl ⟨h1, h2⟩
      · exact .inr ⟨β, o, h1, fun h => (by simp at h), fun _ => .inr (mem_Lof.2 ⟨b, hbr, o, _, h1⟩), h4, h5, mono h6⟩
    · rcases q.blk b B hC with ⟨h1, h2⟩ | ⟨β, o, h1, h2, h3, h4, h5, h6⟩
      · exact .inl ⟨h1, h2⟩
      · refine .inr ⟨β, o, h1, fun hf => ?_, fun hf => .inl (h3 hf), h4, h5, mono h6⟩
        rintro (h | h)
        · exact h2 hf h
        · obtain ⟨b', hb', o', k', hp'⟩ := mem_Lof.1 h
          obtain ⟨B', hB'⟩ := ha b' hb'
          have := q.inj b b' B B' β o B.k o' k' hC hB' h1 hp'
          subst this
          exact hbr hb'
  · intro b b' B B' β o k o' k' h1 h2 p1 p2
    obtain ⟨C, hC, _⟩ := alive b B h1
    obtain ⟨C', hC', _⟩ := alive b' B' h2
    exact q.inj b b' C C' β o k o' k' hC hC' p1 p2
  · intro b B β o k h1 p1
    obtain ⟨C, hC, _⟩ := alive b B h1
    exact q.own b C β o k hC p1
  · rcases hb with hb | hb
    · exact q.stB β hb
    · obtain ⟨b, hb, o, k, hp⟩ := mem_Lof.1 hb
      obtain ⟨B, hB⟩ := ha b hb
      rcases q.blk b B hB with ⟨_, h2⟩ | ⟨β', o', h1, _, _, h4, _⟩
      · rw [h2] at hp; cases hp
      · rw [h1] at hp; cases hp; exact h4.lt

end Go.Am
