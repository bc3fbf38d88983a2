/-
  A machine of trees and its soundness over the model, part 4.
-/
import Derived.Test.YtocgmaekciphcaaM3
import Derived.LoopN
set_option linter.all false
/- The A-machine, part 15: handing over and coming back. -/
namespace Go.Am
variable {P : Program} {St Mine : Nat → Prop} {w : World}

mutual
theorem RO.repT {St : Nat → Prop} {w : World} : ∀ (v : V) (m : Value), RO St w v m → RepT St w v m []
  | .im x, m, r => by simpa [RO, RepT] using r
  | .st cs, m, r => by simp only [RO] at r; simp only [RepT]; obtain ⟨ms, e, q⟩ := r; exact ⟨ms, e, ROL.repT cs ms q⟩
  | .tu cs, m, r => by simp only [RO] at r; simp only [RepT]; obtain ⟨ms, e, q⟩ := r; exact ⟨ms, e, ROL.repT cs ms q⟩
  | .cl f cs, m, r => by simp only [RO] at r; simp only [RepT]; obtain ⟨ms, e, q⟩ := r; exact ⟨ms, e, ROL.repT cs ms q⟩
  | .e0, m, r => by simp only [RO] at r; simp only [RepT]; exact ⟨r, trivial⟩
  | .sl es, m, r => by simp only [RepT]; exact ⟨r, trivial⟩
  | .rp v, m, r => by simp only [RepT]; exact ⟨r, trivial⟩
  | .ow _ _, m, r => by simp [RO] at r
  | .op _, m, r => by simp [RO] at r
  | .hs .., m, r => by simp [RO] at r
  | .hp .., m, r => by simp [RO] at r
  | .hf .., m, r => by simp [RO] at r
theorem ROL.repT {St : Nat → Prop} {w : World} : ∀ (vs : List V) (ms : List Value), ROL St w vs ms → RepTL St w vs ms []
  | [], ms, r => by simpa [ROL, RepTL] using r
  | v :: vs, ms, r => by
    simp only [ROL] at r
    obtain ⟨m, ms', e, q, q'⟩ := r
    simp only [RepTL]
    exact ⟨m, ms', [], [], e, rfl, RO.repT v m q, ROL.repT vs ms' q'⟩
end

mutual
theorem RepT.st {St St' : Nat → Prop} {w : World} (hS : ∀ β, St β → St' β) : ∀ (v : V) (m : Value) (L : List Nat), RepT St w v m L → RepT St' w v m L
  | .im x, m, L, r => by simpa [RepT] using r
  | .st cs, m, L, r => by simp only [RepT] at r ⊢; obtain ⟨ms, e, q⟩ := r; exact ⟨ms, e, RepTL.st hS cs ms L q⟩
  | .tu cs, m, L, r => by simp only [RepT] at r ⊢; obtain ⟨ms, e, q⟩ := r; exact ⟨ms, e, RepTL.st hS cs ms L q⟩
  | .cl f cs, m, L, r => by simp only [RepT] at r ⊢; obtain ⟨ms, e, q⟩ := r; exact ⟨ms, e, RepTL.st hS cs ms L q⟩
  | .e0, m, L, r => by simpa [RepT] using r
  | .sl es, m, L, r => by simp only [RepT] at r ⊢; exact ⟨RO.mono hS (fun _ _ => rfl) _ _ r.1, r.2⟩
  | .rp v, m, L, r => by simp only [RepT] at r ⊢; exact ⟨RO.mono hS (fun _ _ => rfl) _ _ r.1, r.2⟩
  | .ow k es, m, L, r => by
    simp only [RepT] at r ⊢
    obtain ⟨a, c, e, h, q⟩ := r
    refine ⟨a, c, e, h, ?_⟩
    rcases q with q | ⟨β, o, L', h1, h2, h3, h4, h5⟩
    · exact .inl q
    · exact .inr ⟨β, o, L', h1, h2, h3, h4, RepTE.st hS β o es L' h5⟩
  | .op v, m, L, r => by
    rw [RepT_op] at r ⊢
    obtain ⟨β, o, L', h1, h2, h3, h5⟩ := r
    refine ⟨β, o, L', h1, h2, h3, ?_⟩
    cases v with
    | st cs => exact RepTC.st hS β o cs L' h5
    | _ =>
      simp only [cellsOf, RepTC] at h5 ⊢
      obtain ⟨L1, L2, e, ⟨u, hu, hr⟩, e2⟩ := h5
      exact ⟨L1, L2, e, ⟨u, hu, RepT.st hS _ u L1 hr⟩, e2⟩
  | .hs .., m, L, r => by simp [RepT] at r
  | .hp .., m, L, r => by simp [RepT] at r
  | .hf .., m, L, r => by simp [RepT] at r
theorem RepTL.st {St St' : Nat → Prop} {w : World} (hS : ∀ β, St β → St' β) : ∀ (vs : List V) (ms : List Value) (L : List Nat), RepTL St w vs ms L → RepTL St' w vs ms L
  | [], ms, L, r => by simpa [RepTL] using r
  | v :: vs, ms, L, r => by
    simp only [RepTL] at r ⊢
    obtain ⟨m, ms', L1, L2, e1, e2, q1, q2⟩ := r
    exact ⟨m, ms', L1, L2, e1, e2, RepT.st hS v m L1 q1, RepTL.st hS vs ms' L2 q2⟩
theorem RepTC.st {St St' : Nat → Prop} {w : World} (hS : ∀ β, St β → St' β) (β : Nat) : ∀ (o : Nat) (vs : List V) (L : List Nat), RepTC St w β o vs L → RepTC St' w β o vs L
  | o, [], L, r => by simpa [RepTC] using r
  | o, v :: vs, L, r => by
    simp only [RepTC] at r ⊢
    obtain ⟨L1, L2, e1, ⟨u, hu, q1⟩, q2⟩ := r
    exact ⟨L1, L2, e1, ⟨u, hu, RepT.st hS v u L1 q1⟩, RepTC.st hS β (o + 1) vs L2 q2⟩
theorem RepTE.st {St St' : Nat → Prop} {w : World} (hS : ∀ β, St β → St' β) (β : Nat) : ∀ (o : Nat) (vs : List V) (L : List Nat), RepTE St w β o vs L → RepTE St' w β o vs L
  | o, [], L, r => by simpa [RepTE] using r
  | o, v :: vs, L, r => by
    rw [RepTE_cons] at r ⊢
    obtain ⟨L1, L2, e1, q1, q2⟩ := r
    refine ⟨L1, L2, e1, ?_, RepTE.st hS β _ vs L2 q2⟩
    cases v with
    | st cs => exact RepTC.st hS β o cs L1 q1
    | _ =>
      simp only [cellsOf, RepTC] at q1 ⊢
      obtain ⟨M1, M2, e, ⟨u, hu, hr⟩, e2⟩ := q1
      exact ⟨M1, M2, e, ⟨u, hu, RepT.st hS _ u M1 hr⟩, e2⟩
end

/-- What shares no memory with anybody reads so whatever is kept. -/
theorem free_spec {St St' : Nat → Prop} {w : World} : ∀ (d : Nat),
    (∀ (v : V) (m : Value) (L : List Nat), free d v = true → RepT St w v m L → RepT St' w v m L) ∧
    (∀ (v : V) (β o : Nat) (L : List Nat), free d v = true → RepTC St w β o (cellsOf v) L → RepTC St' w β o (cellsOf v) L)
  | 0 => ⟨fun _ _ _ h => by simp [free] at h, fun _ _ _ _ h => by simp [free] at h⟩
  | d + 1 => by
    obtain ⟨ihV, ihA⟩ := free_spec (St := St) (St' := St') (w := w) d
    have lst : ∀ (vs : List V) (ms : List Value) (L : List Nat), allL (free d) vs = true → RepTL St w vs ms L → RepTL St' w vs ms L := by
      intro vs
      induction vs with
      | nil => intro ms L _ r; simpa [RepTL] using r
      | cons v vs ih =>
        intro ms L h r
        simp only [allL, Bool.and_eq_true] at h
        simp only [RepTL] at r ⊢
        obtain ⟨m, ms', L1, L2, e1, e2, q1, q2⟩ := r
        exact ⟨m, ms', L1, L2, e1, e2, ihV v m L1 h.1 q1, ih ms' L2 h.2 q2⟩
    have cel : ∀ (vs : List V) (β o : Nat) (L : List Nat), allL (free d) vs = true → RepTC St w β o vs L → RepTC St' w β o vs L := by
      intro vs
      induction vs with
      | nil => intro β o L _ r; simpa [RepTC] using r
      | cons v vs ih =>
        intro β o L h r
        simp only [allL, Bool.and_eq_true] at h
        simp only [RepTC] at r ⊢
        obtain ⟨L1, L2, e1, ⟨u, hu, q1⟩, q2⟩ := r
        exact ⟨L1, L2, e1, ⟨u, hu, ihV v u L1 h.1 q1⟩, ih β (o + 1) L2 h.2 q2⟩
    have els : ∀ (vs : List V) (β o : Nat) (L : List Nat), allL (free d) vs = true → RepTE St w β o vs L → RepTE St' w β o vs L := by
      intro vs
      induction vs with
      | nil => intro β o L _ r; simpa [RepTE] using r
      | cons v vs ih =>
        intro β o L h r
        simp only [allL, Bool.and_eq_true] at h
        rw [RepTE_cons] at r ⊢
        obtain ⟨L1, L2, e1, q1, q2⟩ := r
        exact ⟨L1, L2, e1, ihA v β o L1 h.1 q1, ih β _ L2 h.2 q2⟩
    have val : ∀ (v : V) (m : Value) (L : List Nat), free (d + 1) v = true → RepT St w v m L → RepT St' w v m L := by
      intro v m L h r
      cases v <;> simp only [free] at h
      case im x => simpa [RepT] using r
      case e0 => simpa [RepT] using r
      case st cs => simp only [RepT] at r ⊢; obtain ⟨ms, e, q⟩ := r; exact ⟨ms, e, lst cs ms L h q⟩
      case tu cs => simp only [RepT] at r ⊢; obtain ⟨ms, e, q⟩ := r; exact ⟨ms, e, lst cs ms L h q⟩
      case cl f cs => simp only [RepT] at r ⊢; obtain ⟨ms, e, q⟩ := r; exact ⟨ms, e, lst cs ms L h q⟩
      case ow k es =>
        simp only [RepT] at r ⊢
        obtain ⟨a, c, e, h0, q⟩ := r
        refine ⟨a, c, e, h0, ?_⟩
        rcases q with q | ⟨β, o, L', h1, h2, h3, h4, h5⟩
        · exact .inl q
        · exact .inr ⟨β, o, L', h1, h2, h3, h4, els es β o L' h h5⟩
      case op v =>
        rw [RepT_op] at r ⊢
        obtain ⟨β, o, L', h1, h2, h3, h5⟩ := r
        exact ⟨β, o, L', h1, h2, h3, ihA v β o L' h h5⟩
      all_goals cases h
    refine ⟨val, fun v β o L h r => ?_⟩
    cases v with
    | st cs => simp only [free] at h; exact cel cs β o L h r
    | _ =>
      simp only [cellsOf, RepTC] at r ⊢
      obtain ⟨L1, L2, e, ⟨u, hu, hr⟩, e2⟩ := r
      exact ⟨L1, L2, e, ⟨u, hu, val _ u L1 h hr⟩, e2⟩

theorem free_list {St St' : Nat → Prop} {w : World} {d : Nat} : ∀ (vs : List V) (ms : List Value) (L : List Nat), allL (free d) vs = true → RepTL St w vs ms L → RepTL St' w vs ms L
  | [], ms, L, _, r => by simpa [RepTL] using r
  | v :: vs, ms, L, h, r => by
    simp only [allL, Bool.and_eq_true] at h
    simp only [RepTL] at r ⊢
    obtain ⟨m, ms', L1, L2, e1, e2, q1, q2⟩ := r
    exact ⟨m, ms', L1, L2, e1, e2, (free_spec d).1 v m L1 h.1 q1, free_list vs ms' L2 h.2 q2⟩

/-! ### Handing over -/

theorem RepTL_st_iff {St : Nat → Prop} {w : World} {cs : List V} {m : Value} {L : List Nat} : RepT St w (.st cs) m L ↔ ∃ ms : List Value, m = .agg ms.toArray ∧ RepTL St w cs ms L := by simp only [RepT]
theorem lend1_spec {φ : Phi} {H : Nat → Option Blk} {nx : Nat} (q : WR φ St Mine w H nx) {v t : V} {m : Value} {ids : List Nat} (h : lend1 H v = some (t, ids)) (r : Rep φ St w v m) : RepT St w t m (Lof φ ids) := by
  unfold lend1 at h
  split at h
  · rename_i b off n c
    split at h
    · rename_i hn
      obtain ⟨rfl, rfl⟩ := Prod.mk.inj (Option.some.inj h)
      subst hn
      simp only [Rep] at r
      obtain ⟨a, c', e, _, _, _⟩ := r
      simp only [RepT, RO]
      exact ⟨⟨a, c', by simpa using e, by simp, .inl trivial⟩, rfl⟩
    · exact (give_spec q 8).1 _ _ _ _ h r
  · exact (give_spec q 8).1 _ _ _ _ h r
theorem lend1L_spec {φ : Phi} {H : Nat → Option Blk} {nx : Nat} (q : WR φ St Mine w H nx) : ∀ (cs ts : List V) (ms : List Value) (ids : List Nat), overL (lend1 H) cs = some (ts, ids) → RepL φ St w cs ms → RepTL St w ts ms (Lof φ ids)
  | [], ts, ms, ids, h, r => by
    simp only [overL, Option.some.injEq, Prod.mk.injEq] at h
    obtain ⟨rfl, rfl⟩ := h
    simp only [RepL] at r
    subst r
    simp [RepTL, Lof]
  | c :: cs, ts, ms, ids, h, r => by
    obtain ⟨t, ts', i, j, h1, h2, rfl, rfl⟩ := overL_cons h
    simp only [RepL] at r
    obtain ⟨m, ms', rfl, r1, r2⟩ := r
    simp only [RepTL]
    exact ⟨m, ms', _, _, rfl, Lof_append _ _ _, lend1_spec q h1 r1, lend1L_spec q cs ts' ms' j h2 r2⟩
theorem lend_spec {φ : Phi} {H : Nat → Option Blk} {nx : Nat} (q : WR φ St Mine w H nx) {v t : V} {m : Value} {ids : List Nat} (h : lend H v = some (t, ids)) (r : Rep φ St w v m) : RepT St w t m (Lof φ ids) := by
  unfold lend at h
  split at h
  · split at h
    case h_2 => cases h
    rename_i hts
    obtain ⟨rfl, rfl⟩ := Prod.mk.inj (Option.some.inj h)
    simp only [Rep] at r
    obtain ⟨ms, e, r⟩ := r
    simp only [RepT]
    exact ⟨ms, e, lend1L_spec q _ _ _ _ hts r⟩
  · exact lend1_spec q h r
theorem lend1_alive {H : Nat → Option Blk} {v t : V} {ids : List Nat} (h : lend1 H v = some (t, ids)) : ∀ b ∈ ids, ∃ B, H b = some B := by
  unfold lend1 at h
  split at h
  · split at h
    · obtain ⟨rfl, rfl⟩ := Prod.mk.inj (Option.some.inj h); simp
    · exact give_alive _ _ _ _ h
  · exact give_alive _ _ _ _ h
theorem lend1L_alive {H : Nat → Option Blk} : ∀ (cs ts : List V) (ids : List Nat), overL (lend1 H) cs = some (ts, ids) → ∀ b ∈ ids, ∃ B, H b = some B
  | [], ts, ids, h => by simp only [overL, Option.some.injEq, Prod.mk.injEq] at h; obtain ⟨_, rfl⟩ := h; simp
  | c :: cs, ts, ids, h => by
    obtain ⟨t, ts', i, j, h1, h2, rfl, rfl⟩ := overL_cons h
    intro b hb
    rcases List.mem_append.1 hb with hb | hb
    · exact lend1_alive h1 b hb
    · exact lend1L_alive cs ts' j h2 b hb
theorem lend_alive {H : Nat → Option Blk} {v t : V} {ids : List Nat} (h : lend H v = some (t, ids)) : ∀ b ∈ ids, ∃ B, H b = some B := by
  unfold lend at h
  split at h
  · split at h
    case h_2 => cases h
    rename_i hts
    obtain ⟨rfl, rfl⟩ := Prod.mk.inj (Option.some.inj h)
    exact lend1L_alive _ _ _ hts
  · exact lend1_alive h

theorem hand_spec {φ : Phi} {H : Nat → Option Blk} {nx : Nat} (q : WR φ St Mine w H nx) {St' : Nat → Prop} (hS : ∀ β, St β → St' β) : ∀ (ms : List M) (vs ts : List V) (vals : List Value) (rs os : List Nat),
    handL H ms vs = some (ts, rs, os) → RepL φ St w vs vals → (∀ b ∈ rs, ∀ β o k, φ b = some (β, o, k) → St' β) → RepTL St' w ts vals (Lof φ os)
  | ms, [], ts, vals, rs, os, h, r, _ => by
    simp only [handL, Option.some.injEq, Prod.mk.injEq] at h
    obtain ⟨rfl, rfl, rfl⟩ := h
    simp only [RepL] at r
    subst r
    simp [RepTL, Lof]
  | ms, v :: vs, ts, vals, rs, os, h, r, hr => by
    simp only [RepL] at r
    obtain ⟨m, vals', rfl, r1, r2⟩ := r
    simp only [handL] at h
    split at h
    case h_2 => cases h
    rename_i t r0 o0 hx
    split at h
    case h_2 => cases h
    rename_i ts' rs' os' hrest
    obtain ⟨rfl, h'⟩ := Prod.mk.inj (Option.some.inj h)
    obtain ⟨rfl, rfl⟩ := Prod.mk.inj h'
    have ih := hand_spec q hS ms.tail vs ts' vals' rs' os' hrest r2 fun b hb => hr b (by simp [hb])
    simp only [RepTL]
    refine ⟨m, vals', Lof φ o0, Lof φ os', rfl, Lof_append _ _ _, ?_, ih⟩
    split at hx
    · obtain ⟨⟨x1, x2⟩, hy, e⟩ := Option.map_eq_some_iff.1 hx
      cases e
      exact RO.repT _ _ ((snap_spec q hS DEP).1 v x1 m x2 hy r1 fun b hb => hr b (by simp [hb]))
    · obtain ⟨⟨x1, x2⟩, hy, e⟩ := Option.map_eq_some_iff.1 hx
      cases e
      exact RepT.st hS _ _ _ ((give_spec q DEP).1 v x1 m x2 hy r1)
    · obtain ⟨⟨x1, x2⟩, hy, e⟩ := Option.map_eq_some_iff.1 hx
      cases e
      exact RepT.st hS _ _ _ (lend_spec q hy r1)

theorem hand_alive {H : Nat → Option Blk} : ∀ (ms : List M) (vs ts : List V) (rs os : List Nat), handL H ms vs = some (ts, rs, os) → (∀ b ∈ rs, ∃ B, H b = some B) ∧ ∀ b ∈ os, ∃ B, H b = some B
  | ms, [], ts, rs, os, h => by
    simp only [handL, Option.some.injEq, Prod.mk.injEq] at h
    obtain ⟨rfl, rfl, rfl⟩ := h
    simp
  | ms, v :: vs, ts, rs, os, h => by
    simp only [handL] at h
    split at h
    case h_2 => cases h
    rename_i t r0 o0 hx
    split at h
    case h_2 => cases h
    rename_i ts' rs' os' hrest
    obtain ⟨rfl, h'⟩ := Prod.mk.inj (Option.some.inj h)
    obtain ⟨rfl, rfl⟩ := Prod.mk.inj h'
    obtain ⟨i1, i2⟩ := hand_alive ms.tail vs ts' rs' os' hrest
    split at hx
    · obtain ⟨⟨x1, x2⟩, hy, e⟩ := Option.map_eq_some_iff.1 hx
      cases e
      refine ⟨fun b hb => ?_, fun b hb => i2 b (by simpa using hb)⟩
      rcases List.mem_append.1 hb with hb | hb
      · exact snap_alive _ _ _ _ hy b hb
      · exact i1 b hb
    · obtain ⟨⟨x1, x2⟩, hy, e⟩ := Option.map_eq_some_iff.1 hx
      cases e
      refine ⟨fun b hb => i1 b (by simpa using hb), fun b hb => ?_⟩
      rcases List.mem_append.1 hb with hb | hb
      · exact give_alive _ _ _ _ hy b hb
      · exact i2 b hb
    · obtain ⟨⟨x1, x2⟩, hy, e⟩ := Option.map_eq_some_iff.1 hx
      cases e
      refine ⟨fun b hb => i1 b (by simpa using hb), fun b hb => ?_⟩
      rcases List.mem_append.1 hb with hb | hb
      · exact lend_alive hy b hb
      · exact i2 b hb

theorem Lof_nodup {φ : Phi} {H : Nat → Option Blk} {nx : Nat} (q : WR φ St Mine w H nx) : ∀ {os : List Nat}, os.Nodup → (∀ b ∈ os, ∃ B, H b = some B) → (Lof φ os).Nodup
  | [], _, _ => by simp [Lof]
  | b :: os, h, ha => by
    rw [Lof_cons]
    have h2 := List.nodup_cons.1 h
    refine List.nodup_append.2 ⟨?_, Lof_nodup q h2.2 (fun b' hb => ha b' (by simp [hb])), ?_⟩
    · unfold Lof
      simp only [List.flatMap_cons, List.flatMap_nil, List.append_nil]
      split <;> simp
    · intro β hβ β' hβ' e
      subst e
      obtain ⟨b1, hb1, o1, k1, p1⟩ := mem_Lof.1 hβ
      obtain rfl : b1 = b := by simpa using hb1
      obtain ⟨b2, hb2, o2, k2, p2⟩ := mem_Lof.1 hβ'
      obtain ⟨B1, g1⟩ := ha b1 (by simp)
      obtain ⟨B2, g2⟩ := ha b2 (by simp [hb2])
      have := q.inj b1 b2 B1 B2 β o1 k1 o2 k2 g1 g2 p1 p2
      subst this
      exact h2.1 hb2

/-! ### Coming back -/

/-- A block that lies dead, written anew. -/
theorem WR.revive {φ : Phi} {H : Nat → Option Blk} {nx b k β o : Nat} {es : List V} (q : WR φ St Mine w H nx) (hb : b < nx) (hp : φ b = some (β, o, k))
    (hfree : ∀ b' B o' k', H b' = some B → φ b' = some (β, o', k') → False)
    (hS : ¬ St β) (hM : Mine β) (ho : Own w β (o + es.length * k)) (hk : ∀ e ∈ es, e.size = k) (hr : RepE φ St w β o k es) :
    WR φ St Mine w (upd H b (some { k := k, es := es })) nx := by
  have old : ∀ b' B, upd H b (some { k := k, es := es }) b' = some B → (b' = b ∧ B = { k := k, es := es }) ∨ (b' ≠ b ∧ H b' = some B) := by
    intro b' B h
    by_cases e : b' = b
    · subst e; rw [upd_same] at h; exact .inl ⟨rfl, (Option.some.inj h).symm⟩
    · rw [upd_ne _ _ e] at h; exact .inr ⟨e, h⟩
  refine ⟨fun b' hb' => by rw [upd_ne _ _ (by omega)]; exact q.bnd b' hb', q.dom, fun b' B hB => ?_, ?_, ?_, q.stB, q.mine⟩
  · rcases old b' B hB with ⟨rfl, rfl⟩ | ⟨e, h⟩
    · exact .inr ⟨β, o, hp, fun _ => hS, fun h => (by simp at h), ho, hk, hr⟩
    · exact q.blk b' B h
  · intro b1 b2 B1 B2 β1 o1 k1 o2 k2 h1 h2 p1 p2
    rcases old b1 B1 h1 with ⟨rfl, _⟩ | ⟨e1, g1⟩ <;> rcases old b2 B2 h2 with ⟨rfl, _⟩ | ⟨e2, g2⟩
    · rfl
    · rw [hp] at p1; cases p1; exact (hfree b2 B2 _ _ g2 p2).elim
    · rw [hp] at p2; cases p2; exact (hfree b1 B1 _ _ g1 p1).elim
    · exact q.inj b1 b2 B1 B2 β1 o1 k1 o2 k2 g1 g2 p1 p2
  · intro b1 B1 β1 o1 k1 h1 p1
    rcases old b1 B1 h1 with ⟨rfl, _⟩ | ⟨_, g1⟩
    · rw [hp] at p1; cases p1; exact hM
    · exact q.own b1 B1 β1 o1 k1 g1 p1

/-- From s to s1 blocks have come or come back, all out of L; nothing else has turned. -/
structure Bk (φ φ' : Phi) (s s1 : S) (L : List Nat) : Prop where
  ext : Ext φ φ' s.nx
  e : s1.e = s.e
  nx : s.nx ≤ s1.nx
  old : ∀ b B, s.H b = some B → s1.H b = some B
  new : ∀ b B β o k, s1.H b = some B → φ' b = some (β, o, k) → s.H b = some B ∨ β ∈ L
  fz : s1.fz = s.fz
  fr : ∀ b B, s1.H b = some B → s.H b = some B ∨ B.fr = false

theorem Tk.bk {φ φ' : Phi} {s s1 : S} {L : List Nat} (h : Tk φ φ' s s1 L) (q : WR φ St Mine w s.H s.nx) : Bk φ φ' s s1 L := by
  refine ⟨h.ext, h.e, h.nx, fun b B hB => ?_, fun b B β o k hB hp => ?_, h.fz, fun b B hB => ?_⟩
  · have : b < s.nx := by
      rcases Nat.lt_or_ge b s.nx with g | g
      · exact g
      · rw [q.bnd b g] at hB; cases hB
    rw [h.old b this]; exact hB
  · by_cases hlt : b < s.nx
    · left; rw [← h.old b hlt]; exact hB
    · right; exact h.new b B β o k (by omega) hB hp
  · by_cases hlt : b < s.nx
    · left; rw [← h.old b hlt]; exact hB
    · right; exact h.fr b B (by omega) hB

theorem Bk.refl (φ : Phi) (s : S) (L : List Nat) : Bk φ φ s s L := ⟨Ext.refl _ _, rfl, Nat.le_refl _, fun _ _ h => h, fun _ _ _ _ _ h _ => .inl h, rfl, fun _ _ h => .inl h⟩

theorem Bk.trans {φ φ1 φ2 : Phi} {s s1 s2 : S} {L1 L2 L : List Nat} (h : Bk φ φ1 s s1 L1) (k : Bk φ1 φ2 s1 s2 L2) (q : WR φ1 St Mine w s1.H s1.nx) (h1 : ∀ β ∈ L1, β ∈ L) (h2 : ∀ β ∈ L2, β ∈ L) : Bk φ φ2 s s2 L := by
  refine ⟨h.ext.trans k.ext h.nx, k.e.trans h.e, Nat.le_trans h.nx k.nx, fun b B hB => k.old b B (h.old b B hB), fun b B β o k' hB hp => ?_, k.fz.trans h.fz, fun b B hB => ?_⟩
  · rcases k.new b B β o k' hB hp with g | g
    · have hlt : b < s1.nx := by
        rcases Nat.lt_or_ge b s1.nx with g' | g'
        · exact g'
        · rw [q.bnd b g'] at g; cases g
      rw [k.ext b hlt] at hp
      rcases h.new b B β o k' g hp with g' | g'
      · exact .inl g'
      · exact .inr (h1 _ g')
    · exact .inr (h2 _ g)
  · rcases k.fr b B hB with g | g
    · exact h.fr b B g
    · exact .inr g

theorem Can.bk {φ φ1 : Phi} {s s1 : S} {L1 L2 : List Nat} (h : Can φ St Mine s (L1 ++ L2)) (t : Bk φ φ1 s s1 L1) (q : WR φ St Mine w s.H s.nx) : Can φ1 St Mine s1 L2 := by
  refine ⟨(List.nodup_append.1 h.nd).2.1, fun β hb => h.ns β (by simp [hb]), fun β hb => h.mi β (by simp [hb]), fun b B β o k h1 h2 h3 => ?_⟩
  rcases t.new b B β o k h1 h2 with g | g
  · have hlt : b < s.nx := by
      rcases Nat.lt_or_ge b s.nx with g' | g'
      · exact g'
      · rw [q.bnd b g'] at g; cases g
    rw [t.ext b hlt] at h2
    exact h.fr b B β o k g h2 (by simp [h3])
  · exact (List.nodup_append.1 h.nd).2.2 β g β h3 rfl

/-- What the blocks were before they went over. -/
def OldOK (φ : Phi) (old : Nat → Option Blk) (nx : Nat) : Prop := ∀ b B, old b = some B → b < nx ∧ ∀ β o k, φ b = some (β, o, k) → k = B.k

theorem RepTL.single {v : V} {vs : List V} {ms : List Value} {L : List Nat} (h : RepTL St w (v :: vs) ms L) : ∃ m ms' L1 L2, ms = m :: ms' ∧ L = L1 ++ L2 ∧ RepT St w v m L1 ∧ RepTL St w vs ms' L2 := by simpa only [RepTL] using h

theorem backV_spec {φ : Phi} {old : Nat → Option Blk} {v t : V} {m : Value} {L : List Nat} {s s1 : S} (h : backV old v t s = some s1) (hv : Rep φ St w v m) (ht : RepT St w t m L) (c : Can φ St Mine s L) (q : WR φ St Mine w s.H s.nx)
    (ho : OldOK φ old s.nx) : ∃ φ', Bk φ φ' s s1 L ∧ WR φ' St Mine w s1.H s1.nx := by
  have same : some s = some s1 → ∃ φ', Bk φ φ' s s1 L ∧ WR φ' St Mine w s1.H s1.nx := fun e => by
    obtain rfl := Option.some.inj e
    exact ⟨φ, Bk.refl _ _ _, q⟩
  unfold backV at h
  split at h
  · rename_i b off n c0 k es
    split at h
    · split at h
      · exact same h
      · cases h
    rename_i hne
    split at h
    case h_2 => cases h
    rename_i B hB
    split at h
    case isFalse => cases h
    rename_i hcond
    obtain ⟨rfl, hn, hlen, rfl⟩ := hcond
    split at h
    case h_2 => cases h
    rename_i vs s2 hts
    obtain rfl := Option.some.inj h
    obtain ⟨hbn, hbk⟩ := ho b B hB
    have hvl := takeL_len hts
    simp only [Rep] at hv
    obtain ⟨a, c', em, r1, r2, r3⟩ := hv
    simp only [RepT] at ht
    obtain ⟨a2, c2, em2, hle, ht⟩ := ht
    rw [em] at em2
    obtain ⟨rfl, h5, rfl⟩ := Value.slice.inj em2
    have hpos : 0 < es.length := by
      rcases Nat.eq_zero_or_pos es.length with g | g
      · exact absurd (List.eq_nil_of_length_eq_zero g) hne
      · exact g
    rcases r3 with r3 | ⟨β, o, k, hp, ha, hroom⟩
    · omega
    rcases ht with ⟨ht, _⟩ | ⟨β', o', L', ha', rfl, hown, hk, hte⟩
    · omega
    rw [ha] at ha'
    have hinj := Option.some.inj ha'
    obtain ⟨rfl, rfl, _⟩ : β = β' ∧ o + 0 * k = o' ∧ True := by
      injection hinj with g1 g2 g3; exact ⟨g1, g2, trivial⟩
    have hkk := hbk _ _ _ hp
    subst hkk
    simp only [Nat.zero_mul, Nat.add_zero] at hte hown
    have c1 : Can φ St Mine s L' := ⟨(List.nodup_cons.1 c.nd).2, fun β hb => c.ns β (by simp [hb]), fun β hb => c.mi β (by simp [hb]), fun b B β o k h1 h2 h3 => c.fr b B β o k h1 h2 (by simp [h3])⟩
    -- the elements are taken over first
    have key : ∀ (ts vs : List V) (φ : Phi) (o : Nat) (L : List Nat) (s s1 : S), takeL (takeIn DEP) ts s = some (vs, s1) → (∀ e ∈ ts, e.size = B.k) → RepTE St w β o ts L → Can φ St Mine s L → WR φ St Mine w s.H s.nx →
        ∃ φ', Tk φ φ' s s1 L ∧ RepE φ' St w β o B.k vs ∧ WR φ' St Mine w s1.H s1.nx ∧ ∀ e ∈ vs, e.size = B.k := by
      intro ts
      induction ts with
      | nil =>
        intro vs φ o L s s1 h _ r c q
        simp only [takeL, Option.some.injEq, Prod.mk.injEq] at h
        obtain ⟨rfl, rfl⟩ := h
        exact ⟨φ, Tk.refl q rfl _, fun i e hi => (by simp at hi), q, by simp⟩
      | cons t ts ih =>
        intro vs φ o L s s2 h hk r c q
        obtain ⟨v, vs', s1, h1, h2, rfl⟩ := takeL_cons h
        rw [RepTE_cons] at r
        obtain ⟨L1, L2, rfl, r1, r2⟩ := r
        obtain ⟨φ1, k1, p1, q1⟩ := (take_spec DEP).2 φ _ _ _ _ _ _ _ h1 r1 c.left q
        have ht : t.size = B.k := hk t (by simp)
        rw [ht] at r2
        obtain ⟨φ2, k2, p2, q2, z2⟩ := ih _ φ1 _ _ _ _ h2 (fun e he => hk e (by simp [he])) r2 (c.right k1 q rfl) q1
        refine ⟨φ2, k1.trans k2 (by simp +contextual) (by simp +contextual), fun i e hi => ?_, q2, fun e he => ?_⟩
        · cases i with
          | zero =>
            obtain rfl : v = e := by simpa using hi
            simpa using monoC_same (k2.some q1) p1
          | succ i =>
            have := p2 i e (by simpa using hi)
            rwa [show o + B.k + i * B.k = o + (i + 1) * B.k by rw [Nat.succ_mul]; omega] at this
        · rcases List.mem_cons.1 he with rfl | he
          · rw [take_size h1, ht]
          · exact z2 e he
    obtain ⟨φ1, k1, p1, q1, z1⟩ := key es vs φ o L' s s2 hts hk hte c1 q
    have hp1 : φ1 b = some (β, o, B.k) := by rw [k1.ext b hbn]; exact hp
    have hlen2 : o + vs.length * B.k ≤ o + c' * B.k := Nat.add_le_add_left (Nat.mul_le_mul_right _ (by omega)) _
    have q2 := q1.revive (b := b) (by have := k1.nx; omega) hp1 (fun b' B' o' k' hB' hp' => by
      rcases (k1.bk q).new b' B' β o' k' hB' hp' with g | g
      · have hlt : b' < s.nx := by
          rcases Nat.lt_or_ge b' s.nx with g' | g'
          · exact g'
          · rw [q.bnd b' g'] at g; cases g
        rw [k1.ext b' hlt] at hp'
        exact c.fr b' B' β o' k' g hp' (by simp)
      · exact (List.nodup_cons.1 c.nd).1 g) (c.ns β (by simp)) (c.mi β (by simp)) (hown.mono hlen2) z1 p1
    have hdead : ∀ C, s.H b ≠ some C := fun C hC => c.fr b C β o B.k hC hp (by simp)
    refine ⟨φ1, ⟨k1.ext, k1.e, k1.nx, fun b' C hC => ?_, fun b' C β' o' k' hC hp' => ?_, k1.fz, fun b' C hC => ?_⟩, q2⟩
    · simp only [S.blk]
      rw [upd_ne _ _ (by rintro rfl; exact hdead _ hC)]
      exact (k1.bk q).old b' C hC
    · simp only [S.blk] at hC
      by_cases e : b' = b
      · subst e; rw [hp1] at hp'; cases hp'; exact .inr (by simp)
      · rw [upd_ne _ _ e] at hC
        rcases (k1.bk q).new b' C β' o' k' hC hp' with g | g
        · exact .inl g
        · exact .inr (by simp [g])
    · simp only [S.blk] at hC
      by_cases e : b' = b
      · subst e; rw [upd_same] at hC; obtain rfl := Option.some.inj hC; exact .inr rfl
      · rw [upd_ne _ _ e] at hC; exact (k1.bk q).fr b' C hC
  · rename_i b i v0
    split at h
    case h_2 => cases h
    rename_i B hB
    split at h
    case isFalse => cases h
    rename_i hcond
    obtain ⟨rfl, hBk⟩ := hcond
    split at h
    case h_2 => cases h
    rename_i v1 s2 hts
    obtain rfl := Option.some.inj h
    obtain ⟨hbn, hbk⟩ := ho b B hB
    simp only [Rep] at hv
    obtain ⟨β, o, k, hp, em⟩ := hv
    rw [RepT_op] at ht
    obtain ⟨β', o', L', em2, rfl, hown, hte⟩ := ht
    rw [em] at em2
    have hinj := Option.some.inj (Value.pointer.inj em2)
    obtain ⟨rfl, rfl⟩ : β = β' ∧ o + 0 * k = o' := by
      injection hinj with g1 g2 g3; exact ⟨g1, g2⟩
    have hkk := hbk _ _ _ hp
    simp only [Nat.zero_mul, Nat.add_zero] at hte hown
    have c1 : Can φ St Mine s L' := ⟨(List.nodup_cons.1 c.nd).2, fun β hb => c.ns β (by simp [hb]), fun β hb => c.mi β (by simp [hb]), fun b B β o k h1 h2 h3 => c.fr b B β o k h1 h2 (by simp [h3])⟩
    obtain ⟨φ1, k1, p1, q1⟩ := (take_spec DEP).2 φ _ _ _ _ _ _ _ hts hte c1 q
    have hsz := take_size hts
    have hp1 : φ1 b = some (β, o, v1.size) := by rw [k1.ext b hbn, hsz, ← hBk, ← hkk]; exact hp
    have q2 := q1.revive (b := b) (es := [v1]) (by have := k1.nx; omega) hp1 (fun b' B' o' k' hB' hp' => by
      rcases (k1.bk q).new b' B' β o' k' hB' hp' with g | g
      · have hlt : b' < s.nx := by
          rcases Nat.lt_or_ge b' s.nx with g' | g'
          · exact g'
          · rw [q.bnd b' g'] at g; cases g
        rw [k1.ext b' hlt] at hp'
        exact c.fr b' B' β o' k' g hp' (by simp)
      · exact (List.nodup_cons.1 c.nd).1 g) (c.ns β (by simp)) (c.mi β (by simp)) (hown.mono (by simp [hsz])) (by simp) (fun i x hi => by
        cases i with
        | zero => obtain rfl : v1 = x := by simpa using hi
                  simpa using p1
        | succ i => simp at hi)
    have hdead : ∀ C, s.H b ≠ some C := fun C hC => c.fr b C β o k hC hp (by simp)
    refine ⟨φ1, ⟨k1.ext, k1.e, k1.nx, fun b' C hC => ?_, fun b' C β' o' k' hC hp' => ?_, k1.fz, fun b' C hC => ?_⟩, q2⟩
    · simp only [S.blk]
      rw [upd_ne _ _ (by rintro rfl; exact hdead _ hC)]
      exact (k1.bk q).old b' C hC
    · simp only [S.blk] at hC
      by_cases e : b' = b
      · subst e; rw [hp1] at hp'; cases hp'; exact .inr (by simp)
      · rw [upd_ne _ _ e] at hC
        rcases (k1.bk q).new b' C β' o' k' hC hp' with g | g
        · exact .inl g
        · exact .inr (by simp [g])
    · simp only [S.blk] at hC
      by_cases e : b' = b
      · subst e; rw [upd_same] at hC; obtain rfl := Option.some.inj hC; exact .inr rfl
      · rw [upd_ne _ _ e] at hC; exact (k1.bk q).fr b' C hC
  · split at h
    · exact same h
    · cases h
  · exact same h
  · exact same h
  · exact same h
  · exact same h
  · cases h

theorem backVs_spec {old : Nat → Option Blk} : ∀ (vs ts : List V) (φ : Phi) (ms : List Value) (L : List Nat) (s s1 : S), backVs old vs ts s = some s1 → RepL φ St w vs ms → RepTL St w ts ms L → Can φ St Mine s L → WR φ St Mine w s.H s.nx →
    OldOK φ old s.nx → ∃ φ', Bk φ φ' s s1 L ∧ WR φ' St Mine w s1.H s1.nx ∧ OldOK φ' old s1.nx
  | [], [], φ, ms, L, s, s1, h, _, _, _, q, ho => by
    simp only [backVs, Option.some.injEq] at h; subst h
    exact ⟨φ, Bk.refl _ _ _, q, ho⟩
  | [], t :: ts, φ, ms, L, s, s1, h, _, _, _, _, _ => by simp [backVs] at h
  | v :: vs, [], φ, ms, L, s, s1, h, _, _, _, _, _ => by simp [backVs] at h
  | v :: vs, t :: ts, φ, ms, L, s, s1, h, hv, ht, c, q, ho => by
    simp only [backVs] at h
    split at h
    case h_2 => cases h
    rename_i s2 h1
    simp only [RepL] at hv
    obtain ⟨m, ms', rfl, hv1, hv2⟩ := hv
    simp only [RepTL] at ht
    obtain ⟨_, _, L1, L2, e, rfl, ht1, ht2⟩ := ht
    cases e
    obtain ⟨φ1, k1, q1⟩ := backV_spec h1 hv1 ht1 c.left q ho
    have ho1 : OldOK φ1 old s2.nx := fun b B hB => by
      obtain ⟨g1, g2⟩ := ho b B hB
      exact ⟨by have := k1.nx; omega, fun β o k hp => g2 β o k (by rw [← k1.ext b g1]; exact hp)⟩
    have hv3 : RepL φ1 St w vs ms' := RepL.mono (k1.ext.some q) (fun _ h => h) (fun _ _ => rfl) (fun _ _ h => h) _ _ hv2
    obtain ⟨φ2, k2, q2, ho2⟩ := backVs_spec vs ts φ1 ms' L2 s2 s1 h hv3 ht2 (c.bk k1 q) q1 ho1
    exact ⟨φ2, k1.trans k2 q1 (by simp +contextual) (by simp +contextual), q2, ho2⟩

theorem back1_spec {old : Nat → Option Blk} {v t : V} {φ : Phi} {m : Value} {L : List Nat} {s s1 : S} (h : back1 old v t s = some s1) (hv : Rep φ St w v m) (ht : RepT St w t m L) (c : Can φ St Mine s L) (q : WR φ St Mine w s.H s.nx)
    (ho : OldOK φ old s.nx) : ∃ φ', Bk φ φ' s s1 L ∧ WR φ' St Mine w s1.H s1.nx ∧ OldOK φ' old s1.nx := by
  have lift : (∃ φ', Bk φ φ' s s1 L ∧ WR φ' St Mine w s1.H s1.nx) → ∃ φ', Bk φ φ' s s1 L ∧ WR φ' St Mine w s1.H s1.nx ∧ OldOK φ' old s1.nx := by
    rintro ⟨φ1, k1, q1⟩
    refine ⟨φ1, k1, q1, fun b B hB => ?_⟩
    obtain ⟨g1, g2⟩ := ho b B hB
    exact ⟨by have := k1.nx; omega, fun β o k hp => g2 β o k (by rw [← k1.ext b g1]; exact hp)⟩
  unfold back1 at h
  split at h
  · simp only [Rep] at hv
    obtain ⟨ms, e1, hv⟩ := hv
    simp only [RepT] at ht
    obtain ⟨ms2, e2, ht⟩ := ht
    rw [e1] at e2
    have e3 : ms = ms2 := by
      have := Value.agg.inj e2
      simpa using this
    subst e3
    exact backVs_spec _ _ φ ms L s s1 h hv ht c q ho
  · exact lift (backV_spec h hv ht c q ho)

theorem backL_spec {old : Nat → Option Blk} : ∀ (vs ts : List V) (φ : Phi) (ms : List Value) (L : List Nat) (s s1 : S), backL old vs ts s = some s1 → RepL φ St w vs ms → RepTL St w ts ms L → Can φ St Mine s L → WR φ St Mine w s.H s.nx →
    OldOK φ old s.nx → ∃ φ', Bk φ φ' s s1 L ∧ WR φ' St Mine w s1.H s1.nx ∧ OldOK φ' old s1.nx
  | [], [], φ, ms, L, s, s1, h, _, _, _, q, ho => by
    simp only [backL, Option.some.injEq] at h; subst h
    exact ⟨φ, Bk.refl _ _ _, q, ho⟩
  | [], t :: ts, φ, ms, L, s, s1, h, _, _, _, _, _ => by simp [backL] at h
  | v :: vs, [], φ, ms, L, s, s1, h, _, _, _, _, _ => by simp [backL] at h
  | v :: vs, t :: ts, φ, ms, L, s, s1, h, hv, ht, c, q, ho => by
    simp only [backL] at h
    split at h
    case h_2 => cases h
    rename_i s2 h1
    simp only [RepL] at hv
    obtain ⟨m, ms', rfl, hv1, hv2⟩ := hv
    simp only [RepTL] at ht
    obtain ⟨_, _, L1, L2, e, rfl, ht1, ht2⟩ := ht
    cases e
    obtain ⟨φ1, k1, q1, ho1⟩ := back1_spec h1 hv1 ht1 c.left q ho
    have hv3 : RepL φ1 St w vs ms' := RepL.mono (k1.ext.some q) (fun _ h => h) (fun _ _ => rfl) (fun _ _ h => h) _ _ hv2
    obtain ⟨φ2, k2, q2, ho2⟩ := backL_spec vs ts φ1 ms' L2 s2 s1 h hv3 ht2 (c.bk k1 q) q1 ho1
    exact ⟨φ2, k1.trans k2 q1 (by simp +contextual) (by simp +contextual), q2, ho2⟩

/-- Blocks that may be shared from now on: nobody writes them any more. -/
theorem WR.freeze {φ : Phi} {H : Nat → Option Blk} {nx : Nat} {rs : List Nat} (q : WR φ St Mine w H nx) (ha : ∀ b ∈ rs, ∃ B, H b = some B) :
    WR φ (fun β => St β ∨ β ∈ Lof φ rs) Mine w (Am.freeze H rs) nx := by
  have old : ∀ b B, Am.freeze H rs b = some B → (b ∈ rs ∧ ∃ C, H b = some C ∧ B = { C with fr := true }) ∨ (b ∉ rs ∧ H b = some B) := by
    intro b B h
    unfold Am.freeze at h
    split at h
    · rename_i hb
      obtain ⟨C, hC, rfl⟩ := Option.map_eq_some_iff.1 h
      exact .inl ⟨hb, C, hC, rfl⟩
    · rename_i hb
      exact .inr ⟨hb, h⟩
  have alive : ∀ b B, Am.freeze H rs b = some B → ∃ C, H b = some C ∧ C.k = B.k ∧ C.es = B.es := by
    intro b B h
    rcases old b B h with ⟨_, C, hC, rfl⟩ | ⟨_, hC⟩
    · exact ⟨C, hC, rfl, rfl⟩
    · exact ⟨B, hC, rfl, rfl⟩
  have mono : ∀ {β o k : Nat} {es : List V}, RepE φ St w β o k es → RepE φ (fun β => St β ∨ β ∈ Lof φ rs) w β o k es := fun h => RepE.mono (fun _ _ h => h) (fun _ h => .inl h) (fun _ _ => rfl) (fun _ _ h => h) (fun _ => rfl) h
  refine ⟨fun b hb => ?_, q.dom, fun b B hB => ?_, ?_, ?_, fun β hb => ?_, q.mine⟩
  · have := q.bnd b hb
    unfold Am.freeze
    split <;> simp [this]
  · rcases old b B hB with ⟨hbr, C, hC, rfl⟩ | ⟨hbr, hC⟩
    · rcases q.blk b C hC with ⟨h1, h2⟩ | ⟨β, o, h1, h2, h3, h4, h5, h6⟩
      · exact .inl ⟨h1, h2⟩
      · exact .inr ⟨β, o, h1, fun h => (by simp at h), fun _ => .inr (mem_Lof.2 ⟨b, hbr, o, _, h1⟩), h4, h5, mono h6⟩
    · rcases q.blk b B hC with ⟨h1, h2⟩ | ⟨β, o, h1, h2, h3, h4, h5, h6⟩
      · exact .inl ⟨h1, h2⟩
      · refine .inr ⟨β, o, h1, fun hf => ?_, fun hf => .inl (h3 hf), h4, h5, mono h6⟩
        rintro (h | h)
        · exact h2 hf h
        · obtain ⟨b', hb', o', k', hp'⟩ := mem_Lof.1 h
          obtain ⟨B', hB'⟩ := ha b' hb'
          have := q.inj b b' B B' β o B.k o' k' hC hB' h1 hp'
          subst this
          exact hbr hb'
  · intro b b' B B' β o k o' k' h1 h2 p1 p2
    obtain ⟨C, hC, _⟩ := alive b B h1
    obtain ⟨C', hC', _⟩ := alive b' B' h2
    exact q.inj b b' C C' β o k o' k' hC hC' p1 p2
  · intro b B β o k h1 p1
    obtain ⟨C, hC, _⟩ := alive b B h1
    exact q.own b C β o k hC p1
  · rcases hb with hb | hb
    · exact q.stB β hb
    · obtain ⟨b, hb, o, k, hp⟩ := mem_Lof.1 hb
      obtain ⟨B, hB⟩ := ha b hb
      rcases q.blk b B hB with ⟨_, h2⟩ | ⟨β', o', h1, _, _, h4, _⟩
      · rw [h2] at hp; cases hp
      · rw [h1] at hp; cases hp; exact h4.lt

end Go.Am

/- The A-machine, part 16: calls. -/
namespace Go.Am
variable {P : Program} {St Mine : Nat → Prop} {w : World}

/-- What a call on trees comes to in the machine: from any world in which the arguments read so, the function returns what reads as the result; nothing that was there has turned but what was handed over. -/
def IsoOK (P : Program) (f : Nat) (ms : List M) (args : List V) (res : V) (us : List V) : Prop :=
  ∀ (w : World) (St : Nat → Prop) (vals : List Value) (L : List Nat), RepTL St w args vals L → L.Nodup → (∀ β ∈ L, ¬ St β ∧ β < w.heap.size) → (∀ β, St β → β < w.heap.size) →
    Calls P f vals.toArray w fun e w' => ∃ m L1 L2, e = .returned m ∧ Stp St (fun β => β ∈ L ∨ w.heap.size ≤ β) w w' ∧ RepT St w' res m L1 ∧ RepTL St w' us (lent ms vals) L2 ∧
      (L1 ++ L2).Nodup ∧ ∀ β ∈ L1 ++ L2, ¬ St β ∧ (β ∈ L ∨ w.heap.size ≤ β) ∧ β < w'.heap.size

/-- A function that has a body of Go. -/
def Ent (P : Program) (f : Nat) : Prop := ∃ fn, P.funcs[f]? = some fn ∧ (fn.name == "runtime.NumGoroutine") = false ∧ fn.body.isNone = false

structure EnvOK (P : Program) (Γ : Env) : Prop where
  tab : ∀ f F, Γ.T f = some F → Am.tab P Γ.md f = some F
  pr : ∀ f p ms args r us, Γ.pr f = some p → Γ.md f = some ms → p args = some (r, us) → IsoOK P f ms args r us ∧ Ent P f
  mixed : P.follows .mixedOrders = true

theorem run_callFunc {f : Nat} (h : Ent P f) (args : Array Value) (w : World) : (callFunc f args).run P w = .ok (.enter f args) w := by
  obtain ⟨fn, h1, h2, h3⟩ := h
  unfold callFunc
  rw [run_bind]
  simp only [program, Sem.run, h1, h2, h3, Bool.false_eq_true, if_false]
  rfl

/-- From one state of a frame to a later one. -/
structure Goes (φ φ' : Phi) (St St' Mine : Nat → Prop) (w w' : World) (s s' : S) : Prop where
  wr : WR φ' St' Mine w' s'.H s'.nx
  ext : Ext φ φ' s.nx
  nx : s.nx ≤ s'.nx
  st : ∀ β, St β → St' β
  stp : Stp St Mine w w'
  fz : s.fz = true → s'.fz = true
  nf : s'.fz = false → ∀ β, St' β → St β

theorem Goes.refl {φ : Phi} {s : S} (q : WR φ St Mine w s.H s.nx) : Goes φ φ St St Mine w w s s := ⟨q, Ext.refl _ _, Nat.le_refl _, fun _ h => h, Stp.refl _ _ _, fun h => h, fun _ _ h => h⟩
theorem Goes.trans {φ φ1 φ2 : Phi} {St1 St2 : Nat → Prop} {w1 w2 : World} {s s1 s2 : S} (h : Goes φ φ1 St St1 Mine w w1 s s1) (k : Goes φ1 φ2 St1 St2 Mine w1 w2 s1 s2) : Goes φ φ2 St St2 Mine w w2 s s2 :=
  ⟨k.wr, h.ext.trans k.ext h.nx, Nat.le_trans h.nx k.nx, fun β hb => k.st β (h.st β hb), h.stp.trans h.st k.stp, fun g => k.fz (h.fz g), fun g β hb => h.nf (by
    cases e : s1.fz with
    | false => rfl
    | true => rw [k.fz e] at g; cases g) β (k.nf g β hb)⟩
theorem Goes.env {φ φ' : Phi} {St' : Nat → Prop} {w' : World} {s s' : S} (h : Goes φ φ' St St' Mine w w' s s') (q : WR φ St Mine w s.H s.nx) {e : Nat → V} {tmps : Array Value} (r : EnvR φ St w e tmps) : EnvR φ' St' w' e tmps :=
  r.mono (h.ext.some q) h.st h.stp.stab h.stp.room
theorem Goes.rep {φ φ' : Phi} {St' : Nat → Prop} {w' : World} {s s' : S} (h : Goes φ φ' St St' Mine w w' s s') (q : WR φ St Mine w s.H s.nx) {v : V} {m : Value} (r : Rep φ St w v m) : Rep φ' St' w' v m :=
  Rep.mono (h.ext.some q) h.st h.stp.stab h.stp.room v m r
theorem Goes.of_op {φ : Phi} {s s' : S} {v : V} {m : Value} {w' : World} {φ' : Phi} (h3 : WR φ' St Mine w' s'.H s'.nx) (h5 : Ext φ φ' s.nx) (h6 : s.nx ≤ s'.nx) (h7 : Stp St Mine w w') (hf : s'.fz = s.fz) : Goes φ φ' St St Mine w w' s s' :=
  ⟨h3, h5, h6, fun _ h => h, h7, fun g => by rw [hf]; exact g, fun _ _ h => h⟩

theorem EnvR.put {φ : Phi} {e : Nat → V} {tmps : Array Value} (r : EnvR φ St w e tmps) {d : Nat} (hd : d < tmps.size) {v : V} {m : Value} (h : Rep φ St w v m) : EnvR φ St w (upd e d v) (tmps.setIfInBounds d m) := by
  intro t
  by_cases ht : t = d
  · subst ht
    rw [upd_same]
    simpa [Array.getD_eq_getD_getElem?, hd] using h
  · rw [upd_ne _ _ ht]
    have := r t
    simpa [Array.getD_eq_getD_getElem?, Array.getElem?_setIfInBounds_ne (Ne.symm ht)] using this

/-- What a piece of code comes to. -/
def Post (φ : Phi) (St Mine : Nat → Prop) (w : World) (s : S) (a : Act) (r : R) : Exit → Act → World → Prop := fun e a' w' =>
  match r, e with
  | .n s', .normal | .r s', .ret => ∃ φ' St', Goes φ φ' St St' Mine w w' s s' ∧ EnvR φ' St' w' s'.e a'.tmps ∧ a'.tmps.size = a.tmps.size ∧ a'.defers = a.defers
  | .x i s', .exit j => i = j ∧ ∃ φ' St', Goes φ φ' St St' Mine w w' s s' ∧ EnvR φ' St' w' s'.e a'.tmps ∧ a'.tmps.size = a.tmps.size ∧ a'.defers = a.defers
  | _, _ => False

/-- All that the evaluation with fuel k says of code is so in the machine. -/
def ExOK (P : Program) (Γ : Env) (k : Nat) : Prop :=
  ∀ (c : Code) (s : S) (r : R) (φ : Phi) (St Mine : Nat → Prop) (w : World) (a : Act), ex Γ k (compC P Γ.md c) s = some r → dstsOk a.tmps.size (compC P Γ.md c) = true →
    WR φ St Mine w s.H s.nx → EnvR φ St w s.e a.tmps → c.wp P (Post φ St Mine w s a r) a w

theorem env_of {φ : Phi} {vs : List V} {ms : List Value} (r : RepL φ St w vs ms) (n : Nat) : EnvR φ St w (envOf vs) (ms.toArray ++ Array.replicate n undef) := by
  intro t
  unfold envOf
  rw [List.getD_eq_getElem?_getD, Array.getD_eq_getD_getElem?]
  rw [RepL_iff] at r
  by_cases ht : t < vs.length
  · obtain ⟨m, hm, hr⟩ := r.2 t _ (List.getElem?_eq_getElem ht)
    rw [List.getElem?_eq_getElem ht]
    rw [Array.getElem?_append_left (by simpa using (List.getElem?_eq_some_iff.1 hm).1)]
    simpa [hm] using hr
  · rw [List.getElem?_eq_none (by omega)]
    rw [Array.getElem?_append_right (by simp; omega)]
    simp only [Option.getD_none]
    rw [Array.getElem?_replicate]
    split <;> simp [Rep, undef]

def rvM (tmps : Array Value) : ResultVar → Sem Value
  | .tmp t => pure (tmps.getD t undef)
  | .cell a t => do loadVar t (← asAddr (tmps.getD a undef))

theorem results_eq (fn : Func) (tmps : Array Value) : results fn tmps = (do let vs ← fn.results.mapM (rvM tmps); pure (if h : vs.size = 1 then vs[0] else .tuple vs)) := by
  unfold results
  congr 2

/-- The results of a frame. -/
theorem results_spec {φ : Phi} {s : S} {rs : List (Nat × Option (Option Nat))} {fn : Func} (hrs : fn.results.toList.mapM (compR P) = some rs) {v : V} (hv : resOf s rs = some v) (q : WR φ St Mine w s.H s.nx) {tmps : Array Value} (r : EnvR φ St w s.e tmps) :
    ∃ m, (results fn tmps).run P w = .ok m w ∧ Rep φ St w v m := by
  have lst : ∀ (l : List ResultVar) (rs : List (Nat × Option (Option Nat))) (vs : List V), l.mapM (compR P) = some rs → resL s rs = some vs →
      ∃ ms : List Value, (l.mapM (rvM tmps)).run P w = .ok ms w ∧ RepL φ St w vs ms := by
    intro l
    induction l with
    | nil =>
      intro rs vs h1 h2
      simp at h1; subst h1
      simp only [resL, Option.some.injEq] at h2; subst h2
      exact ⟨[], rfl, by simp [RepL]⟩
    | cons x l ih =>
      intro rs vs h1 h2
      simp only [List.mapM_cons, Option.bind_eq_bind, Option.pure_def] at h1
      obtain ⟨y, hy, h1⟩ := Option.bind_eq_some_iff.1 h1
      obtain ⟨ys, hys, h1⟩ := Option.bind_eq_some_iff.1 h1
      obtain rfl := Option.some.inj h1
      simp only [resL] at h2
      split at h2
      case h_2 => cases h2
      rename_i v0 vs0 hv0 hvs0
      obtain rfl := Option.some.inj h2
      obtain ⟨ms, h3, h4⟩ := ih ys vs0 hys hvs0
      have hx : ∃ m, (rvM tmps x).run P w = .ok m w ∧ Rep φ St w v0 m := by
        cases x with
        | tmp t =>
          simp only [compR, Option.some.injEq] at hy; subst hy
          simp only [resV, Option.some.injEq] at hv0; subst hv0
          exact ⟨_, rfl, r t⟩
        | cell a t =>
          simp only [compR, Option.map_eq_some_iff] at hy
          obtain ⟨qq, hq, rfl⟩ := hy
          simp only [resV] at hv0
          split at hv0
          case h_2 => cases hv0
          rename_i u hu
          split at hv0
          case isFalse => cases hv0
          rename_i hf
          obtain rfl := Option.some.inj hv0
          obtain ⟨β, off, e, hr⟩ := deref_spec q (r a) hu
          obtain ⟨m, hm, hrep⟩ := run_loadVar hq hf hr
          refine ⟨m, ?_, hrep⟩
          simp only [rvM, e, asAddr, pure_bind]
          exact hm
      obtain ⟨m, h5, h6⟩ := hx
      refine ⟨m :: ms, ?_, by simp only [RepL]; exact ⟨m, ms, rfl, h6, h4⟩⟩
      simp only [List.mapM_cons]
      rw [run_bind, h5]
      simp only
      rw [run_bind, h3]
      rfl
  unfold resOf at hv
  have key : ∃ vs, resL s rs = some vs := by
    split at hv
    · rename_i h; exact ⟨_, h⟩
    · rename_i h; exact ⟨_, h⟩
    · cases hv
  obtain ⟨vs, hvs⟩ := key
  obtain ⟨ms, h1, h2⟩ := lst _ _ _ hrs hvs
  rw [hvs] at hv
  have hrun : (results fn tmps).run P w = .ok (if h : ms.toArray.size = 1 then ms.toArray[0] else .tuple ms.toArray) w := by
    rw [results_eq, run_bind, Array.mapM_eq_mapM_toList]
    rw [← bind_pure_comp, run_bind, h1]
    rfl
  rw [hrun]
  refine ⟨_, rfl, ?_⟩
  split at hv
  · rename_i v1 hh
    obtain rfl := Option.some.inj hh
    obtain rfl := Option.some.inj hv
    simp only [RepL] at h2
    obtain ⟨m, _, rfl, h3, rfl⟩ := h2
    simpa using h3
  · rename_i vs1 hne hh
    obtain rfl := Option.some.inj hh
    obtain rfl := Option.some.inj hv
    have hl := h2.len
    rw [dif_neg]
    · simp only [Rep]; exact ⟨ms, rfl, h2⟩
    · intro h1'
      have : vs.length = 1 := by rw [hl]; simpa using h1'
      match vs, this with
      | [v1], _ => exact hne v1 rfl
  · cases hv

/-! ### A call on trees -/

theorem lent_rep {φ : Phi} : ∀ {ms : List M} {vs : List V} {vals : List Value}, RepL φ St w vs vals → RepL φ St w (lent ms vs) (lent ms vals)
  | ms, [], vals, r => by simp only [RepL] at r; subst r; simp [lent, RepL]
  | ms, v :: vs, vals, r => by
    simp only [RepL] at r
    obtain ⟨m, vals', rfl, r1, r2⟩ := r
    simp only [lent]
    split
    · simp only [RepL]; exact ⟨m, _, rfl, r1, lent_rep r2⟩
    · exact lent_rep r2

theorem give_lst {φ : Phi} {H : Nat → Option Blk} {nx : Nat} (q : WR φ St Mine w H nx) : ∀ (cs ts : List V) (ms : List Value) (ids : List Nat), overL (give DEP H) cs = some (ts, ids) → RepL φ St w cs ms → RepTL St w ts ms (Lof φ ids)
  | [], ts, ms, ids, h, r => by
    simp only [overL, Option.some.injEq, Prod.mk.injEq] at h
    obtain ⟨rfl, rfl⟩ := h
    simp only [RepL] at r
    subst r
    simp [RepTL, Lof]
  | c :: cs, ts, ms, ids, h, r => by
    obtain ⟨t, ts', i, j, h1, h2, rfl, rfl⟩ := overL_cons h
    simp only [RepL] at r
    obtain ⟨m, ms', rfl, r1, r2⟩ := r
    simp only [RepTL]
    exact ⟨m, ms', _, _, rfl, Lof_append _ _ _, (give_spec q DEP).1 _ _ _ _ h1 r1, give_lst q cs _ _ _ h2 r2⟩

theorem take_lst : ∀ (ts vs : List V) (φ : Phi) (ms : List Value) (L : List Nat) (s s1 : S), takeL (takeIn DEP) ts s = some (vs, s1) → RepTL St w ts ms L → Can φ St Mine s L → WR φ St Mine w s.H s.nx →
    ∃ φ', Tk φ φ' s s1 L ∧ RepL φ' St w vs ms ∧ WR φ' St Mine w s1.H s1.nx
  | [], vs, φ, ms, L, s, s1, h, r, c, q => by
    simp only [takeL, Option.some.injEq, Prod.mk.injEq] at h
    obtain ⟨rfl, rfl⟩ := h
    simp only [RepTL] at r
    obtain ⟨rfl, rfl⟩ := r
    exact ⟨φ, Tk.refl q rfl _, by simp [RepL], q⟩
  | t :: ts, vs, φ, ms, L, s, s2, h, r, c, q => by
    obtain ⟨v, vs', s1, h1, h2, rfl⟩ := takeL_cons h
    simp only [RepTL] at r
    obtain ⟨m, ms', L1, L2, rfl, rfl, r1, r2⟩ := r
    obtain ⟨φ1, k1, p1, q1⟩ := (take_spec DEP).1 φ _ _ _ _ _ _ h1 r1 c.left q
    obtain ⟨φ2, k2, p2, q2⟩ := take_lst ts _ φ1 _ _ _ _ h2 r2 (c.right k1 q rfl) q1
    refine ⟨φ2, k1.trans k2 (by simp +contextual) (by simp +contextual), ?_, q2⟩
    simp only [RepL]
    exact ⟨m, ms', rfl, mono_same (k2.some q1) p1, p2⟩

theorem mapM_results {P : Program} {fn : Func} {F : F} {md : Nat → Option (List M)} (h : compF P md fn = some F) : ∃ c, fn.body = some c ∧ F.body = compC P md c ∧ fn.results.toList.mapM (compR P) = some F.res ∧
    (fn.name == "runtime.NumGoroutine") = false ∧ dstsOk fn.ntmps F.body = true ∧ F.np ≤ fn.ntmps := by
  unfold compF at h
  split at h
  · rename_i c rs hb hr
    split at h
    · rename_i hc
      obtain rfl := Option.some.inj h
      exact ⟨c, hb, rfl, hr, hc.1, hc.2.1, hc.2.2⟩
    · cases h
  · cases h

/-- A frame is entered, runs, and is left. -/
theorem frame_run {Γ : Env} {k f : Nat} {F : F} (hk : ExOK P Γ k) (hT : Am.tab P Γ.md f = some F) {φ : Phi} {vs : List V} {vals : List Value} {s0 : S} (he : s0.e = envOf vs) (hn : vs.length = F.np) (hr : RepL φ St w vs vals)
    (q : WR φ St Mine w s0.H s0.nx) {s1 : S} (hx : ex Γ k F.body s0 = some (.n s1) ∨ ex Γ k F.body s0 = some (.r s1)) {v : V} (hv : resOf s1 F.res = some v) :
    Calls P f vals.toArray w (fun e w' => ∃ m φ' St', e = .returned m ∧ Goes φ φ' St St' Mine w w' s0 s1 ∧ Rep φ' St' w' v m) ∧ Ent P f := by
  unfold Am.tab at hT
  obtain ⟨fn, hfn, hcomp⟩ := Option.bind_eq_some_iff.1 hT
  obtain ⟨c, hb, hbody, hres, hname, hd, hnp⟩ := mapM_results hcomp
  refine ⟨?_, fn, hfn, hname, by rw [hb]; rfl⟩
  refine calls_of_wp hfn hb ?_
  have hlen : vals.length = F.np := by rw [← hr.len, hn]
  let a : Act := { tmps := vals.toArray ++ Array.replicate (fn.ntmps - vals.toArray.size) undef, defers := [] }
  have hsz : a.tmps.size = fn.ntmps := by simp [a, hlen]; omega
  have env : EnvR φ St w s0.e a.tmps := by rw [he]; exact env_of hr _
  rw [hbody] at hx hd
  have fin : ∀ (a' : Act) (w' : World), (∃ φ' St', Goes φ φ' St St' Mine w w' s0 s1 ∧ EnvR φ' St' w' s1.e a'.tmps ∧ a'.tmps.size = a.tmps.size ∧ a'.defers = a.defers) →
      a'.defers = [] ∧ ∃ m, (results fn a'.tmps).run P w' = .ok m w' ∧ ∃ m' φ' St', Ending.returned m = .returned m' ∧ Goes φ φ' St St' Mine w w' s0 s1 ∧ Rep φ' St' w' v m' := by
    rintro a' w' ⟨φ', St', g, henv, _, hdf⟩
    obtain ⟨m, hm, hrep⟩ := results_spec hres hv g.wr henv
    exact ⟨hdf, m, hm, m, φ', St', rfl, g, hrep⟩
  rcases hx with hx | hx
  · refine Code.wp_mono ?_ (hk c s0 _ φ St Mine w a hx (by rw [hsz]; exact hd) q env)
    intro e a' w' hp
    cases e with
    | normal => exact fin a' w' hp
    | _ => exact hp.elim
  · refine Code.wp_mono ?_ (hk c s0 _ φ St Mine w a hx (by rw [hsz]; exact hd) q env)
    intro e a' w' hp
    cases e with
    | ret => exact fin a' w' hp
    | _ => exact hp.elim

/-- The call of a function on trees: what its code comes to. -/
theorem iso_sound {Γ : Env} (hΓ : EnvOK P Γ) {k f : Nat} (hk : ExOK P Γ k) {ms : List M} (hmd : Γ.md f = some ms) {args : List V} {res : V} {us : List V} (h : isoCall Γ (ex Γ k) f ms args = some (res, us)) : IsoOK P f ms args res us ∧ Ent P f := by
  unfold isoCall at h
  split at h
  · rename_i p hp
    exact hΓ.pr f p ms args res us hp hmd h
  split at h
  case h_2 => cases h
  rename_i F hF
  split at h
  case isFalse => cases h
  rename_i hnp
  split at h
  case h_2 => cases h
  rename_i vals0 s0 htake
  have core : ∀ s1, (ex Γ k F.body { e := envOf vals0, H := s0.H, nx := s0.nx } = some (.n s1) ∨ ex Γ k F.body { e := envOf vals0, H := s0.H, nx := s0.nx } = some (.r s1)) →
      (match resOf s1 F.res with
        | some v =>
          match give DEP s1.H v, overL (give DEP s1.H) (lent ms vals0) with
          | some (t, i), some (ts, j) => if (i ++ j).Nodup ∧ (s1.fz = false ∨ (free DEP t = true ∧ allL (free DEP) ts = true)) then some (t, ts) else none
          | _, _ => none
        | none => none) = some (res, us) → IsoOK P f ms args res us ∧ Ent P f := by
    intro s1 hx h
    split at h
    case h_2 => cases h
    rename_i v hv
    split at h
    case h_2 => cases h
    rename_i t i ts j hgt hgts
    split at h
    case isFalse => cases h
    rename_i hcond
    obtain ⟨hnd, hfz⟩ := hcond
    obtain ⟨rfl, rfl⟩ := Prod.mk.inj (Option.some.inj h)
    have ent : Ent P f := by
      have hT := hΓ.tab f F hF
      unfold Am.tab at hT
      obtain ⟨fn, hfn, hcomp⟩ := Option.bind_eq_some_iff.1 hT
      obtain ⟨c, hb, _, _, hname, _, _⟩ := mapM_results hcomp
      exact ⟨fn, hfn, hname, by rw [hb]; rfl⟩
    refine ⟨?_, ent⟩
    intro w St vals L hargs hLn hL hSt
    -- the arguments become blocks of the frame
    let Mine : Nat → Prop := fun β => β ∈ L ∨ w.heap.size ≤ β
    let φ0 : Phi := fun _ => none
    let z : S := { e := fun _ => .un, H := fun _ => none, nx := 0 }
    have q0 : WR φ0 St Mine w z.H z.nx := ⟨fun _ _ => rfl, fun _ _ => rfl, fun b B hB => (by cases hB), fun _ _ _ _ _ _ _ _ _ hB => (by cases hB), fun _ _ _ _ _ hB => (by cases hB), hSt, fun β hb => .inr hb⟩
    have c0 : Can φ0 St Mine z L := ⟨hLn, fun β hb => (hL β hb).1, fun β hb => .inl hb, fun _ _ _ _ _ hB => (by cases hB)⟩
    obtain ⟨φ1, k1, p1, q1⟩ := take_lst args vals0 φ0 vals L z s0 htake hargs c0 q0
    have hlen : vals0.length = F.np := by rw [takeL_len htake]; exact hnp
    obtain ⟨hcall, _⟩ := frame_run (s0 := { e := envOf vals0, H := s0.H, nx := s0.nx }) hk (hΓ.tab f F hF) rfl hlen p1 q1 hx hv
    refine hcall.mono ?_
    rintro e w' ⟨m, φ2, St2, rfl, g, hrep⟩
    have p2 : RepL φ2 St2 w' vals0 vals := RepL.mono (g.ext.some q1) g.st g.stp.stab g.stp.room _ _ p1
    have r1 : RepT St2 w' t m (Lof φ2 i) := (give_spec g.wr DEP).1 _ _ _ _ hgt hrep
    have r2 : RepTL St2 w' ts (lent ms vals) (Lof φ2 j) := give_lst g.wr _ _ _ _ hgts (lent_rep p2)
    have alive : ∀ b ∈ i ++ j, ∃ B, s1.H b = some B := by
      have hov : ∀ (cs ts : List V) (ids : List Nat), overL (give DEP s1.H) cs = some (ts, ids) → ∀ b ∈ ids, ∃ B, s1.H b = some B := by
        intro cs
        induction cs with
        | nil => intro ts ids h; simp only [overL, Option.some.injEq, Prod.mk.injEq] at h; obtain ⟨_, rfl⟩ := h; simp
        | cons c cs ih =>
          intro ts ids h
          obtain ⟨t, ts', i, j, h1, h2, rfl, rfl⟩ := overL_cons h
          intro b hb
          rcases List.mem_append.1 hb with hb | hb
          · exact give_alive _ _ _ _ h1 b hb
          · exact ih _ _ h2 b hb
      intro b hb
      rcases List.mem_append.1 hb with hb | hb
      · exact give_alive _ _ _ _ hgt b hb
      · exact hov _ _ _ hgts b hb
    have mem : ∀ β ∈ Lof φ2 i ++ Lof φ2 j, Mine β ∧ β < w'.heap.size := by
      intro β hb
      rw [← Lof_append] at hb
      obtain ⟨b, hb, o, kk, hp⟩ := mem_Lof.1 hb
      obtain ⟨B, hB⟩ := alive b hb
      refine ⟨g.wr.own b B β o kk hB hp, ?_⟩
      rcases g.wr.blk b B hB with ⟨_, h2⟩ | ⟨β', o', h1, _, _, h4, _⟩
      · rw [h2] at hp; cases hp
      · rw [h1] at hp; cases hp; exact h4.lt
    refine ⟨m, Lof φ2 i, Lof φ2 j, rfl, g.stp, ?_, ?_, ?_, fun β hb => ⟨?_, (mem β hb).1, (mem β hb).2⟩⟩
    · rcases hfz with hfz | hfz
      · exact RepT.st (g.nf hfz) _ _ _ r1
      · exact (free_spec DEP).1 _ _ _ hfz.1 r1
    · rcases hfz with hfz | hfz
      · exact RepTL.st (g.nf hfz) _ _ _ r2
      · exact free_list _ _ _ hfz.2 r2
    · rw [← Lof_append]; exact Lof_nodup g.wr hnd alive
    · intro hs
      rcases (mem β hb).1 with hm | hm
      · exact (hL β hm).1 hs
      · exact absurd (hSt β hs) (by omega)
  split at h
  · rename_i s1 hx; exact core s1 (.inl hx) h
  · rename_i s1 hx; exact core s1 (.inr hx) h
  · cases h

/-! ### A call out of a frame -/

theorem Stp.weaken {St1 St2 M1 M2 : Nat → Prop} {w' : World} (h : Stp St1 M1 w w') (hS : ∀ β, St2 β → St1 β) (hM : ∀ β, β < w.heap.size → M1 β → M2 β) : Stp St2 M2 w w' :=
  ⟨h.os, h.tape, h.output, h.size, fun β hb hm => h.keep β hb fun h1 => hm (hM β hb h1), fun β hb => h.stab β (hS β hb), h.room⟩

/-- What a function value calls. -/
def fnOf : V → Option (Nat × List V)
  | .cl f caps => some (f, caps)
  | .im (.func (.func f) first caps) => if first = #[] ∧ caps = #[] then some (f, []) else none
  | _ => none

theorem callV_eq (Γ : Env) (exk : C → S → Option R) (fv : V) (args : List V) (s : S) : callV Γ exk fv args s = match fnOf fv with
    | none => none
    | some (f, caps) =>
      match Γ.md f with
      | none =>
        match Γ.T f with
        | some F =>
          if (args ++ caps).length = F.np then
            match exk F.body { s with e := envOf (args ++ caps) } with
            | some (.n s1) | some (.r s1) =>
              match resOf s1 F.res with
              | some v => some (v, { s with H := s1.H, nx := s1.nx, fz := s1.fz })
              | none => none
            | _ => none
          else none
        | none => none
      | some ms =>
        match handL s.H ms (args ++ caps) with
        | some (ts, rs, os) =>
          if os.Nodup ∧ (∀ b ∈ os, b ∉ rs) ∧ os.all (fun b => match s.H b with | some B => !B.fr | none => true) = true then
            match isoCall Γ exk f ms ts with
            | some (t, us) =>
              match backL s.H (lent ms (args ++ caps)) us (if free DEP t = true ∧ allL (free DEP) us = true then s.mem (kill s.H os) else { s with H := freeze (kill s.H os) rs, fz := s.fz || !rs.isEmpty }) with
              | some s1 => takeIn DEP t s1
              | none => none
            | none => none
          else none
        | none => none := by
  unfold callV fnOf
  cases fv <;> rfl

theorem RepL.append {φ : Phi} : ∀ {vs us : List V} {ms ns : List Value}, RepL φ St w vs ms → RepL φ St w us ns → RepL φ St w (vs ++ us) (ms ++ ns)
  | [], us, ms, ns, h, k => by simp only [RepL] at h; subst h; exact k
  | v :: vs, us, ms, ns, h, k => by
    simp only [RepL] at h
    obtain ⟨m, ms', rfl, h1, h2⟩ := h
    simp only [List.cons_append, RepL]
    exact ⟨m, _, rfl, h1, h2.append k⟩

theorem fnOf_spec {φ : Phi} {fv : V} {fm : Value} {f : Nat} {caps : List V} (h : fnOf fv = some (f, caps)) (r : Rep φ St w fv fm) : ∃ cms : List Value, fm = .func (.func f) #[] cms.toArray ∧ RepL φ St w caps cms := by
  unfold fnOf at h
  split at h
  · obtain ⟨rfl, rfl⟩ := Prod.mk.inj (Option.some.inj h)
    simpa only [Rep] using r
  · split at h
    · rename_i hc
      obtain ⟨rfl, rfl⟩ := Prod.mk.inj (Option.some.inj h)
      obtain ⟨rfl, rfl⟩ := hc
      simp only [Rep] at r
      exact ⟨[], r, by simp [RepL]⟩
    · cases h
  · cases h

theorem take_e : ∀ (d : Nat) (t v : V) (s s1 : S), takeIn d t s = some (v, s1) → s1.e = s.e
  | 0, _, _, _, _, h => by simp [takeIn] at h
  | d + 1, t, v, s, s1, h => by
    have lst : ∀ (ts vs : List V) (s s1 : S), takeL (takeIn d) ts s = some (vs, s1) → s1.e = s.e := by
      intro ts
      induction ts with
      | nil => intro vs s s1 h; simp only [takeL, Option.some.injEq, Prod.mk.injEq] at h; rw [h.2]
      | cons t ts ih =>
        intro vs s s2 h
        obtain ⟨v, vs', s1, h1, h2, rfl⟩ := takeL_cons h
        rw [ih _ _ _ h2, take_e d _ _ _ _ h1]
    cases t <;> simp only [takeIn] at h
    case st cs => split at h
                  · rename_i hts; obtain ⟨_, rfl⟩ := Prod.mk.inj (Option.some.inj h); exact lst _ _ _ _ hts
                  · cases h
    case tu cs => split at h
                  · rename_i hts; obtain ⟨_, rfl⟩ := Prod.mk.inj (Option.some.inj h); exact lst _ _ _ _ hts
                  · cases h
    case cl f cs => split at h
                    · rename_i hts; obtain ⟨_, rfl⟩ := Prod.mk.inj (Option.some.inj h); exact lst _ _ _ _ hts
                    · cases h
    case ow k cs => split at h
                    · rename_i hts; obtain ⟨_, rfl⟩ := Prod.mk.inj (Option.some.inj h); have := lst _ _ _ _ hts; simpa [S.new] using this
                    · cases h
    case op v0 => split at h
                  · rename_i hts; obtain ⟨_, rfl⟩ := Prod.mk.inj (Option.some.inj h); have := take_e d _ _ _ _ hts; simpa [S.new] using this
                  · cases h
    case im x => obtain ⟨_, rfl⟩ := Prod.mk.inj (Option.some.inj h); rfl
    case sl x => obtain ⟨_, rfl⟩ := Prod.mk.inj (Option.some.inj h); rfl
    case rp x => obtain ⟨_, rfl⟩ := Prod.mk.inj (Option.some.inj h); rfl
    case e0 => obtain ⟨_, rfl⟩ := Prod.mk.inj (Option.some.inj h); rfl
    all_goals cases h

theorem takeL_e {d : Nat} : ∀ (ts vs : List V) (s s1 : S), takeL (takeIn d) ts s = some (vs, s1) → s1.e = s.e
  | [], vs, s, s1, h => by simp only [takeL, Option.some.injEq, Prod.mk.injEq] at h; rw [h.2]
  | t :: ts, vs, s, s2, h => by
    obtain ⟨v, vs', s1, h1, h2, rfl⟩ := takeL_cons h
    rw [takeL_e _ _ _ _ h2, take_e d _ _ _ _ h1]

theorem backV_e {old : Nat → Option Blk} {v t : V} {s s1 : S} (h : backV old v t s = some s1) : s1.e = s.e := by
  unfold backV at h
  split at h
  · split at h
    · split at h
      · obtain rfl := Option.some.inj h; rfl
      · cases h
    split at h <;> try (cases h; done)
    split at h <;> try (cases h; done)
    split at h <;> try (cases h; done)
    rename_i hts
    obtain rfl := Option.some.inj h
    have := takeL_e _ _ _ _ hts
    simpa [S.blk] using this
  · split at h <;> try (cases h; done)
    split at h <;> try (cases h; done)
    split at h <;> try (cases h; done)
    rename_i hts
    obtain rfl := Option.some.inj h
    have := take_e _ _ _ _ _ hts
    simpa [S.blk] using this
  · split at h
    · obtain rfl := Option.some.inj h; rfl
    · cases h
  all_goals first | (obtain rfl := Option.some.inj h; rfl) | cases h

theorem backVs_e {old : Nat → Option Blk} : ∀ (vs ts : List V) (s s1 : S), backVs old vs ts s = some s1 → s1.e = s.e
  | [], [], s, s1, h => by simp only [backVs, Option.some.injEq] at h; rw [h]
  | [], t :: ts, s, s1, h => by simp [backVs] at h
  | v :: vs, [], s, s1, h => by simp [backVs] at h
  | v :: vs, t :: ts, s, s1, h => by
    simp only [backVs] at h
    split at h
    · rename_i h1; rw [backVs_e vs ts _ _ h, backV_e h1]
    · cases h

theorem backL_e {old : Nat → Option Blk} : ∀ (vs ts : List V) (s s1 : S), backL old vs ts s = some s1 → s1.e = s.e
  | [], [], s, s1, h => by simp only [backL, Option.some.injEq] at h; rw [h]
  | [], t :: ts, s, s1, h => by simp [backL] at h
  | v :: vs, [], s, s1, h => by simp [backL] at h
  | v :: vs, t :: ts, s, s1, h => by
    simp only [backL] at h
    split at h
    · rename_i h1
      rw [backL_e vs ts _ _ h]
      unfold back1 at h1
      split at h1
      · exact backVs_e _ _ _ _ h1
      · exact backV_e h1
    · cases h

/-- **A call out of a frame.** -/
theorem callV_sound {Γ : Env} (hΓ : EnvOK P Γ) {k : Nat} (hk : ExOK P Γ k) {φ : Phi} {fv : V} {args : List V} {fm : Value} {ams : List Value} {s s' : S} {v : V} (h : callV Γ (ex Γ k) fv args s = some (v, s'))
    (q : WR φ St Mine w s.H s.nx) (rf : Rep φ St w fv fm) (ra : RepL φ St w args ams) :
    ∃ (f : Nat) (cms : List Value), fm = .func (.func f) #[] cms.toArray ∧ Ent P f ∧ s'.e = s.e ∧
      Calls P f (ams ++ cms).toArray w (fun e w' => ∃ m φ' St', e = .returned m ∧ Goes φ φ' St St' Mine w w' s s' ∧ Rep φ' St' w' v m) := by
  rw [callV_eq] at h
  split at h
  case h_1 => cases h
  rename_i f caps hf
  obtain ⟨cms, rfl, rc⟩ := fnOf_spec hf rf
  have rall := ra.append rc
  refine ⟨f, cms, rfl, ?_⟩
  split at h
  · -- in the caller's own memory
    split at h
    case h_2 => cases h
    rename_i F hF
    split at h
    case isFalse => cases h
    rename_i hnp
    have core : ∀ s1, (ex Γ k F.body { s with e := envOf (args ++ caps) } = some (.n s1) ∨ ex Γ k F.body { s with e := envOf (args ++ caps) } = some (.r s1)) →
        (match resOf s1 F.res with | some v => some (v, ({ s with H := s1.H, nx := s1.nx, fz := s1.fz } : S)) | none => none) = some (v, s') →
        Ent P f ∧ s'.e = s.e ∧ Calls P f (ams ++ cms).toArray w (fun e w' => ∃ m φ' St', e = .returned m ∧ Goes φ φ' St St' Mine w w' s s' ∧ Rep φ' St' w' v m) := by
      intro s1 hx h
      split at h
      case h_2 => cases h
      rename_i v1 hv
      obtain ⟨rfl, rfl⟩ := Prod.mk.inj (Option.some.inj h)
      obtain ⟨hc, he⟩ := frame_run (s0 := { s with e := envOf (args ++ caps) }) hk (hΓ.tab f F hF) rfl hnp rall q hx hv
      refine ⟨he, rfl, hc.mono ?_⟩
      rintro e w' ⟨m, φ', St', rfl, g, hrep⟩
      exact ⟨m, φ', St', rfl, ⟨g.wr, g.ext, g.nx, g.st, g.stp, g.fz, g.nf⟩, hrep⟩
    split at h
    · rename_i s1 hx; exact core s1 (.inl hx) h
    · rename_i s1 hx; exact core s1 (.inr hx) h
    · cases h
  · -- on trees
    rename_i ms hmd
    split at h
    case h_2 => cases h
    rename_i ts rs os hhand
    split at h
    case isFalse => cases h
    rename_i hcond
    obtain ⟨hond, hdisj, hofr⟩ := hcond
    split at h
    case h_2 => cases h
    rename_i t us hiso
    split at h
    case h_2 => cases h
    rename_i s1 hback
    obtain ⟨iso, ent⟩ := iso_sound hΓ hk hmd hiso
    obtain ⟨ars, aos⟩ := hand_alive ms _ ts rs os hhand
    -- St of the callee: what is kept, and what is only read
    let St1 : Nat → Prop := fun β => St β ∨ β ∈ Lof φ rs
    have hrep := hand_spec q (St' := St1) (fun β hb => .inl hb) ms _ ts _ rs os hhand rall fun b hb β o kk hp => .inr (mem_Lof.2 ⟨b, hb, o, kk, hp⟩)
    have lt_of : ∀ {b B β o kk}, s.H b = some B → φ b = some (β, o, kk) → β < w.heap.size := by
      intro b B β o kk hB hp
      rcases q.blk b B hB with ⟨_, h2⟩ | ⟨β', o', h1, _, _, h4, _⟩
      · rw [h2] at hp; cases hp
      · rw [h1] at hp; cases hp; exact h4.lt
    have hLn : (Lof φ os).Nodup := Lof_nodup q hond aos
    have unf : ∀ b ∈ os, ∀ B β o kk, s.H b = some B → φ b = some (β, o, kk) → ¬ St β := by
      intro b hb B β o kk hB hp
      simp only [List.all_eq_true] at hofr
      have := hofr b hb
      rw [hB] at this
      have hfr : B.fr = false := by simpa using this
      rcases q.blk b B hB with ⟨_, h2⟩ | ⟨β', o', h1, h3, _⟩
      · rw [h2] at hp; cases hp
      · rw [h1] at hp; cases hp; exact h3 hfr
    have hL : ∀ β ∈ Lof φ os, ¬ St1 β ∧ β < w.heap.size := by
      intro β hβ
      obtain ⟨b, hb, o, kk, hp⟩ := mem_Lof.1 hβ
      obtain ⟨B, hB⟩ := aos b hb
      refine ⟨?_, lt_of hB hp⟩
      rintro (hs | hs)
      · exact unf b hb B β o kk hB hp hs
      · obtain ⟨b', hb', o', k', hp'⟩ := mem_Lof.1 hs
        obtain ⟨B', hB'⟩ := ars b' hb'
        have := q.inj b b' B B' β o kk o' k' hB hB' hp hp'
        subst this
        exact hdisj b hb hb'
    have hSt1 : ∀ β, St1 β → β < w.heap.size := by
      rintro β (hs | hs)
      · exact q.stB β hs
      · obtain ⟨b', hb', o', k', hp'⟩ := mem_Lof.1 hs
        obtain ⟨B', hB'⟩ := ars b' hb'
        exact lt_of hB' hp'
    refine ⟨ent, ?_, (iso w St1 _ _ hrep hLn hL hSt1).mono ?_⟩
    · -- the frame's own variables have not turned
      rw [take_e _ _ _ _ _ h, backL_e _ _ _ _ hback]
      split <;> rfl
    rintro e w' ⟨m, L1, L2, rfl, stp, rt, rus, hnd, hmem⟩
    have minew : ∀ β, w.heap.size ≤ β → Mine β := q.mine
    have mineL : ∀ β ∈ Lof φ os, Mine β := by
      intro β hβ
      obtain ⟨b, hb, o, kk, hp⟩ := mem_Lof.1 hβ
      obtain ⟨B, hB⟩ := aos b hb
      exact q.own b B β o kk hB hp
    have stp1 : Stp St Mine w w' := stp.weaken (fun β hb => .inl hb) fun β _ hm => by
      rcases hm with hm | hm
      · exact mineL β hm
      · exact minew β hm
    have stpS1 : Stp St1 Mine w w' := stp.weaken (fun β hb => hb) fun β _ hm => by
      rcases hm with hm | hm
      · exact mineL β hm
      · exact minew β hm
    -- behind the call, before anything comes back
    have hkill : ∀ b B, kill s.H os b = some B → s.H b = some B ∧ b ∉ os := by
      intro b B hB
      unfold kill at hB
      split at hB
      · cases hB
      · rename_i hb; exact ⟨hB, hb⟩
    have qk : WR φ St Mine w' (kill s.H os) s.nx := (q.kill fun b B hB => (hkill b B hB).1).later stp1 fun b B β o kk hB hp => by
      obtain ⟨hB', hb'⟩ := hkill b B hB
      refine stp.keep β (lt_of hB' hp) ?_
      rintro (hm | hm)
      · obtain ⟨b2, hb2, o2, k2, hp2⟩ := mem_Lof.1 hm
        obtain ⟨B2, hB2⟩ := aos b2 hb2
        have := q.inj b b2 B B2 β o kk o2 k2 hB' hB2 hp hp2
        subst this
        exact hb' hb2
      · exact absurd (lt_of hB' hp) (by omega)
    have rall' : RepL φ St w' (args ++ caps) (ams ++ cms) := RepL.mono (fun _ _ h => h) (fun _ h => h) stp1.stab stp1.room _ _ rall
    have hns1 : ∀ β ∈ L1 ++ L2, ¬ St1 β := fun β hb => (hmem β hb).1
    have hmi : ∀ β ∈ L1 ++ L2, Mine β := fun β hb => by
      rcases (hmem β hb).2.1 with hm | hm
      · exact mineL β hm
      · exact minew β hm
    have hfrk : ∀ b B β o kk, kill s.H os b = some B → φ b = some (β, o, kk) → β ∉ L1 ++ L2 := by
      intro b B β o kk hB hp hβ
      obtain ⟨hB', hb'⟩ := hkill b B hB
      rcases (hmem β hβ).2.1 with hm | hm
      · obtain ⟨b2, hb2, o2, k2, hp2⟩ := mem_Lof.1 hm
        obtain ⟨B2, hB2⟩ := aos b2 hb2
        have := q.inj b b2 B B2 β o kk o2 k2 hB' hB2 hp hp2
        subst this
        exact hb' hb2
      · exact absurd (lt_of hB' hp) (by omega)
    -- what comes back, and the result
    have hnd' : (L2 ++ L1).Nodup := (List.perm_append_comm.nodup_iff).1 hnd
    have fin : ∀ (St2 : Nat → Prop) (sk : S), (∀ β, St β → St2 β) → (∀ β, St2 β → St1 β) → sk.nx = s.nx → (∀ b B, sk.H b = some B → ∃ C, kill s.H os b = some C) → WR φ St2 Mine w' sk.H sk.nx →
        backL s.H (lent ms (args ++ caps)) us sk = some s1 → RepTL St2 w' us (lent ms (ams ++ cms)) L2 → RepT St2 w' t m L1 → (s.fz = true → sk.fz = true) → (sk.fz = false → ∀ β, St2 β → St β) →
        ∃ m' φ' St', Ending.returned m = .returned m' ∧ Goes φ φ' St St' Mine w w' s s' ∧ Rep φ' St' w' v m' := by
      intro St2 sk hS2 hS21 hnx hal qsk hb rus2 rt2 hf1 hf2
      have can : Can φ St2 Mine sk (L2 ++ L1) := ⟨hnd', fun β hb hs => hns1 β (by simpa [or_comm] using hb) (hS21 β hs), fun β hb => hmi β (by simpa [or_comm] using hb), fun b B β o kk hB hp hβ => by
        obtain ⟨C, hC⟩ := hal b B hB
        exact hfrk b C β o kk hC hp (by simpa [or_comm] using hβ)⟩
      have hold : OldOK φ s.H sk.nx := fun b B hB => by
        refine ⟨?_, fun β o kk hp => ?_⟩
        · rw [hnx]
          rcases Nat.lt_or_ge b s.nx with g | g
          · exact g
          · rw [q.bnd b g] at hB; cases hB
        · rcases q.blk b B hB with ⟨_, h2⟩ | ⟨β', o', h1, _⟩
          · rw [h2] at hp; cases hp
          · rw [h1] at hp; cases hp; rfl
      have rl : RepL φ St2 w' (lent ms (args ++ caps)) (lent ms (ams ++ cms)) := RepL.mono (fun _ _ h => h) hS2 (fun _ _ => rfl) (fun _ _ h => h) _ _ (lent_rep rall')
      obtain ⟨φ1, k1, q1, _⟩ := backL_spec _ _ φ _ L2 sk s1 hb rl rus2 can.left qsk hold
      obtain ⟨φ2, k2, p2, q2⟩ := (take_spec DEP).1 φ1 t v m L1 s1 s' h rt2 (can.bk k1 qsk) q1
      refine ⟨m, φ2, St2, rfl, ⟨q2, ?_, ?_, hS2, stp1, fun g => ?_, fun g => ?_⟩, p2⟩
      · exact (hnx ▸ k1.ext).trans k2.ext (by have := k1.nx; omega)
      · have := k1.nx; have := k2.nx; omega
      · rw [k2.fz, k1.fz]; exact hf1 g
      · rw [k2.fz, k1.fz] at g; exact hf2 g
    by_cases hfree : free DEP t = true ∧ allL (free DEP) us = true
    · rw [if_pos hfree] at hback
      exact fin St (s.mem (kill s.H os)) (fun _ h => h) (fun _ h => .inl h) rfl (fun b B hB => ⟨B, hB⟩) qk hback (free_list _ _ _ hfree.2 rus) ((free_spec DEP).1 _ _ _ hfree.1 rt) (fun g => g) (fun _ _ h => h)
    · rw [if_neg hfree] at hback
      have hark : ∀ b ∈ rs, ∃ B, kill s.H os b = some B := by
        intro b hb
        obtain ⟨B, hB⟩ := ars b hb
        refine ⟨B, ?_⟩
        unfold kill
        rw [if_neg (fun ho => hdisj b ho hb)]; exact hB
      refine fin St1 { s with H := freeze (kill s.H os) rs, fz := s.fz || !rs.isEmpty } (fun _ h => .inl h) (fun _ h => h) rfl (fun b B hB => ?_) (qk.freeze hark) hback rus rt (fun g => by simp [g]) (fun g β hb => ?_)
      · simp only [freeze] at hB
        split at hB
        · obtain ⟨C, hC, _⟩ := Option.map_eq_some_iff.1 hB; exact ⟨C, hC⟩
        · exact ⟨B, hB⟩
      · have hrs : rs = [] := by
          simp only [Bool.or_eq_false_iff, Bool.not_eq_false'] at g
          simpa using g.2
        subst hrs
        rcases hb with hb | hb
        · exact hb
        · simp [Lof] at hb

end Go.Am

/- The A-machine, part 17: one operation of a region, and a region in the order of the text. -/
namespace Go.Am
variable {P : Program} {St Mine : Nat → Prop} {w : World}

theorem opA_noca {ca ca' : V → List V → S → Option (V × S)} {s : S} {a : A} (h : ∀ f xs, a ≠ .ca f xs) : opA ca s a = opA ca' s a := by
  cases a <;> first | rfl | exact absurd rfl (h _ _)

theorem appendTo_fz {s s' : S} {q : Option Nat} {x v : V} {src : List V} (h : appendTo s q x src = some (v, s')) : s'.fz = s.fz := by
  unfold appendTo at h
  simp only at h
  split at h
  · split at h
    · obtain ⟨_, rfl⟩ := Prod.mk.inj (Option.some.inj h); rfl
    · split at h
      · obtain ⟨_, rfl⟩ := Prod.mk.inj (Option.some.inj h); rfl
      · cases h
  · split at h <;> try (cases h; done)
    split at h <;> try (cases h; done)
    split at h
    · split at h
      · obtain ⟨_, rfl⟩ := Prod.mk.inj (Option.some.inj h); rfl
      · cases h
    · split at h
      · obtain ⟨_, rfl⟩ := Prod.mk.inj (Option.some.inj h); rfl
      · cases h
  · cases h

theorem opA_fz {s s' : S} {a : A} {v : V} (h : opA (fun _ _ _ => none) s a = some (v, s')) : s'.fz = s.fz := by
  have map1 : ∀ {α : Type} {o : Option α} {f : α → V}, (o.map fun z => (f z, s)) = some (v, s') → s'.fz = s.fz := by
    intro α o f h
    obtain ⟨_, _, e⟩ := Option.map_eq_some_iff.1 h
    rw [← (Prod.mk.inj e).2]
  have one : ∀ {u : V}, some (u, s) = some (v, s') → s'.fz = s.fz := by
    intro u h; rw [← (Prod.mk.inj (Option.some.inj h)).2]
  have nw : ∀ {u : V} {k : Nat} {es : List V}, some (u, s.new k es) = some (v, s') → s'.fz = s.fz := by
    intro u k es h; rw [← (Prod.mk.inj (Option.some.inj h)).2]; rfl
  cases a <;> simp only [opA] at h
  case mv => exact one h
  case pk => split at h <;> first | exact one h | cases h
  case al => split at h <;> first | exact nw h | cases h
  case bx => split at h <;> first | exact nw h | cases h
  case ld => split at h
             · split at h <;> first | exact one h | cases h
             · cases h
  case so => split at h
             · rw [← (Prod.mk.inj (Option.some.inj h)).2]
             · cases h
  case bi => split at h <;> first | exact map1 h | cases h
  case be => split at h <;> first | exact one h | cases h
  case un => split at h <;> first | exact map1 h | cases h
  case cv => split at h <;> first | exact one h | cases h
  case fd => split at h <;> first | exact map1 h | cases h
  case fa =>
    split at h
    · obtain ⟨c, _, h⟩ := Option.bind_eq_some_iff.1 h
      split at h <;> first | exact one h | cases h
    · exact one h
    · cases h
  case ia =>
    split at h
    · split at h
      · split at h <;> first | exact one h | cases h
      · cases h
    · split at h
      · split at h <;> first | exact one h | cases h
      · cases h
    · cases h
  case ix =>
    split at h
    · split at h <;> first | exact one h | cases h
    · cases h
  case ss =>
    split at h
    · split at h
      · split at h <;> first | exact one h | cases h
      · cases h
    · cases h
  case sc =>
    split at h
    · split at h
      · exact map1 h
      · split at h
        · split at h <;> first | exact map1 h | cases h
        · cases h
    · split at h <;> first | exact map1 h | cases h
    · exact map1 h
    · cases h
  case bs => split at h <;> first | exact nw h | cases h
  case bd => split at h <;> first | exact one h | cases h
  case ms =>
    split at h
    · split at h <;> first | exact nw h | cases h
    · cases h
  case mf => split at h <;> first | exact one h | cases h
  case ca => cases h
  case ap =>
    split at h
    · split at h <;> first | exact appendTo_fz h | cases h
    · cases h
  case az =>
    split at h
    · split at h <;> first | exact appendTo_fz h | cases h
    · cases h
  case cr =>
    split at h
    · exact one h
    · split at h
      · split at h
        · obtain ⟨_, rfl⟩ := Prod.mk.inj (Option.some.inj h); rfl
        · cases h
      · cases h
    · cases h
  case cp => split at h <;> first | exact one h | cases h
  case ln => split at h <;> first | exact one h | cases h
  case ls => split at h <;> first | exact one h | cases h
  case mm => split at h <;> first | exact one h | cases h
  case et => split at h <;> first | exact map1 h | cases h
  case sb =>
    split at h
    · split at h <;> first | exact one h | cases h
    · cases h
  case no => cases h

/-- Where a call comes from. -/
theorem comp_ca {op : Op} {f : O} {xs : List O} (h : compA P op = .ca f xs) : ∃ (g : Operand) (args : Array Operand) (ts : Array TypeId), op = .call { callee := .value g, args := args, argTypes := ts } ∧ toO g = some f ∧ toOs args.toList = some xs := by
  cases op <;> simp only [compA] at h
  case call cal =>
    obtain ⟨callee, args, ats⟩ := cal
    cases callee with
    | value g =>
      simp only at h
      split at h
      · obtain ⟨rfl, rfl⟩ := A.ca.inj h
        exact ⟨g, args, ats, rfl, ‹_›, ‹_›⟩
      · cases h
    | invoke r m => cases h
    | builtin b =>
      exfalso
      cases b <;> simp only at h <;> repeat' (split at h)
      all_goals cases h
  case makeFunc fn first caps =>
    exfalso
    cases fn <;> simp only at h
    case func => split at h <;> cases h
    all_goals cases h
  all_goals
    exfalso
    repeat' (split at h)
    all_goals cases h

/-- One operation in the machine. -/
theorem step_sound {Γ : Env} (hΓ : EnvOK P Γ) {k : Nat} (hk : ExOK P Γ k) {o : Oper} {a : Act} {φ : Phi} {s s' : S} {v : V} (h : opA (callV Γ (ex Γ k)) s (compA P o.op) = some (v, s'))
    (q : WR φ St Mine w s.H s.nx) (env : EnvR φ St w s.e a.tmps) {next : Act → World → Prop} {Q : Exit → Act → World → Prop}
    (hn : ∀ m w' φ' St', Goes φ φ' St St' Mine w w' s s' → Rep φ' St' w' v m → next (a.put o.dst m) w') : o.wp P a w next Q ∧ s'.e = s.e := by
  by_cases hca : ∃ f xs, compA P o.op = .ca f xs
  · obtain ⟨f, xs, hc⟩ := hca
    rw [hc] at h
    simp only [opA] at h
    obtain ⟨g, args, ts, ho, hg, hxs⟩ := comp_ca hc
    obtain ⟨fn, cms, ef, ent, he, hcall⟩ := callV_sound hΓ hk h q (rep_toO env hg) (rep_toOs env hxs)
    refine ⟨?_, he⟩
    unfold Oper.wp
    have hrun : (execOp a.eval o).run P w = .ok (.enter fn ((args.toList.map a.eval) ++ cms).toArray) w := by
      unfold execOp
      rw [ho]
      simp only [resolve, ef, Deferred.ofValue, pure_bind, invoke]
      rw [run_callFunc ent]
      simp [map_toList args a.eval]
    rw [hrun, Oper.upon_enter]
    refine hcall.mono ?_
    rintro e w' ⟨m, φ', St', rfl, g', hrep⟩
    exact hn m w' φ' St' g' hrep
  · have hno : ∀ f xs, compA P o.op ≠ .ca f xs := fun f xs hh => hca ⟨f, xs, hh⟩
    rw [opA_noca (ca' := fun _ _ _ => none) hno] at h
    obtain ⟨m, w', φ', hr, h2, h3, h4, h5, h6, h7⟩ := op_sound h q env
    have g : Goes φ φ' St St Mine w w' s s' := Goes.of_op (v := v) (m := m) h3 h5 h6 h7 (opA_fz h)
    refine ⟨?_, h4⟩
    unfold Oper.wp
    rcases hr with hr | ⟨hr, rfl⟩
    · rw [hr, Oper.upon_value]; exact hn m w' φ' St g h2
    · rw [hr, Oper.upon_skip]; exact hn undef w' φ' St g h2

/-- The guard of an operation. -/
def guardA (e : Nat → V) (g : Option (Nat × Bool)) : Option Bool :=
  match g with
  | none => some true
  | some (t, w) => match e t with | .im (.bool b) => some (b == w) | .im (.tuple x) => if x.size = 0 then some false else none | _ => none

theorem guard_sound {ops : Array Oper} {o : Oper} {i : I} (hc : compI P ops o = some i) {φ : Phi} {e : Nat → V} {tmps : Array Value} (env : EnvR φ St w e tmps) {b : Bool} (h : guardA e i.g = some b) :
    Region.wanted o (yielded ops tmps) = b ∧ i.d = o.dst ∧ i.a = compA P o.op := by
  unfold compI at hc
  unfold Region.wanted
  split at hc
  · rename_i hg
    obtain rfl := Option.some.inj hc
    simp only [guardA, Option.some.injEq] at h
    subst h
    rw [hg]
    exact ⟨rfl, rfl, rfl⟩
  · rename_i j want hg
    split at hc
    case h_2 => cases hc
    rename_i t ht
    obtain rfl := Option.some.inj hc
    simp only [guardA] at h
    split at h
    case h_3 => cases h
    case h_2 =>
      rename_i x he
      split at h
      case isFalse => cases h
      obtain rfl := Option.some.inj h
      have r := env t
      rw [he] at r
      simp only [Rep] at r
      have hy : yielded ops tmps j = none := by
        unfold yielded
        rw [ht]
        simp only [Option.bind_some]
        rw [Array.getD_eq_getD_getElem?] at r
        cases hx : tmps[t]? with
        | none => rfl
        | some y => rw [hx] at r; simp only [Option.getD_some] at r; subst r; rfl
      rw [hg]
      refine ⟨?_, rfl, rfl⟩
      simp only
      rw [hy]
      rfl
    rename_i b0 he
    obtain rfl := Option.some.inj h
    have r := env t
    rw [he] at r
    simp only [Rep] at r
    have hy : yielded ops tmps j = some b0 := by
      unfold yielded
      rw [ht]
      simp only [Option.bind_some]
      rw [Array.getD_eq_getD_getElem?] at r
      cases hx : tmps[t]? with
      | none => rw [hx] at r; simp [undef] at r
      | some y => rw [hx] at r; simp only [Option.getD_some] at r; subst r; rfl
    rw [hg]
    refine ⟨?_, rfl, rfl⟩
    simp only
    rw [hy]
    cases b0 <;> cases want <;> rfl

theorem runI_cons {ca : V → List V → S → Option (V × S)} {i : I} {l : List I} {s : S} : runI ca (i :: l) s = match guardA s.e i.g with
    | some true => match opA ca s i.a with | some (v, s1) => runI ca l (s1.put i.d v) | none => none
    | some false => runI ca l (s.put i.d .un)
    | none => none := rfl

/-- A state's variables behind an operation. -/
theorem put_env {φ : Phi} {s s1 : S} {a : Act} {d : Option Nat} {v : V} {m : Value} (he : s1.e = s.e) (env : EnvR φ St w s.e a.tmps) (hd : ∀ x, d = some x → x < a.tmps.size) (r : Rep φ St w v m) :
    EnvR φ St w (s1.put d v).e (a.put d m).tmps ∧ (a.put d m).tmps.size = a.tmps.size ∧ (a.put d m).defers = a.defers ∧ (s1.put d v).H = s1.H ∧ (s1.put d v).nx = s1.nx ∧ (s1.put d v).fz = s1.fz := by
  cases d with
  | none => exact ⟨by simpa [S.put, Act.put, he] using env, rfl, rfl, rfl, rfl, rfl⟩
  | some x =>
    refine ⟨?_, by simp [Act.put], rfl, rfl, rfl, rfl⟩
    simp only [S.put, Act.put]
    rw [he]
    exact env.put (hd x rfl) r

theorem Goes.put {φ φ' : Phi} {St' : Nat → Prop} {w' : World} {s s1 : S} (g : Goes φ φ' St St' Mine w w' s s1) (d : Option Nat) (v : V) : Goes φ φ' St St' Mine w w' s (s1.put d v) := by
  cases d with
  | none => exact g
  | some x => exact ⟨g.wr, g.ext, g.nx, g.st, g.stp, g.fz, g.nf⟩

/-- Where a piece of code has come from its start. -/
structure At (φ0 φ : Phi) (St0 St Mine : Nat → Prop) (w0 w : World) (s0 s : S) (a0 a : Act) : Prop where
  g : Goes φ0 φ St0 St Mine w0 w s0 s
  env : EnvR φ St w s.e a.tmps
  sz : a.tmps.size = a0.tmps.size
  df : a.defers = a0.defers

theorem At.post {φ0 φ : Phi} {St0 : Nat → Prop} {w0 : World} {s0 s : S} {a0 a : Act} (h : At φ0 φ St0 St Mine w0 w s0 s a0 a) : Post φ0 St0 Mine w0 s0 a0 (.n s) .normal a w := ⟨φ, St, h.g, h.env, h.sz, h.df⟩

/-- One operation, from where the code has come. -/
theorem At.step {Γ : Env} (hΓ : EnvOK P Γ) {k : Nat} (hk : ExOK P Γ k) {ops : Array Oper} {o : Oper} {i : I} (hi : compI P ops o = some i) {φ0 φ : Phi} {St0 : Nat → Prop} {w0 : World} {s0 s : S} {a0 a : Act}
    (h : At φ0 φ St0 St Mine w0 w s0 s a0 a) (hd : ∀ d, i.d = some d → d < a0.tmps.size) {s1 : S}
    (hx : (guardA s.e i.g = some true ∧ ∃ v s2, opA (callV Γ (ex Γ k)) s i.a = some (v, s2) ∧ s1 = s2.put i.d v) ∨ (guardA s.e i.g = some false ∧ s1 = s.put i.d .un))
    {K : Act → World → Prop} {Q : Exit → Act → World → Prop} (hK : ∀ φ' St' w' a', At φ0 φ' St0 St' Mine w0 w' s0 s1 a0 a' → K a' w') :
    if Region.wanted o (yielded ops a.tmps) then o.wp P a w K Q else K (a.put o.dst undef) w := by
  rcases hx with ⟨hg, v, s2, hop, rfl⟩ | ⟨hg, rfl⟩
  · obtain ⟨hw, e1, e2⟩ := guard_sound hi h.env hg
    rw [if_pos hw]
    rw [e2] at hop
    have key := step_sound (Q := Q) (next := K) hΓ hk hop h.g.wr h.env
    have he : s2.e = s.e := (step_sound (Q := fun _ _ _ => True) (next := fun _ _ => True) hΓ hk hop h.g.wr h.env (fun _ _ _ _ _ _ => trivial)).2
    refine (key ?_).1
    intro m w' φ' St' g hrep
    obtain ⟨p1, p2, p3, p4, p5, p6⟩ := put_env (d := i.d) (v := v) (m := m) he (g.env h.g.wr h.env) (by rw [h.sz]; exact hd) hrep
    rw [← e1]
    exact hK φ' St' w' _ ⟨(h.g.trans g).put _ _, p1, p2.trans h.sz, p3.trans h.df⟩
  · obtain ⟨hw, e1, _⟩ := guard_sound hi h.env hg
    rw [if_neg (by rw [hw]; simp)]
    obtain ⟨p1, p2, p3, p4, p5, p6⟩ := put_env (s := s) (s1 := s) (d := i.d) (v := .un) (m := undef) rfl h.env (by rw [h.sz]; exact hd) (by simp [Rep])
    rw [← e1]
    exact hK φ St w _ ⟨h.g.put _ _, p1, p2.trans h.sz, p3.trans h.df⟩

theorem runI_step {ca : V → List V → S → Option (V × S)} {i : I} {l : List I} {s s' : S} (h : runI ca (i :: l) s = some s') :
    ∃ s1, ((guardA s.e i.g = some true ∧ ∃ v s2, opA ca s i.a = some (v, s2) ∧ s1 = s2.put i.d v) ∨ (guardA s.e i.g = some false ∧ s1 = s.put i.d .un)) ∧ runI ca l s1 = some s' := by
  rw [runI_cons] at h
  split at h
  · rename_i hg
    split at h
    · rename_i v s2 hv; exact ⟨_, .inl ⟨hg, v, s2, hv, rfl⟩, h⟩
    · cases h
  · rename_i hg; exact ⟨_, .inr ⟨hg, rfl⟩, h⟩
  · cases h

theorem list_sound {Γ : Env} (hΓ : EnvOK P Γ) {k : Nat} (hk : ExOK P Γ k) {ops : Array Oper} {φ0 : Phi} {St0 : Nat → Prop} {w0 : World} {s0 : S} {a0 : Act} : ∀ (l : List Oper) (is : List I) (s s' : S) (φ : Phi) (St : Nat → Prop) (w : World) (a : Act), l.mapM (compI P ops) = some is →
    runI (callV Γ (ex Γ k)) is s = some s' → (∀ i ∈ is, ∀ d, i.d = some d → d < a0.tmps.size) → At φ0 φ St0 St Mine w0 w s0 s a0 a → wpList P ops (Post φ0 St0 Mine w0 s0 a0 (.n s')) l a w
  | [], is, s, s', φ, St, w, a, hc, h, _, hat => by
    simp at hc; subst hc
    simp only [runI, Option.some.injEq] at h; subst h
    exact wpList_nil hat.post
  | o :: l, is, s, s', φ, St, w, a, hc, h, hd, hat => by
    simp only [List.mapM_cons, Option.bind_eq_bind, Option.pure_def] at hc
    obtain ⟨i, hi, hc⟩ := Option.bind_eq_some_iff.1 hc
    obtain ⟨is', his, hc⟩ := Option.bind_eq_some_iff.1 hc
    obtain rfl := Option.some.inj hc
    obtain ⟨s1, hx, h⟩ := runI_step h
    refine wpList_step fun K hK => ?_
    exact hat.step hΓ hk hi (hd i (by simp)) hx fun φ' St' w' a' hat' => hK _ _ (list_sound hΓ hk l is' s1 s' φ' St' w' a' his h (fun j hj => hd j (by simp [hj])) hat')

end Go.Am
