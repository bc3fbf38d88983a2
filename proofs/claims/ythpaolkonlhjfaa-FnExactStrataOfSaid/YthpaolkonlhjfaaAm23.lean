/- The B-machine, part 2: how a state of B stands to a state of A. -/
import Derived.Test.YthpaolkonlhjfaaAm22
set_option linter.all false
namespace Go.Am

abbrev Bet := Nat → Option Nat

mutual
/-- A tree that is only read. -/
def Ror : V → Prop
  | .im _ | .e0 => True
  | .st cs | .cl _ cs => RorL cs
  | .sl es => RorL es
  | .rp v => Ror v
  | .tu _ | .ow _ _ | .op _ | .hs .. | .hp .. | .hf .. => False
def RorL : List V → Prop
  | [] => True
  | v :: vs => Ror v ∧ RorL vs
end
mutual
/-- A tree, with memory of its own or without. -/
def Pur : V → Prop
  | .im _ | .e0 => True
  | .st cs | .cl _ cs | .tu cs => PurL cs
  | .ow _ es => PurL es
  | .op v => Pur v
  | .sl es => RorL es
  | .rp v => Ror v
  | .hs .. | .hp .. | .hf .. => False
def PurL : List V → Prop
  | [] => True
  | v :: vs => Pur v ∧ PurL vs
end
theorem RorL_iff : ∀ {vs : List V}, RorL vs ↔ ∀ v ∈ vs, Ror v
  | [] => by simp [RorL]
  | v :: vs => by simp [RorL, RorL_iff (vs := vs)]
theorem PurL_iff : ∀ {vs : List V}, PurL vs ↔ ∀ v ∈ vs, Pur v
  | [] => by simp [PurL]
  | v :: vs => by simp [PurL, PurL_iff (vs := vs)]
mutual
theorem Ror.pur : ∀ (v : V), Ror v → Pur v
  | .im _, _ => trivial
  | .e0, _ => trivial
  | .st cs, h => by simp only [Ror] at h; simp only [Pur]; exact RorL.pur cs h
  | .cl _ cs, h => by simp only [Ror] at h; simp only [Pur]; exact RorL.pur cs h
  | .sl es, h => by simp only [Ror] at h; simp only [Pur]; exact h
  | .rp v, h => by simp only [Ror] at h; simp only [Pur]; exact h
  | .tu _, h => by simp [Ror] at h
  | .ow _ _, h => by simp [Ror] at h
  | .op _, h => by simp [Ror] at h
  | .hs .., h => by simp [Ror] at h
  | .hp .., h => by simp [Ror] at h
  | .hf .., h => by simp [Ror] at h
theorem RorL.pur : ∀ (vs : List V), RorL vs → PurL vs
  | [], _ => trivial
  | v :: vs, h => by simp only [RorL] at h; simp only [PurL]; exact ⟨Ror.pur v h.1, RorL.pur vs h.2⟩
end

mutual
/-- A value of B, a value of A; L: the blocks of A that lie packed in B's. -/
def Lk (β : Bet) (H : Nat → Option Blk) : V → V → List Nat → Prop
  | .im x, a, L => a = .im x ∧ L = []
  | .st cs, a, L => ∃ as, a = .st as ∧ LkL β H cs as L
  | .tu cs, a, L => ∃ as, a = .tu as ∧ LkL β H cs as L
  | .cl f cs, a, L => (∃ as, a = .cl f as ∧ LkL β H cs as []) ∧ L = []
  | .sl es, a, L => a = .sl es ∧ L = [] ∧ RorL es
  | .rp v, a, L => a = .rp v ∧ L = [] ∧ Ror v
  | .e0, a, L => a = .e0 ∧ L = []
  | .hs b off n c, a, L => (∃ b', β b = some b' ∧ a = .hs b' off n c) ∧ L = []
  | .hp b i, a, L => (∃ b', β b = some b' ∧ a = .hp b' i) ∧ L = []
  | .hf b i j, a, L => (∃ b', β b = some b' ∧ a = .hf b' i j) ∧ L = []
  | .ow k es, a, L => (∃ d, giveX d H a = some (.ow k es, L)) ∧ PurL es
  | .op v, a, L => (∃ d, giveX d H a = some (.op v, L)) ∧ Pur v
def LkL (β : Bet) (H : Nat → Option Blk) : List V → List V → List Nat → Prop
  | [], as, L => as = [] ∧ L = []
  | v :: vs, as, L => ∃ a as' L1 L2, as = a :: as' ∧ L = L1 ++ L2 ∧ Lk β H v a L1 ∧ LkL β H vs as' L2
end

theorem overL_len {f : V → Option (V × List Nat)} : ∀ {vs ts : List V} {L : List Nat}, overL f vs = some (ts, L) → ts.length = vs.length
  | [], ts, L, h => by simp only [overL, Option.some.injEq, Prod.mk.injEq] at h; rw [← h.1]
  | v :: vs, ts, L, h => by
    simp only [overL] at h
    split at h
    · split at h
      · rename_i h2
        obtain ⟨rfl, _⟩ := Prod.mk.inj (Option.some.inj h)
        simp [overL_len h2]
      · cases h
    · cases h

theorem overL_cons' {f : V → Option (V × List Nat)} {v : V} {vs ts : List V} {L : List Nat} (h : overL f (v :: vs) = some (ts, L)) :
    ∃ t ts' L1 L2, ts = t :: ts' ∧ L = L1 ++ L2 ∧ f v = some (t, L1) ∧ overL f vs = some (ts', L2) := by
  simp only [overL] at h
  split at h
  · rename_i t i h1
    split at h
    · rename_i ts' j h2
      obtain ⟨rfl, rfl⟩ := Prod.mk.inj (Option.some.inj h)
      exact ⟨t, ts', i, j, rfl, rfl, h1, h2⟩
    · cases h
  · cases h

theorem overL_mk {f : V → Option (V × List Nat)} {v t : V} {vs ts : List V} {L1 L2 : List Nat} (h1 : f v = some (t, L1)) (h2 : overL f vs = some (ts, L2)) : overL f (v :: vs) = some (t :: ts, L1 ++ L2) := by
  simp only [overL, h1, h2]

/-- Pointwise. -/
theorem overL_imp {f g : V → Option (V × List Nat)} : ∀ {vs ts : List V} {L : List Nat}, (∀ v ∈ vs, ∀ t L', f v = some (t, L') → (∀ x ∈ L', x ∈ L) → g v = some (t, L')) → overL f vs = some (ts, L) → overL g vs = some (ts, L)
  | [], ts, L, _, h => h
  | v :: vs, ts, L, hf, h => by
    obtain ⟨t, ts', L1, L2, rfl, rfl, h1, h2⟩ := overL_cons' h
    exact overL_mk (hf v (by simp) t L1 h1 (by simp +contextual)) (overL_imp (fun u hu t' L' h3 h4 => hf u (by simp [hu]) t' L' h3 fun x hx => by simp [h4 x hx]) h2)

theorem giveX_size {d : Nat} {H : Nat → Option Blk} {v t : V} {L : List Nat} (h : giveX d H v = some (t, L)) : t.size = v.size := by
  cases d with
  | zero => simp [giveX] at h
  | succ d =>
    cases v <;> simp only [giveX] at h <;> try (cases h; done)
    case st cs => split at h
                  · rename_i h1
                    obtain ⟨rfl, _⟩ := Prod.mk.inj (Option.some.inj h)
                    simpa [V.size] using overL_len h1
                  · cases h
    case cl f cs => split at h
                    · obtain ⟨rfl, _⟩ := Prod.mk.inj (Option.some.inj h); rfl
                    · cases h
    case hs b off n c => split at h
                         · split at h
                           · split at h
                             · obtain ⟨rfl, _⟩ := Prod.mk.inj (Option.some.inj h); rfl
                             · cases h
                           · cases h
                         · cases h
    case hp b i => split at h
                   · split at h
                     · split at h
                       · split at h
                         · split at h
                           · obtain ⟨rfl, _⟩ := Prod.mk.inj (Option.some.inj h); rfl
                           · cases h
                         · cases h
                       · cases h
                     · cases h
                   · cases h
    all_goals (obtain ⟨rfl, _⟩ := Prod.mk.inj (Option.some.inj h); rfl)

/-- It looks at the blocks that it names, alone. -/
theorem giveX_congr {H H' : Nat → Option Blk} : ∀ (d : Nat) (v t : V) (L : List Nat), giveX d H v = some (t, L) → (∀ x ∈ L, H' x = H x) → giveX d H' v = some (t, L)
  | 0, _, _, _, h, _ => by simp [giveX] at h
  | d + 1, v, t, L, h, hH => by
    have lst : ∀ (cs ts : List V) (L' : List Nat), overL (giveX d H) cs = some (ts, L') → (∀ x ∈ L', H' x = H x) → overL (giveX d H') cs = some (ts, L') :=
      fun cs ts L' h1 h2 => overL_imp (fun v _ t L'' h3 h4 => giveX_congr d v t L'' h3 fun x hx => h2 x (h4 x hx)) h1
    cases v <;> simp only [giveX] at h ⊢ <;> try exact h
    case st cs =>
      split at h
      · rename_i ts i h1
        obtain ⟨rfl, rfl⟩ := Prod.mk.inj (Option.some.inj h)
        rw [lst _ _ _ h1 hH]
      · cases h
    case hs b off n c =>
      split at h
      · rename_i B hB
        split at h
        · rename_i hc
          split at h
          · rename_i ts i h1
            obtain ⟨rfl, rfl⟩ := Prod.mk.inj (Option.some.inj h)
            rw [hH b (by simp), hB]
            simp only [hc, and_self, if_true]
            rw [lst _ _ _ h1 fun x hx => hH x (by simp [hx])]
          · cases h
        · cases h
      · cases h
    case hp b i =>
      split at h
      · rename_i B hB
        split at h
        · rename_i hc
          split at h
          · rename_i e he
            split at h
            · rename_i t' j h1
              split at h
              · rename_i hk
                obtain ⟨rfl, rfl⟩ := Prod.mk.inj (Option.some.inj h)
                rw [hH b (by simp), hB]
                simp only [hc, if_true, he]
                rw [giveX_congr d _ _ _ h1 fun x hx => hH x (by simp [hx])]
                simp only [hk, if_true]
              · cases h
            · cases h
          · cases h
        · cases h
      · cases h

/-- The blocks that it names are there. -/
theorem giveX_some {H : Nat → Option Blk} : ∀ (d : Nat) (v t : V) (L : List Nat), giveX d H v = some (t, L) → ∀ x ∈ L, H x ≠ none
  | 0, _, _, _, h => by simp [giveX] at h
  | d + 1, v, t, L, h => by
    have lst : ∀ (cs ts : List V) (L' : List Nat), overL (giveX d H) cs = some (ts, L') → ∀ x ∈ L', H x ≠ none := by
      intro cs
      induction cs with
      | nil => intro ts L' h1 x hx; simp only [overL, Option.some.injEq, Prod.mk.injEq] at h1; rw [← h1.2] at hx; simp at hx
      | cons c cs ih =>
        intro ts L' h1 x hx
        obtain ⟨t, ts', L1, L2, rfl, rfl, h2, h3⟩ := overL_cons' h1
        rcases List.mem_append.1 hx with hx | hx
        · exact giveX_some d _ _ _ h2 x hx
        · exact ih _ _ h3 x hx
    have nil : ∀ {u : V}, some (u, ([] : List Nat)) = some (t, L) → ∀ x ∈ L, H x ≠ none := by
      intro u h x hx; obtain ⟨_, rfl⟩ := Prod.mk.inj (Option.some.inj h); simp at hx
    cases v <;> simp only [giveX] at h
    case im => exact nil h
    case sl => exact nil h
    case rp => exact nil h
    case e0 => exact nil h
    case st cs =>
      split at h
      · rename_i ts i h1
        obtain ⟨rfl, rfl⟩ := Prod.mk.inj (Option.some.inj h)
        exact lst _ _ _ h1
      · cases h
    case cl f cs =>
      split at h
      · exact nil h
      · cases h
    case hs b off n c =>
      split at h
      · rename_i B hB
        split at h
        · split at h
          · rename_i ts i h1
            obtain ⟨rfl, rfl⟩ := Prod.mk.inj (Option.some.inj h)
            intro x hx
            rcases List.mem_cons.1 hx with rfl | hx
            · rw [hB]; simp
            · exact lst _ _ _ h1 x hx
          · cases h
        · cases h
      · cases h
    case hp b i =>
      split at h
      · rename_i B hB
        split at h
        · split at h
          · split at h
            · rename_i t' j h1
              split at h
              · obtain ⟨rfl, rfl⟩ := Prod.mk.inj (Option.some.inj h)
                intro x hx
                rcases List.mem_cons.1 hx with rfl | hx
                · rw [hB]; simp
                · exact giveX_some d _ _ _ h1 x hx
              · cases h
            · cases h
          · cases h
        · cases h
      · cases h
    all_goals cases h

theorem giveX_le {H : Nat → Option Blk} : ∀ (d : Nat) (v t : V) (L : List Nat), giveX d H v = some (t, L) → giveX (d + 1) H v = some (t, L)
  | 0, _, _, _, h => by simp [giveX] at h
  | d + 1, v, t, L, h => by
    have lst : ∀ (cs ts : List V) (L' : List Nat), overL (giveX d H) cs = some (ts, L') → overL (giveX (d + 1) H) cs = some (ts, L') :=
      fun cs ts L' h1 => overL_imp (fun v _ t L'' h3 _ => giveX_le d v t L'' h3) h1
    rw [giveX.eq_def] at h ⊢
    cases v <;> simp only at h ⊢ <;> try exact h
    case st cs =>
      split at h
      · rename_i ts i h1
        rw [lst _ _ _ h1]; exact h
      · cases h
    case hs b off n c =>
      split at h
      · rename_i B hB
        split at h
        · rename_i hc
          split at h
          · rename_i ts i h1
            rw [if_pos hc, lst _ _ _ h1]; exact h
          · cases h
        · cases h
      · cases h
    case hp b i =>
      split at h
      · rename_i B hB
        split at h
        · rename_i hc
          split at h
          · rename_i e he
            split at h
            · rename_i t' j h1
              rw [if_pos hc]
              try simp only
              rw [giveX_le d _ _ _ h1]; exact h
            · cases h
          · cases h
        · cases h
      · cases h

theorem giveX_mono {H : Nat → Option Blk} {d d' : Nat} (hd : d ≤ d') {v t : V} {L : List Nat} (h : giveX d H v = some (t, L)) : giveX d' H v = some (t, L) := by
  induction hd with
  | refl => exact h
  | step _ ih => exact giveX_le _ _ _ _ ih


theorem giveX_ow {d : Nat} {H : Nat → Option Blk} {a : V} {k : Nat} {es : List V} {L : List Nat} (h : giveX d H a = some (.ow k es, L)) :
    ∃ d' x B L', a = .hs x 0 es.length es.length ∧ H x = some B ∧ B.k = k ∧ B.es.length = es.length ∧ L = x :: L' ∧ overL (giveX d' H) B.es = some (es, L') := by
  cases d with
  | zero => simp [giveX] at h
  | succ d =>
    cases a <;> simp only [giveX] at h <;> try (cases h; done)
    case hs b off n c =>
      split at h
      · rename_i B hB
        split at h
        · rename_i hc
          split at h
          · rename_i ts i h1
            obtain ⟨h2, rfl⟩ := Prod.mk.inj (Option.some.inj h)
            obtain ⟨rfl, rfl⟩ := V.ow.inj h2
            have hl := overL_len h1
            obtain ⟨rfl, rfl, rfl⟩ := hc
            exact ⟨d, b, B, i, by rw [hl], hB, rfl, hl.symm, rfl, h1⟩
          · cases h
        · cases h
      · cases h
    all_goals
      repeat' (split at h)
      all_goals cases h

theorem giveX_op {d : Nat} {H : Nat → Option Blk} {a v : V} {L : List Nat} (h : giveX d H a = some (.op v, L)) :
    ∃ d' x B e L', a = .hp x 0 ∧ H x = some B ∧ B.es = [e] ∧ B.k = v.size ∧ L = x :: L' ∧ giveX d' H e = some (v, L') := by
  cases d with
  | zero => simp [giveX] at h
  | succ d =>
    cases a <;> simp only [giveX] at h <;> try (cases h; done)
    case hp b i =>
      split at h
      · rename_i B hB
        split at h
        · rename_i hc
          subst hc
          split at h
          · rename_i e he
            split at h
            · rename_i t j h1
              split at h
              · rename_i hk
                obtain ⟨h2, rfl⟩ := Prod.mk.inj (Option.some.inj h)
                obtain rfl := V.op.inj h2
                exact ⟨d, b, B, e, j, rfl, hB, he, hk, rfl, h1⟩
              · cases h
            · cases h
          · cases h
        · cases h
      · cases h
    all_goals
      repeat' (split at h)
      all_goals cases h

mutual
theorem Lk.frame {β β' : Bet} {H H' : Nat → Option Blk} (hβ : ∀ b x, β b = some x → β' b = some x) : ∀ (v a : V) (L : List Nat), Lk β H v a L → (∀ x ∈ L, H' x = H x) → Lk β' H' v a L
  | .im x, a, L, h, _ => by simpa [Lk] using h
  | .sl x, a, L, h, _ => by simpa only [Lk] using h
  | .rp x, a, L, h, _ => by simpa only [Lk] using h
  | .e0, a, L, h, _ => by simpa [Lk] using h
  | .st cs, a, L, h, hH => by simp only [Lk] at h ⊢; obtain ⟨as, e, q⟩ := h; exact ⟨as, e, LkL.frame hβ cs as L q hH⟩
  | .tu cs, a, L, h, hH => by simp only [Lk] at h ⊢; obtain ⟨as, e, q⟩ := h; exact ⟨as, e, LkL.frame hβ cs as L q hH⟩
  | .cl f cs, a, L, h, hH => by simp only [Lk] at h ⊢; obtain ⟨⟨as, e, q⟩, h3⟩ := h; exact ⟨⟨as, e, LkL.frame hβ cs as [] q (by simp)⟩, h3⟩
  | .hs b off n c, a, L, h, _ => by simp only [Lk] at h ⊢; obtain ⟨⟨b', h1, h2⟩, h3⟩ := h; exact ⟨⟨b', hβ _ _ h1, h2⟩, h3⟩
  | .hp b i, a, L, h, _ => by simp only [Lk] at h ⊢; obtain ⟨⟨b', h1, h2⟩, h3⟩ := h; exact ⟨⟨b', hβ _ _ h1, h2⟩, h3⟩
  | .hf b i j, a, L, h, _ => by simp only [Lk] at h ⊢; obtain ⟨⟨b', h1, h2⟩, h3⟩ := h; exact ⟨⟨b', hβ _ _ h1, h2⟩, h3⟩
  | .ow k es, a, L, h, hH => by simp only [Lk] at h ⊢; obtain ⟨⟨d, h⟩, hp⟩ := h; exact ⟨⟨d, giveX_congr d _ _ _ h hH⟩, hp⟩
  | .op v, a, L, h, hH => by simp only [Lk] at h ⊢; obtain ⟨⟨d, h⟩, hp⟩ := h; exact ⟨⟨d, giveX_congr d _ _ _ h hH⟩, hp⟩
theorem LkL.frame {β β' : Bet} {H H' : Nat → Option Blk} (hβ : ∀ b x, β b = some x → β' b = some x) : ∀ (vs as : List V) (L : List Nat), LkL β H vs as L → (∀ x ∈ L, H' x = H x) → LkL β' H' vs as L
  | [], as, L, h, _ => by simpa [LkL] using h
  | v :: vs, as, L, h, hH => by
    simp only [LkL] at h ⊢
    obtain ⟨a, as', L1, L2, rfl, rfl, h1, h2⟩ := h
    exact ⟨a, as', L1, L2, rfl, rfl, Lk.frame hβ v a L1 h1 fun x hx => hH x (by simp [hx]), LkL.frame hβ vs as' L2 h2 fun x hx => hH x (by simp [hx])⟩
end

mutual
theorem Lk.there {β : Bet} {H : Nat → Option Blk} : ∀ (v a : V) (L : List Nat), Lk β H v a L → ∀ x ∈ L, H x ≠ none
  | .im x, a, L, h => by simp only [Lk] at h; simp [h.2]
  | .sl x, a, L, h => by simp only [Lk] at h; simp [h.2.1]
  | .rp x, a, L, h => by simp only [Lk] at h; simp [h.2.1]
  | .e0, a, L, h => by simp only [Lk] at h; simp [h.2]
  | .st cs, a, L, h => by simp only [Lk] at h; obtain ⟨as, e, q⟩ := h; exact LkL.there cs as L q
  | .tu cs, a, L, h => by simp only [Lk] at h; obtain ⟨as, e, q⟩ := h; exact LkL.there cs as L q
  | .cl f cs, a, L, h => by simp only [Lk] at h; simp [h.2]
  | .hs b off n c, a, L, h => by simp only [Lk] at h; simp [h.2]
  | .hp b i, a, L, h => by simp only [Lk] at h; simp [h.2]
  | .hf b i j, a, L, h => by simp only [Lk] at h; simp [h.2]
  | .ow k es, a, L, h => by simp only [Lk] at h; obtain ⟨⟨d, h⟩, _⟩ := h; exact giveX_some d _ _ _ h
  | .op v, a, L, h => by simp only [Lk] at h; obtain ⟨⟨d, h⟩, _⟩ := h; exact giveX_some d _ _ _ h
theorem LkL.there {β : Bet} {H : Nat → Option Blk} : ∀ (vs as : List V) (L : List Nat), LkL β H vs as L → ∀ x ∈ L, H x ≠ none
  | [], as, L, h => by simp only [LkL] at h; simp [h.2]
  | v :: vs, as, L, h => by
    simp only [LkL] at h
    obtain ⟨a, as', L1, L2, rfl, rfl, h1, h2⟩ := h
    intro x hx
    rcases List.mem_append.1 hx with hx | hx
    · exact Lk.there v a L1 h1 x hx
    · exact LkL.there vs as' L2 h2 x hx
end

theorem LkL.len {β : Bet} {H : Nat → Option Blk} : ∀ (vs as : List V) (L : List Nat), LkL β H vs as L → as.length = vs.length
  | [], as, L, h => by simp only [LkL] at h; rw [h.1]
  | v :: vs, as, L, h => by
    simp only [LkL] at h
    obtain ⟨a, as', L1, L2, rfl, rfl, h1, h2⟩ := h
    simp [LkL.len vs as' L2 h2]

/-- Without packed memory the heap does not matter. -/
theorem Lk.nil {β β' : Bet} {H H' : Nat → Option Blk} (hβ : ∀ b x, β b = some x → β' b = some x) {v a : V} (h : Lk β H v a []) : Lk β' H' v a [] := Lk.frame hβ v a [] h (by simp)
theorem LkL.nil {β β' : Bet} {H H' : Nat → Option Blk} (hβ : ∀ b x, β b = some x → β' b = some x) {vs as : List V} (h : LkL β H vs as []) : LkL β' H' vs as [] := LkL.frame hβ vs as [] h (by simp)

theorem LkL_nil_iff {β : Bet} {H : Nat → Option Blk} : ∀ {vs as : List V}, LkL β H vs as [] ↔ as.length = vs.length ∧ ∀ (i : Nat) (v a : V), vs[i]? = some v → as[i]? = some a → Lk β H v a []
  | [], as => by
    simp only [LkL, and_true]
    constructor
    · rintro rfl; exact ⟨rfl, fun i v a h => by simp at h⟩
    · rintro ⟨h, _⟩; exact List.length_eq_zero_iff.1 h
  | v :: vs, as => by
    simp only [LkL]
    constructor
    · rintro ⟨a, as', L1, L2, rfl, e, h1, h2⟩
      obtain ⟨rfl, rfl⟩ := List.append_eq_nil_iff.1 e.symm
      obtain ⟨h3, h4⟩ := LkL_nil_iff.1 h2
      refine ⟨by simp [h3], fun i u b hu hb => ?_⟩
      cases i with
      | zero => simp at hu hb; subst hu hb; exact h1
      | succ i => exact h4 i u b (by simpa using hu) (by simpa using hb)
    · rintro ⟨h1, h2⟩
      cases as with
      | nil => simp at h1
      | cons a as' => exact ⟨a, as', [], [], rfl, rfl, h2 0 v a rfl rfl, LkL_nil_iff.2 ⟨by simpa using h1, fun i u b hu hb => h2 (i + 1) u b (by simpa using hu) (by simpa using hb)⟩⟩

theorem Lk_of_giveX {β : Bet} {H : Nat → Option Blk} : ∀ (d : Nat) (a t : V) (L : List Nat), giveX d H a = some (t, L) → Pur t → Lk β H t a L
  | 0, _, _, _, h, _ => by simp [giveX] at h
  | d + 1, a, t, L, h, hp => by
    have h0 := h
    have lst : ∀ (cs ts : List V) (L' : List Nat), overL (giveX d H) cs = some (ts, L') → PurL ts → LkL β H ts cs L' := by
      intro cs
      induction cs with
      | nil => intro ts L' h1 _; simp only [overL, Option.some.injEq, Prod.mk.injEq] at h1; obtain ⟨rfl, rfl⟩ := h1; simp [LkL]
      | cons c cs ih =>
        intro ts L' h1 hp
        obtain ⟨t, ts', i, j, h2, h3, rfl, rfl⟩ := overL_cons h1
        simp only [PurL] at hp
        simp only [LkL]
        exact ⟨c, cs, i, j, rfl, rfl, Lk_of_giveX d c t i h2 hp.1, ih ts' j h3 hp.2⟩
    cases a <;> simp only [giveX] at h <;> try (cases h; done)
    case st cs => split at h
                  · rename_i h1
                    obtain ⟨rfl, rfl⟩ := Prod.mk.inj (Option.some.inj h)
                    simp only [Pur] at hp
                    simp only [Lk]; exact ⟨cs, rfl, lst _ _ _ h1 hp⟩
                  · cases h
    case cl f cs => split at h
                    · rename_i h1
                      obtain ⟨rfl, rfl⟩ := Prod.mk.inj (Option.some.inj h)
                      subst h1
                      simp [Lk, LkL]
                    · cases h
    case hs b off n c => split at h
                         · split at h
                           · split at h
                             · obtain ⟨rfl, rfl⟩ := Prod.mk.inj (Option.some.inj h)
                               simp only [Pur] at hp
                               simp only [Lk]; exact ⟨⟨d + 1, h0⟩, hp⟩
                             · cases h
                           · cases h
                         · cases h
    case hp b i => split at h
                   · split at h
                     · split at h
                       · split at h
                         · split at h
                           · obtain ⟨rfl, rfl⟩ := Prod.mk.inj (Option.some.inj h)
                             simp only [Pur] at hp
                             simp only [Lk]; exact ⟨⟨d + 1, h0⟩, hp⟩
                           · cases h
                         · cases h
                       · cases h
                     · cases h
                   · cases h
    all_goals (obtain ⟨rfl, rfl⟩ := Prod.mk.inj (Option.some.inj h); first | (simp [Lk]; done) | (simp only [Lk, Pur] at hp ⊢; exact ⟨trivial, trivial, hp⟩) | (simp only [Lk, Pur] at hp ⊢; simp [hp]))

mutual
theorem Ror.lk {β : Bet} {H : Nat → Option Blk} : ∀ (v : V), Ror v → Lk β H v v []
  | .im _, _ => by simp [Lk]
  | .e0, _ => by simp [Lk]
  | .st cs, h => by simp only [Ror] at h; simp only [Lk]; exact ⟨cs, rfl, RorL.lk cs h⟩
  | .cl f cs, h => by simp only [Ror] at h; simp only [Lk]; exact ⟨⟨cs, rfl, RorL.lk cs h⟩, trivial⟩
  | .sl es, h => by simp only [Ror] at h; simp [Lk, h]
  | .rp v, h => by simp only [Ror] at h; simp [Lk, h]
  | .tu _, h => by simp [Ror] at h
  | .ow _ _, h => by simp [Ror] at h
  | .op _, h => by simp [Ror] at h
  | .hs .., h => by simp [Ror] at h
  | .hp .., h => by simp [Ror] at h
  | .hf .., h => by simp [Ror] at h
theorem RorL.lk {β : Bet} {H : Nat → Option Blk} : ∀ (vs : List V), RorL vs → LkL β H vs vs []
  | [], _ => by simp [LkL]
  | v :: vs, h => by simp only [RorL] at h; simp only [LkL]; exact ⟨v, vs, [], [], rfl, rfl, Ror.lk v h.1, RorL.lk vs h.2⟩
end

end Go.Am
