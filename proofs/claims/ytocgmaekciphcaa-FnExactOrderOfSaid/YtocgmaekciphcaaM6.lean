/-
  A machine of trees and its soundness over the model, part 6.
-/
import Derived.Test.YtocgmaekciphcaaM5
set_option linter.all false
/- The B-machine, part 2: how a state of B stands to a state of A. -/
namespace Go.Am

abbrev Bet := Nat → Option Nat

mutual
/-- A tree that is only read. -/
def Ror : V → Prop
  | .im _ | .e0 => True
  | .st cs | .cl _ cs => RorL cs
  | .sl es => RorL es
  | .rp v => Ror v
  | .tu _ | .ow _ _ | .op _ | .hs .. | .hp .. | .hf .. => False
def RorL : List V → Prop
  | [] => True
  | v :: vs => Ror v ∧ RorL vs
end
mutual
/-- A tree, with memory of its own or without. -/
def Pur : V → Prop
  | .im _ | .e0 => True
  | .st cs | .cl _ cs | .tu cs => PurL cs
  | .ow _ es => PurL es
  | .op v => Pur v
  | .sl es => RorL es
  | .rp v => Ror v
  | .hs .. | .hp .. | .hf .. => False
def PurL : List V → Prop
  | [] => True
  | v :: vs => Pur v ∧ PurL vs
end
theorem RorL_iff : ∀ {vs : List V}, RorL vs ↔ ∀ v ∈ vs, Ror v
  | [] => by simp [RorL]
  | v :: vs => by simp [RorL, RorL_iff (vs := vs)]
theorem PurL_iff : ∀ {vs : List V}, PurL vs ↔ ∀ v ∈ vs, Pur v
  | [] => by simp [PurL]
  | v :: vs => by simp [PurL, PurL_iff (vs := vs)]
mutual
theorem Ror.pur : ∀ (v : V), Ror v → Pur v
  | .im _, _ => trivial
  | .e0, _ => trivial
  | .st cs, h => by simp only [Ror] at h; simp only [Pur]; exact RorL.pur cs h
  | .cl _ cs, h => by simp only [Ror] at h; simp only [Pur]; exact RorL.pur cs h
  | .sl es, h => by simp only [Ror] at h; simp only [Pur]; exact h
  | .rp v, h => by simp only [Ror] at h; simp only [Pur]; exact h
  | .tu _, h => by simp [Ror] at h
  | .ow _ _, h => by simp [Ror] at h
  | .op _, h => by simp [Ror] at h
  | .hs .., h => by simp [Ror] at h
  | .hp .., h => by simp [Ror] at h
  | .hf .., h => by simp [Ror] at h
theorem RorL.pur : ∀ (vs : List V), RorL vs → PurL vs
  | [], _ => trivial
  | v :: vs, h => by simp only [RorL] at h; simp only [PurL]; exact ⟨Ror.pur v h.1, RorL.pur vs h.2⟩
end

mutual
/-- A value of B, a value of A; L: the blocks of A that lie packed in B's. -/
def Lk (β : Bet) (H : Nat → Option Blk) : V → V → List Nat → Prop
  | .im x, a, L => a = .im x ∧ L = []
  | .st cs, a, L => ∃ as, a = .st as ∧ LkL β H cs as L
  | .tu cs, a, L => ∃ as, a = .tu as ∧ LkL β H cs as L
  | .cl f cs, a, L => (∃ as, a = .cl f as ∧ LkL β H cs as []) ∧ L = []
  | .sl es, a, L => a = .sl es ∧ L = [] ∧ RorL es
  | .rp v, a, L => a = .rp v ∧ L = [] ∧ Ror v
  | .e0, a, L => a = .e0 ∧ L = []
  | .hs b off n c, a, L => (∃ b', β b = some b' ∧ a = .hs b' off n c) ∧ L = []
  | .hp b i, a, L => (∃ b', β b = some b' ∧ a = .hp b' i) ∧ L = []
  | .hf b i j, a, L => (∃ b', β b = some b' ∧ a = .hf b' i j) ∧ L = []
  | .ow k es, a, L => (∃ d, giveX d H a = some (.ow k es, L)) ∧ PurL es
  | .op v, a, L => (∃ d, giveX d H a = some (.op v, L)) ∧ Pur v
def LkL (β : Bet) (H : Nat → Option Blk) : List V → List V → List Nat → Prop
  | [], as, L => as = [] ∧ L = []
  | v :: vs, as, L => ∃ a as' L1 L2, as = a :: as' ∧ L = L1 ++ L2 ∧ Lk β H v a L1 ∧ LkL β H vs as' L2
end

theorem overL_len {f : V → Option (V × List Nat)} : ∀ {vs ts : List V} {L : List Nat}, overL f vs = some (ts, L) → ts.length = vs.length
  | [], ts, L, h => by simp only [overL, Option.some.injEq, Prod.mk.injEq] at h; rw [← h.1]
  | v :: vs, ts, L, h => by
    simp only [overL] at h
    split at h
    · split at h
      · rename_i h2
        obtain ⟨rfl, _⟩ := Prod.mk.inj (Option.some.inj h)
        simp [overL_len h2]
      · cases h
    · cases h

theorem overL_cons' {f : V → Option (V × List Nat)} {v : V} {vs ts : List V} {L : List Nat} (h : overL f (v :: vs) = some (ts, L)) :
    ∃ t ts' L1 L2, ts = t :: ts' ∧ L = L1 ++ L2 ∧ f v = some (t, L1) ∧ overL f vs = some (ts', L2) := by
  simp only [overL] at h
  split at h
  · rename_i t i h1
    split at h
    · rename_i ts' j h2
      obtain ⟨rfl, rfl⟩ := Prod.mk.inj (Option.some.inj h)
      exact ⟨t, ts', i, j, rfl, rfl, h1, h2⟩
    · cases h
  · cases h

theorem overL_mk {f : V → Option (V × List Nat)} {v t : V} {vs ts : List V} {L1 L2 : List Nat} (h1 : f v = some (t, L1)) (h2 : overL f vs = some (ts, L2)) : overL f (v :: vs) = some (t :: ts, L1 ++ L2) := by
  simp only [overL, h1, h2]

/-- Pointwise. -/
theorem overL_imp {f g : V → Option (V × List Nat)} : ∀ {vs ts : List V} {L : List Nat}, (∀ v ∈ vs, ∀ t L', f v = some (t, L') → (∀ x ∈ L', x ∈ L) → g v = some (t, L')) → overL f vs = some (ts, L) → overL g vs = some (ts, L)
  | [], ts, L, _, h => h
  | v :: vs, ts, L, hf, h => by
    obtain ⟨t, ts', L1, L2, rfl, rfl, h1, h2⟩ := overL_cons' h
    exact overL_mk (hf v (by simp) t L1 h1 (by simp +contextual)) (overL_imp (fun u hu t' L' h3 h4 => hf u (by simp [hu]) t' L' h3 fun x hx => by simp [h4 x hx]) h2)

theorem giveX_size {d : Nat} {H : Nat → Option Blk} {v t : V} {L : List Nat} (h : giveX d H v = some (t, L)) : t.size = v.size := by
  cases d with
  | zero => simp [giveX] at h
  | succ d =>
    cases v <;> simp only [giveX] at h <;> try (cases h; done)
    case st cs => split at h
                  · rename_i h1
                    obtain ⟨rfl, _⟩ := Prod.mk.inj (Option.some.inj h)
                    simpa [V.size] using overL_len h1
                  · cases h
    case cl f cs => split at h
                    · obtain ⟨rfl, _⟩ := Prod.mk.inj (Option.some.inj h); rfl
                    · cases h
    case hs b off n c => split at h
                         · split at h
                           · split at h
                             · obtain ⟨rfl, _⟩ := Prod.mk.inj (Option.some.inj h); rfl
                             · cases h
                           · cases h
                         · cases h
    case hp b i => split at h
                   · split at h
                     · split at h
                       · split at h
                         · split at h
                           · obtain ⟨rfl, _⟩ := Prod.mk.inj (Option.some.inj h); rfl
                           · cases h
                         · cases h
                       · cases h
                     · cases h
                   · cases h
    all_goals (obtain ⟨rfl, _⟩ := Prod.mk.inj (Option.some.inj h); rfl)

/-- It looks at the blocks that it names, alone. -/
theorem giveX_congr {H H' : Nat → Option Blk} : ∀ (d : Nat) (v t : V) (L : List Nat), giveX d H v = some (t, L) → (∀ x ∈ L, H' x = H x) → giveX d H' v = some (t, L)
  | 0, _, _, _, h, _ => by simp [giveX] at h
  | d + 1, v, t, L, h, hH => by
    have lst : ∀ (cs ts : List V) (L' : List Nat), overL (giveX d H) cs = some (ts, L') → (∀ x ∈ L', H' x = H x) → overL (giveX d H') cs = some (ts, L') :=
      fun cs ts L' h1 h2 => overL_imp (fun v _ t L'' h3 h4 => giveX_congr d v t L'' h3 fun x hx => h2 x (h4 x hx)) h1
    cases v <;> simp only [giveX] at h ⊢ <;> try exact h
    case st cs =>
      split at h
      · rename_i ts i h1
        obtain ⟨rfl, rfl⟩ := Prod.mk.inj (Option.some.inj h)
        rw [lst _ _ _ h1 hH]
      · cases h
    case hs b off n c =>
      split at h
      · rename_i B hB
        split at h
        · rename_i hc
          split at h
          · rename_i ts i h1
            obtain ⟨rfl, rfl⟩ := Prod.mk.inj (Option.some.inj h)
            rw [hH b (by simp), hB]
            simp only [hc, and_self, if_true]
            rw [lst _ _ _ h1 fun x hx => hH x (by simp [hx])]
          · cases h
        · cases h
      · cases h
    case hp b i =>
      split at h
      · rename_i B hB
        split at h
        · rename_i hc
          split at h
          · rename_i e he
            split at h
            · rename_i t' j h1
              split at h
              · rename_i hk
                obtain ⟨rfl, rfl⟩ := Prod.mk.inj (Option.some.inj h)
                rw [hH b (by simp), hB]
                simp only [hc, if_true, he]
                rw [giveX_congr d _ _ _ h1 fun x hx => hH x (by simp [hx])]
                simp only [hk, if_true]
              · cases h
            · cases h
          · cases h
        · cases h
      · cases h

/-- The blocks that it names are there. -/
theorem giveX_some {H : Nat → Option Blk} : ∀ (d : Nat) (v t : V) (L : List Nat), giveX d H v = some (t, L) → ∀ x ∈ L, H x ≠ none
  | 0, _, _, _, h => by simp [giveX] at h
  | d + 1, v, t, L, h => by
    have lst : ∀ (cs ts : List V) (L' : List Nat), overL (giveX d H) cs = some (ts, L') → ∀ x ∈ L', H x ≠ none := by
      intro cs
      induction cs with
      | nil => intro ts L' h1 x hx; simp only [overL, Option.some.injEq, Prod.mk.injEq] at h1; rw [← h1.2] at hx; simp at hx
      | cons c cs ih =>
        intro ts L' h1 x hx
        obtain ⟨t, ts', L1, L2, rfl, rfl, h2, h3⟩ := overL_cons' h1
        rcases List.mem_append.1 hx with hx | hx
        · exact giveX_some d _ _ _ h2 x hx
        · exact ih _ _ h3 x hx
    have nil : ∀ {u : V}, some (u, ([] : List Nat)) = some (t, L) → ∀ x ∈ L, H x ≠ none := by
      intro u h x hx; obtain ⟨_, rfl⟩ := Prod.mk.inj (Option.some.inj h); simp at hx
    cases v <;> simp only [giveX] at h
    case im => exact nil h
    case sl => exact nil h
    case rp => exact nil h
    case e0 => exact nil h
    case st cs =>
      split at h
      · rename_i ts i h1
        obtain ⟨rfl, rfl⟩ := Prod.mk.inj (Option.some.inj h)
        exact lst _ _ _ h1
      · cases h
    case cl f cs =>
      split at h
      · exact nil h
      · cases h
    case hs b off n c =>
      split at h
      · rename_i B hB
        split at h
        · split at h
          · rename_i ts i h1
            obtain ⟨rfl, rfl⟩ := Prod.mk.inj (Option.some.inj h)
            intro x hx
            rcases List.mem_cons.1 hx with rfl | hx
            · rw [hB]; simp
            · exact lst _ _ _ h1 x hx
          · cases h
        · cases h
      · cases h
    case hp b i =>
      split at h
      · rename_i B hB
        split at h
        · split at h
          · split at h
            · rename_i t' j h1
              split at h
              · obtain ⟨rfl, rfl⟩ := Prod.mk.inj (Option.some.inj h)
                intro x hx
                rcases List.mem_cons.1 hx with rfl | hx
                · rw [hB]; simp
                · exact giveX_some d _ _ _ h1 x hx
              · cases h
            · cases h
          · cases h
        · cases h
      · cases h
    all_goals cases h

theorem giveX_le {H : Nat → Option Blk} : ∀ (d : Nat) (v t : V) (L : List Nat), giveX d H v = some (t, L) → giveX (d + 1) H v = some (t, L)
  | 0, _, _, _, h => by simp [giveX] at h
  | d + 1, v, t, L, h => by
    have lst : ∀ (cs ts : List V) (L' : List Nat), overL (giveX d H) cs = some (ts, L') → overL (giveX (d + 1) H) cs = some (ts, L') :=
      fun cs ts L' h1 => overL_imp (fun v _ t L'' h3 _ => giveX_le d v t L'' h3) h1
    rw [giveX.eq_def] at h ⊢
    cases v <;> simp only at h ⊢ <;> try exact h
    case st cs =>
      split at h
      · rename_i ts i h1
        rw [lst _ _ _ h1]; exact h
      · cases h
    case hs b off n c =>
      split at h
      · rename_i B hB
        split at h
        · rename_i hc
          split at h
          · rename_i ts i h1
            rw [if_pos hc, lst _ _ _ h1]; exact h
          · cases h
        · cases h
      · cases h
    case hp b i =>
      split at h
      · rename_i B hB
        split at h
        · rename_i hc
          split at h
          · rename_i e he
            split at h
            · rename_i t' j h1
              rw [if_pos hc]
              try simp only
              rw [giveX_le d _ _ _ h1]; exact h
            · cases h
          · cases h
        · cases h
      · cases h

theorem giveX_mono {H : Nat → Option Blk} {d d' : Nat} (hd : d ≤ d') {v t : V} {L : List Nat} (h : giveX d H v = some (t, L)) : giveX d' H v = some (t, L) := by
  induction hd with
  | refl => exact h
  | step _ ih => exact giveX_le _ _ _ _ ih


theorem giveX_ow {d : Nat} {H : Nat → Option Blk} {a : V} {k : Nat} {es : List V} {L : List Nat} (h : giveX d H a = some (.ow k es, L)) :
    ∃ d' x B L', a = .hs x 0 es.length es.length ∧ H x = some B ∧ B.k = k ∧ B.es.length = es.length ∧ L = x :: L' ∧ overL (giveX d' H) B.es = some (es, L') := by
  cases d with
  | zero => simp [giveX] at h
  | succ d =>
    cases a <;> simp only [giveX] at h <;> try (cases h; done)
    case hs b off n c =>
      split at h
      · rename_i B hB
        split at h
        · rename_i hc
          split at h
          · rename_i ts i h1
            obtain ⟨h2, rfl⟩ := Prod.mk.inj (Option.some.inj h)
            obtain ⟨rfl, rfl⟩ := V.ow.inj h2
            have hl := overL_len h1
            obtain ⟨rfl, rfl, rfl⟩ := hc
            exact ⟨d, b, B, i, by rw [hl], hB, rfl, hl.symm, rfl, h1⟩
          · cases h
        · cases h
      · cases h
    all_goals
      repeat' (split at h)
      all_goals cases h

theorem giveX_op {d : Nat} {H : Nat → Option Blk} {a v : V} {L : List Nat} (h : giveX d H a = some (.op v, L)) :
    ∃ d' x B e L', a = .hp x 0 ∧ H x = some B ∧ B.es = [e] ∧ B.k = v.size ∧ L = x :: L' ∧ giveX d' H e = some (v, L') := by
  cases d with
  | zero => simp [giveX] at h
  | succ d =>
    cases a <;> simp only [giveX] at h <;> try (cases h; done)
    case hp b i =>
      split at h
      · rename_i B hB
        split at h
        · rename_i hc
          subst hc
          split at h
          · rename_i e he
            split at h
            · rename_i t j h1
              split at h
              · rename_i hk
                obtain ⟨h2, rfl⟩ := Prod.mk.inj (Option.some.inj h)
                obtain rfl := V.op.inj h2
                exact ⟨d, b, B, e, j, rfl, hB, he, hk, rfl, h1⟩
              · cases h
            · cases h
          · cases h
        · cases h
      · cases h
    all_goals
      repeat' (split at h)
      all_goals cases h

mutual
theorem Lk.frame {β β' : Bet} {H H' : Nat → Option Blk} (hβ : ∀ b x, β b = some x → β' b = some x) : ∀ (v a : V) (L : List Nat), Lk β H v a L → (∀ x ∈ L, H' x = H x) → Lk β' H' v a L
  | .im x, a, L, h, _ => by simpa [Lk] using h
  | .sl x, a, L, h, _ => by simpa only [Lk] using h
  | .rp x, a, L, h, _ => by simpa only [Lk] using h
  | .e0, a, L, h, _ => by simpa [Lk] using h
  | .st cs, a, L, h, hH => by simp only [Lk] at h ⊢; obtain ⟨as, e, q⟩ := h; exact ⟨as, e, LkL.frame hβ cs as L q hH⟩
  | .tu cs, a, L, h, hH => by simp only [Lk] at h ⊢; obtain ⟨as, e, q⟩ := h; exact ⟨as, e, LkL.frame hβ cs as L q hH⟩
  | .cl f cs, a, L, h, hH => by simp only [Lk] at h ⊢; obtain ⟨⟨as, e, q⟩, h3⟩ := h; exact ⟨⟨as, e, LkL.frame hβ cs as [] q (by simp)⟩, h3⟩
  | .hs b off n c, a, L, h, _ => by simp only [Lk] at h ⊢; obtain ⟨⟨b', h1, h2⟩, h3⟩ := h; exact ⟨⟨b', hβ _ _ h1, h2⟩, h3⟩
  | .hp b i, a, L, h, _ => by simp only [Lk] at h ⊢; obtain ⟨⟨b', h1, h2⟩, h3⟩ := h; exact ⟨⟨b', hβ _ _ h1, h2⟩, h3⟩
  | .hf b i j, a, L, h, _ => by simp only [Lk] at h ⊢; obtain ⟨⟨b', h1, h2⟩, h3⟩ := h; exact ⟨⟨b', hβ _ _ h1, h2⟩, h3⟩
  | .ow k es, a, L, h, hH => by simp only [Lk] at h ⊢; obtain ⟨⟨d, h⟩, hp⟩ := h; exact ⟨⟨d, giveX_congr d _ _ _ h hH⟩, hp⟩
  | .op v, a, L, h, hH => by simp only [Lk] at h ⊢; obtain ⟨⟨d, h⟩, hp⟩ := h; exact ⟨⟨d, giveX_congr d _ _ _ h hH⟩, hp⟩
theorem LkL.frame {β β' : Bet} {H H' : Nat → Option Blk} (hβ : ∀ b x, β b = some x → β' b = some x) : ∀ (vs as : List V) (L : List Nat), LkL β H vs as L → (∀ x ∈ L, H' x = H x) → LkL β' H' vs as L
  | [], as, L, h, _ => by simpa [LkL] using h
  | v :: vs, as, L, h, hH => by
    simp only [LkL] at h ⊢
    obtain ⟨a, as', L1, L2, rfl, rfl, h1, h2⟩ := h
    exact ⟨a, as', L1, L2, rfl, rfl, Lk.frame hβ v a L1 h1 fun x hx => hH x (by simp [hx]), LkL.frame hβ vs as' L2 h2 fun x hx => hH x (by simp [hx])⟩
end

mutual
theorem Lk.there {β : Bet} {H : Nat → Option Blk} : ∀ (v a : V) (L : List Nat), Lk β H v a L → ∀ x ∈ L, H x ≠ none
  | .im x, a, L, h => by simp only [Lk] at h; simp [h.2]
  | .sl x, a, L, h => by simp only [Lk] at h; simp [h.2.1]
  | .rp x, a, L, h => by simp only [Lk] at h; simp [h.2.1]
  | .e0, a, L, h => by simp only [Lk] at h; simp [h.2]
  | .st cs, a, L, h => by simp only [Lk] at h; obtain ⟨as, e, q⟩ := h; exact LkL.there cs as L q
  | .tu cs, a, L, h => by simp only [Lk] at h; obtain ⟨as, e, q⟩ := h; exact LkL.there cs as L q
  | .cl f cs, a, L, h => by simp only [Lk] at h; simp [h.2]
  | .hs b off n c, a, L, h => by simp only [Lk] at h; simp [h.2]
  | .hp b i, a, L, h => by simp only [Lk] at h; simp [h.2]
  | .hf b i j, a, L, h => by simp only [Lk] at h; simp [h.2]
  | .ow k es, a, L, h => by simp only [Lk] at h; obtain ⟨⟨d, h⟩, _⟩ := h; exact giveX_some d _ _ _ h
  | .op v, a, L, h => by simp only [Lk] at h; obtain ⟨⟨d, h⟩, _⟩ := h; exact giveX_some d _ _ _ h
theorem LkL.there {β : Bet} {H : Nat → Option Blk} : ∀ (vs as : List V) (L : List Nat), LkL β H vs as L → ∀ x ∈ L, H x ≠ none
  | [], as, L, h => by simp only [LkL] at h; simp [h.2]
  | v :: vs, as, L, h => by
    simp only [LkL] at h
    obtain ⟨a, as', L1, L2, rfl, rfl, h1, h2⟩ := h
    intro x hx
    rcases List.mem_append.1 hx with hx | hx
    · exact Lk.there v a L1 h1 x hx
    · exact LkL.there vs as' L2 h2 x hx
end

theorem LkL.len {β : Bet} {H : Nat → Option Blk} : ∀ (vs as : List V) (L : List Nat), LkL β H vs as L → as.length = vs.length
  | [], as, L, h => by simp only [LkL] at h; rw [h.1]
  | v :: vs, as, L, h => by
    simp only [LkL] at h
    obtain ⟨a, as', L1, L2, rfl, rfl, h1, h2⟩ := h
    simp [LkL.len vs as' L2 h2]

/-- Without packed memory the heap does not matter. -/
theorem Lk.nil {β β' : Bet} {H H' : Nat → Option Blk} (hβ : ∀ b x, β b = some x → β' b = some x) {v a : V} (h : Lk β H v a []) : Lk β' H' v a [] := Lk.frame hβ v a [] h (by simp)
theorem LkL.nil {β β' : Bet} {H H' : Nat → Option Blk} (hβ : ∀ b x, β b = some x → β' b = some x) {vs as : List V} (h : LkL β H vs as []) : LkL β' H' vs as [] := LkL.frame hβ vs as [] h (by simp)

theorem LkL_nil_iff {β : Bet} {H : Nat → Option Blk} : ∀ {vs as : List V}, LkL β H vs as [] ↔ as.length = vs.length ∧ ∀ (i : Nat) (v a : V), vs[i]? = some v → as[i]? = some a → Lk β H v a []
  | [], as => by
    simp only [LkL, and_true]
    constructor
    · rintro rfl; exact ⟨rfl, fun i v a h => by simp at h⟩
    · rintro ⟨h, _⟩; exact List.length_eq_zero_iff.1 h
  | v :: vs, as => by
    simp only [LkL]
    constructor
    · rintro ⟨a, as', L1, L2, rfl, e, h1, h2⟩
      obtain ⟨rfl, rfl⟩ := List.append_eq_nil_iff.1 e.symm
      obtain ⟨h3, h4⟩ := LkL_nil_iff.1 h2
      refine ⟨by simp [h3], fun i u b hu hb => ?_⟩
      cases i with
      | zero => simp at hu hb; subst hu hb; exact h1
      | succ i => exact h4 i u b (by simpa using hu) (by simpa using hb)
    · rintro ⟨h1, h2⟩
      cases as with
      | nil => simp at h1
      | cons a as' => exact ⟨a, as', [], [], rfl, rfl, h2 0 v a rfl rfl, LkL_nil_iff.2 ⟨by simpa using h1, fun i u b hu hb => h2 (i + 1) u b (by simpa using hu) (by simpa using hb)⟩⟩

theorem Lk_of_giveX {β : Bet} {H : Nat → Option Blk} : ∀ (d : Nat) (a t : V) (L : List Nat), giveX d H a = some (t, L) → Pur t → Lk β H t a L
  | 0, _, _, _, h, _ => by simp [giveX] at h
  | d + 1, a, t, L, h, hp => by
    have h0 := h
    have lst : ∀ (cs ts : List V) (L' : List Nat), overL (giveX d H) cs = some (ts, L') → PurL ts → LkL β H ts cs L' := by
      intro cs
      induction cs with
      | nil => intro ts L' h1 _; simp only [overL, Option.some.injEq, Prod.mk.injEq] at h1; obtain ⟨rfl, rfl⟩ := h1; simp [LkL]
      | cons c cs ih =>
        intro ts L' h1 hp
        obtain ⟨t, ts', i, j, h2, h3, rfl, rfl⟩ := overL_cons h1
        simp only [PurL] at hp
        simp only [LkL]
        exact ⟨c, cs, i, j, rfl, rfl, Lk_of_giveX d c t i h2 hp.1, ih ts' j h3 hp.2⟩
    cases a <;> simp only [giveX] at h <;> try (cases h; done)
    case st cs => split at h
                  · rename_i h1
                    obtain ⟨rfl, rfl⟩ := Prod.mk.inj (Option.some.inj h)
                    simp only [Pur] at hp
                    simp only [Lk]; exact ⟨cs, rfl, lst _ _ _ h1 hp⟩
                  · cases h
    case cl f cs => split at h
                    · rename_i h1
                      obtain ⟨rfl, rfl⟩ := Prod.mk.inj (Option.some.inj h)
                      subst h1
                      simp [Lk, LkL]
                    · cases h
    case hs b off n c => split at h
                         · split at h
                           · split at h
                             · obtain ⟨rfl, rfl⟩ := Prod.mk.inj (Option.some.inj h)
                               simp only [Pur] at hp
                               simp only [Lk]; exact ⟨⟨d + 1, h0⟩, hp⟩
                             · cases h
                           · cases h
                         · cases h
    case hp b i => split at h
                   · split at h
                     · split at h
                       · split at h
                         · split at h
                           · obtain ⟨rfl, rfl⟩ := Prod.mk.inj (Option.some.inj h)
                             simp only [Pur] at hp
                             simp only [Lk]; exact ⟨⟨d + 1, h0⟩, hp⟩
                           · cases h
                         · cases h
                       · cases h
                     · cases h
                   · cases h
    all_goals (obtain ⟨rfl, rfl⟩ := Prod.mk.inj (Option.some.inj h); first | (simp [Lk]; done) | (simp only [Lk, Pur] at hp ⊢; exact ⟨trivial, trivial, hp⟩) | (simp only [Lk, Pur] at hp ⊢; simp [hp]))

mutual
theorem Ror.lk {β : Bet} {H : Nat → Option Blk} : ∀ (v : V), Ror v → Lk β H v v []
  | .im _, _ => by simp [Lk]
  | .e0, _ => by simp [Lk]
  | .st cs, h => by simp only [Ror] at h; simp only [Lk]; exact ⟨cs, rfl, RorL.lk cs h⟩
  | .cl f cs, h => by simp only [Ror] at h; simp only [Lk]; exact ⟨⟨cs, rfl, RorL.lk cs h⟩, trivial⟩
  | .sl es, h => by simp only [Ror] at h; simp [Lk, h]
  | .rp v, h => by simp only [Ror] at h; simp [Lk, h]
  | .tu _, h => by simp [Ror] at h
  | .ow _ _, h => by simp [Ror] at h
  | .op _, h => by simp [Ror] at h
  | .hs .., h => by simp [Ror] at h
  | .hp .., h => by simp [Ror] at h
  | .hf .., h => by simp [Ror] at h
theorem RorL.lk {β : Bet} {H : Nat → Option Blk} : ∀ (vs : List V), RorL vs → LkL β H vs vs []
  | [], _ => by simp [LkL]
  | v :: vs, h => by simp only [RorL] at h; simp only [LkL]; exact ⟨v, vs, [], [], rfl, rfl, Ror.lk v h.1, RorL.lk vs h.2⟩
end

end Go.Am

/- The B-machine, part 3: states that stand to one another, and what keeps it. -/
namespace Go.Am

abbrev Omg := Nat → Option (Nat × Nat)

/-- An element of a block; its packed blocks belong to this place. -/
def Elt (β : Bet) (ω : Omg) (H : Nat → Option Blk) (b i : Nat) (v a : V) : Prop := v = V.dd ∨ ∃ L, Lk β H v a L ∧ L.Nodup ∧ ∀ y ∈ L, ω y = some (b, i) ∧ ∀ b2, β b2 ≠ some y

/-- A state of B, a state of A. 'ep': places of which nothing is said. -/
structure Sim (β : Bet) (ω : Omg) (ep : Nat → Nat → Prop) (sB sA : S) : Prop where
  fzB : sB.fz = false
  fzA : sA.fz = false
  nofr : ∀ x A, sA.H x = some A → A.fr = false
  inj : ∀ b b2 x, β b = some x → β b2 = some x → b = b2
  dom : ∀ b, sB.nx ≤ b → β b = none
  rng : ∀ b x, β b = some x → x < sA.nx
  bdA : Bd sA
  bdB : Bd sB
  env : ∀ t, isUn (sB.e t) = true ∨ Lk β sA.H (sB.e t) (sA.e t) []
  blk : ∀ b B, sB.H b = some B → B.fr = false ∧ ∃ x A, β b = some x ∧ sA.H x = some A ∧ A.k = B.k ∧ A.es.length = B.es.length ∧ ∀ i v a, ¬ ep b i → B.es[i]? = some v → A.es[i]? = some a → Elt β ω sA.H b i v a

def no2 : Nat → Nat → Prop := fun _ _ => False

theorem Elt.nil {β : Bet} {ω : Omg} {H H' : Nat → Option Blk} {b i : Nat} {v a : V} (h : Lk β H v a []) : Elt β ω H' b i v a := .inr ⟨[], Lk.nil (fun _ _ h => h) h, List.nodup_nil, by simp⟩

theorem Elt.frame {β β' : Bet} {ω ω' : Omg} {H H' : Nat → Option Blk} {b i b' i' : Nat} {v a : V} (h : Elt β ω H b i v a) (hβ : ∀ b x, β b = some x → β' b = some x)
    (hH : ∀ y, H y ≠ none → ω y = some (b, i) → (∀ b2, β b2 ≠ some y) → H' y = H y ∧ ω' y = some (b', i') ∧ ∀ b2, β' b2 ≠ some y) : Elt β' ω' H' b' i' v a := by
  rcases h with h | ⟨L, h1, h2, h3⟩
  · exact .inl h
  right
  have hall : ∀ y ∈ L, H' y = H y ∧ ω' y = some (b', i') ∧ ∀ b2, β' b2 ≠ some y := fun y hy => hH y (Lk.there v a L h1 y hy) (h3 y hy).1 (h3 y hy).2
  exact ⟨L, Lk.frame hβ v a L h1 fun x hx => (hall x hx).1, h2, fun y hy => (hall y hy).2⟩

/-- The variables may change. -/
theorem Sim.wi {β : Bet} {ω : Omg} {ep : Nat → Nat → Prop} {sB sA : S} (q : Sim β ω ep sB sA) {eB eA : Nat → V} (h : ∀ t, isUn (eB t) = true ∨ Lk β sA.H (eB t) (eA t) []) : Sim β ω ep (sB.wi eB) (sA.wi eA) :=
  ⟨q.fzB, q.fzA, q.nofr, q.inj, q.dom, q.rng, q.bdA, q.bdB, h, q.blk⟩

theorem Sim.put {β : Bet} {ω : Omg} {ep : Nat → Nat → Prop} {sB sA : S} (q : Sim β ω ep sB sA) {d : Option Nat} {v a : V} (h : isUn v = true ∨ Lk β sA.H v a []) : Sim β ω ep (sB.put d v) (sA.put d a) := by
  rw [put_wi, put_wi]
  refine q.wi fun t => ?_
  cases d with
  | none => exact q.env t
  | some d =>
    simp only [putE, upd]
    split
    · exact h
    · exact q.env t

theorem Sim.lt {β : Bet} {ω : Omg} {ep : Nat → Nat → Prop} {sB sA : S} (q : Sim β ω ep sB sA) {b x : Nat} (h : β b = some x) : b < sB.nx := by
  rcases Nat.lt_or_ge b sB.nx with h' | h'
  · exact h'
  · rw [q.dom b h'] at h; cases h

theorem Sim.there {β : Bet} {ω : Omg} {ep : Nat → Nat → Prop} {sB sA : S} (q : Sim β ω ep sB sA) {y : Nat} (h : sA.H y ≠ none) : y < sA.nx := by
  rcases Nat.lt_or_ge y sA.nx with h' | h'
  · exact h'
  · exact absurd (q.bdA y h') h

theorem upd_beta {β : Bet} {b x : Nat} (h : β b = none) : ∀ b2 y, β b2 = some y → upd β b (some x) b2 = some y := by
  intro b2 y hy
  rw [upd_ne]
  · exact hy
  · rintro rfl; rw [h] at hy; cases hy

/-- A new block on either side. 'ω' may give the new place what no other place has. -/
theorem Sim.new {β : Bet} {ω ω' : Omg} {ep : Nat → Nat → Prop} {sB sA : S} (q : Sim β ω ep sB sA) {k : Nat} {es as : List V} (hl : as.length = es.length)
    (he : ∀ i v a, es[i]? = some v → as[i]? = some a → Elt β ω' sA.H sB.nx i v a) (hω : ∀ y p, ω y = some p → (∀ b2, β b2 ≠ some y) → sA.H y ≠ none → sB.H p.1 ≠ none → ¬ ep p.1 p.2 → ω' y = some p) :
    Sim (upd β sB.nx (some sA.nx)) ω' ep (sB.new k es) (sA.new k as) := by
  have hd := q.dom sB.nx (Nat.le_refl _)
  have hβ := upd_beta (x := sA.nx) hd
  have hn : ∀ y, y < sA.nx → (∀ b2, β b2 ≠ some y) → ∀ b2, upd β sB.nx (some sA.nx) b2 ≠ some y := by
    intro y hy h b2 hh
    by_cases e : b2 = sB.nx
    · subst e; rw [upd_same] at hh; cases hh; omega
    · rw [upd_ne _ _ e] at hh; exact h b2 hh
  refine ⟨q.fzB, q.fzA, fun x A hA => ?_, fun b b2 x h1 h2 => ?_, fun b hb => ?_, fun b x hx => ?_, fun x hx => ?_, fun b hb => ?_, fun t => ?_, fun b B hB => ?_⟩
  · simp only [S.new] at hA
    by_cases e : x = sA.nx
    · subst e; rw [upd_same] at hA; obtain rfl := Option.some.inj hA; rfl
    · rw [upd_ne _ _ e] at hA; exact q.nofr x A hA
  · by_cases e1 : b = sB.nx <;> by_cases e2 : b2 = sB.nx
    · rw [e1, e2]
    · subst e1; rw [upd_same] at h1; obtain rfl := Option.some.inj h1
      rw [upd_ne _ _ e2] at h2
      have := q.rng b2 _ h2; omega
    · subst e2; rw [upd_same] at h2; obtain rfl := Option.some.inj h2
      rw [upd_ne _ _ e1] at h1
      have := q.rng b _ h1; omega
    · rw [upd_ne _ _ e1] at h1; rw [upd_ne _ _ e2] at h2; exact q.inj b b2 x h1 h2
  · simp only [S.new] at hb
    rw [upd_ne _ _ (by omega)]; exact q.dom b (by omega)
  · show x < sA.nx + 1
    by_cases e : b = sB.nx
    · subst e; rw [upd_same] at hx; obtain rfl := Option.some.inj hx; omega
    · rw [upd_ne _ _ e] at hx; have := q.rng b x hx; omega
  · simp only [S.new] at hx ⊢; rw [upd_ne _ _ (by omega)]; exact q.bdA x (by omega)
  · simp only [S.new] at hb ⊢; rw [upd_ne _ _ (by omega)]; exact q.bdB b (by omega)
  · rcases q.env t with h | h
    · exact .inl h
    · exact .inr (Lk.nil hβ h)
  · simp only [S.new] at hB ⊢
    by_cases e : b = sB.nx
    · subst e
      rw [upd_same] at hB
      obtain rfl := Option.some.inj hB
      refine ⟨rfl, sA.nx, { k, es := as }, upd_same _ _ _, upd_same _ _ _, rfl, hl, fun i v a _ hv ha => ?_⟩
      refine (he i v a hv ha).frame hβ fun y hy h1 h2 => ⟨?_, h1, hn y (q.there hy) h2⟩
      rw [upd_ne]; have := q.there hy; omega
    · rw [upd_ne _ _ e] at hB
      obtain ⟨h0, x, A, h1, h2, h3, h4, h5⟩ := q.blk b B hB
      refine ⟨h0, x, A, hβ _ _ h1, ?_, h3, h4, fun i v a hep hv ha => ?_⟩
      · rw [upd_ne]; · exact h2
        have := q.rng b x h1; omega
      · refine (h5 i v a hep hv ha).frame hβ fun y hy h6 h7 => ⟨?_, hω y _ h6 h7 hy (by rw [hB]; simp) hep, hn y (q.there hy) h7⟩
        rw [upd_ne]; have := q.there hy; omega

/-- A block on either side gets other elements. -/
theorem Sim.set {β : Bet} {ω ω' : Omg} {ep ep' : Nat → Nat → Prop} {sB sA : S} (q : Sim β ω ep sB sA) {b x : Nat} {B A : Blk} (hB : sB.H b = some B) (hx : β b = some x) (hA : sA.H x = some A) {es as : List V} (hl : as.length = es.length)
    (he : ∀ i v a, ¬ ep' b i → es[i]? = some v → as[i]? = some a → Elt β ω' sA.H b i v a) (hω : ∀ y p, ω y = some p → p.1 ≠ b → ¬ ep p.1 p.2 → ω' y = some p) (hep : ∀ b2 i, b2 ≠ b → ¬ ep' b2 i → ¬ ep b2 i) :
    Sim β ω' ep' { sB with H := upd sB.H b (some { B with es := es }) } { sA with H := upd sA.H x (some { A with es := as }) } := by
  have keep : ∀ y, (∀ b2, β b2 ≠ some y) → upd sA.H x (some { A with es := as }) y = sA.H y := fun y h => by
    rw [upd_ne]; rintro rfl; exact h b hx
  refine ⟨q.fzB, q.fzA, fun y A' hA' => ?_, q.inj, q.dom, q.rng, fun y hy => ?_, fun b2 hb => ?_, fun t => ?_, fun b2 B2 hB2 => ?_⟩
  · by_cases e : y = x
    · subst e; simp only [upd_same, Option.some.injEq] at hA'; subst hA'; exact q.nofr y A hA
    · simp only [upd_ne _ _ e] at hA'; exact q.nofr y A' hA'
  · show upd sA.H x _ y = none
    rw [upd_ne]; · exact q.bdA y hy
    rintro rfl; have := q.rng b y hx; exact absurd hy (by simp only; omega)
  · show upd sB.H b _ b2 = none
    rw [upd_ne]; · exact q.bdB b2 hb
    rintro rfl; have := q.lt hx; exact absurd hb (by simp only; omega)
  · rcases q.env t with h | h
    · exact .inl h
    · exact .inr (Lk.nil (fun _ _ h => h) h)
  · by_cases e : b2 = b
    · subst e
      simp only [upd_same, Option.some.injEq] at hB2
      subst hB2
      obtain ⟨h0, x', A', h1, h2, h3, h4, h5⟩ := q.blk b2 B hB
      rw [hx] at h1; obtain rfl := Option.some.inj h1
      rw [hA] at h2; obtain rfl := Option.some.inj h2
      refine ⟨h0, x, { A with es := as }, hx, upd_same _ _ _, h3, hl, fun i v a hi hv ha => ?_⟩
      exact (he i v a hi hv ha).frame (fun _ _ h => h) fun y hy h6 h7 => ⟨keep y h7, h6, h7⟩
    · simp only [upd_ne _ _ e] at hB2
      obtain ⟨h0, x', A', h1, h2, h3, h4, h5⟩ := q.blk b2 B2 hB2
      refine ⟨h0, x', A', h1, ?_, h3, h4, fun i v a hi hv ha => ?_⟩
      · show upd sA.H x _ x' = _
        rw [upd_ne]; · exact h2
        rintro rfl; exact e (q.inj _ _ _ h1 hx)
      · exact (h5 i v a (hep b2 i e hi) hv ha).frame (fun _ _ h => h) fun y hy h6 h7 => ⟨keep y h7, hω y _ h6 e (hep b2 i e hi), h7⟩

/-- Blocks go, on either side. -/
theorem Sim.kill {β : Bet} {ω : Omg} {ep : Nat → Nat → Prop} {sB sA : S} (q : Sim β ω ep sB sA) {os xs : List Nat} (h : ∀ x ∈ xs, ∃ b ∈ os, β b = some x ∨ ((∀ b2, β b2 ≠ some x) ∧ ∃ i, ω x = some (b, i))) :
    Sim β ω ep (sB.mem (kill sB.H os)) (sA.mem (kill sA.H xs)) := by
  have keep : ∀ y b i, ω y = some (b, i) → (∀ b2, β b2 ≠ some y) → b ∉ os → Am.kill sA.H xs y = sA.H y := fun y b i h1 h2 h3 => by
    unfold Am.kill
    rw [if_neg]
    intro hy
    obtain ⟨b', hb', h4 | ⟨_, j, h4⟩⟩ := h y hy
    · exact h2 _ h4
    · rw [h1] at h4; cases h4; exact h3 hb'
  refine ⟨q.fzB, q.fzA, fun y A hA => ?_, q.inj, q.dom, q.rng, fun y hy => ?_, fun b hb => ?_, fun t => ?_, fun b B hB => ?_⟩
  · simp only [S.mem, Am.kill] at hA
    split at hA
    · cases hA
    · exact q.nofr y A hA
  · simp only [S.mem, Am.kill]; split
    · rfl
    · exact q.bdA y hy
  · simp only [S.mem, Am.kill]; split
    · rfl
    · exact q.bdB b hb
  · rcases q.env t with h | h
    · exact .inl h
    · exact .inr (Lk.nil (fun _ _ h => h) h)
  · simp only [S.mem, Am.kill] at hB ⊢
    split at hB
    · cases hB
    · rename_i hbo
      obtain ⟨h0, x, A, h1, h2, h3, h4, h5⟩ := q.blk b B hB
      refine ⟨h0, x, A, h1, ?_, h3, h4, fun i v a hi hv ha => ?_⟩
      · rw [if_neg]; · exact h2
        intro hx
        obtain ⟨b', hb', h6 | ⟨h6, _⟩⟩ := h x hx
        · rw [q.inj _ _ _ h1 h6] at hbo; exact hbo hb'
        · exact h6 b h1
      · exact (h5 i v a hi hv ha).frame (fun _ _ h => h) fun y hy h6 h7 => ⟨keep y b i h6 h7 hbo, h6, h7⟩

/-- Of more places nothing is said. -/
theorem Sim.less {β : Bet} {ω : Omg} {ep ep' : Nat → Nat → Prop} {sB sA : S} (q : Sim β ω ep sB sA) (h : ∀ b i, ep b i → ep' b i) : Sim β ω ep' sB sA :=
  ⟨q.fzB, q.fzA, q.nofr, q.inj, q.dom, q.rng, q.bdA, q.bdB, q.env, fun b B hB => by
    obtain ⟨h0, x, A, h1, h2, h3, h4, h5⟩ := q.blk b B hB
    exact ⟨h0, x, A, h1, h2, h3, h4, fun i v a hi => h5 i v a fun hh => hi (h b i hh)⟩⟩

end Go.Am

/- The B-machine, part 4: every operation but loads and calls. -/
namespace Go.Am

variable {β : Bet} {ω : Omg} {sB sA : S}

theorem Lk_im {H : Nat → Option Blk} {x : Value} {a : V} (h : Lk β H (.im x) a []) : a = .im x := by simpa [Lk] using h
theorem Lk_im' {H : Nat → Option Blk} {x : Value} : Lk β H (.im x) (.im x) [] := by simp [Lk]
theorem Lk_st {H : Nat → Option Blk} {cs : List V} {a : V} (h : Lk β H (.st cs) a []) : ∃ as, a = .st as ∧ LkL β H cs as [] := by simpa [Lk] using h
theorem Lk_hs {H : Nat → Option Blk} {b off n c : Nat} {a : V} (h : Lk β H (.hs b off n c) a []) : ∃ x, β b = some x ∧ a = .hs x off n c := by simpa [Lk] using h
theorem Lk_hp {H : Nat → Option Blk} {b i : Nat} {a : V} (h : Lk β H (.hp b i) a []) : ∃ x, β b = some x ∧ a = .hp x i := by simpa [Lk] using h
theorem Lk_hf {H : Nat → Option Blk} {b i j : Nat} {a : V} (h : Lk β H (.hf b i j) a []) : ∃ x, β b = some x ∧ a = .hf x i j := by simpa [Lk] using h
theorem Lk_sl {H : Nat → Option Blk} {es : List V} {a : V} (h : Lk β H (.sl es) a []) : a = .sl es ∧ RorL es := by simpa [Lk] using h
theorem Lk_rp {H : Nat → Option Blk} {v a : V} (h : Lk β H (.rp v) a []) : a = .rp v ∧ Ror v := by simpa [Lk] using h
theorem Lk_e0 {H : Nat → Option Blk} {a : V} (h : Lk β H .e0 a []) : a = .e0 := by simpa [Lk] using h

theorem isUn_iff {v : V} : isUn v = true ↔ v = V.dd := by
  unfold isUn
  split
  · exact ⟨fun _ => rfl, fun _ => rfl⟩
  · rename_i h
    constructor
    · intro hh; cases hh
    · rintro rfl; exact absurd rfl h

theorem un_okc : V.okc V.dd = false := rfl
theorem un_fits (q : Option Nat) : V.fits q V.dd = false := by cases q <;> rfl

/-- An operand. -/
theorem Sim.val {ep : Nat → Nat → Prop} (q : Sim β ω ep sB sA) {o : O} (ho : o.kok = true) : isUn (val sB.e o) = true ∨ Lk β sA.H (val sB.e o) (val sA.e o) [] := by
  cases o with
  | t n => exact q.env n
  | n z => exact .inr (by simp [Am.val, Lk])
  | k v =>
    right
    simp only [Am.val]
    simp only [O.kok] at ho
    split at ho
    · simp [Lk]
    · simp [Lk]
    · simp [Lk, LkL]
    · cases ho

theorem Sim.val' {ep : Nat → Nat → Prop} (q : Sim β ω ep sB sA) {o : O} (ho : o.kok = true) (h : isUn (Am.val sB.e o) = false) : Lk β sA.H (Am.val sB.e o) (Am.val sA.e o) [] := by
  rcases q.val ho with h' | h'
  · rw [h] at h'; cases h'
  · exact h'

theorem asI_un {v : V} {n : Int} (h : asI v = some n) : ∃ k, v = .im (.int k n) := by
  unfold asI at h
  split at h
  · rename_i k m; obtain rfl := Option.some.inj h; exact ⟨k, rfl⟩
  · cases h

theorem Sim.asI {ep : Nat → Nat → Prop} (q : Sim β ω ep sB sA) {o : O} (ho : o.kok = true) {n : Int} (h : Am.asI (Am.val sB.e o) = some n) : Am.asI (Am.val sA.e o) = some n := by
  obtain ⟨k, hk⟩ := asI_un h
  have := q.val' ho (by rw [hk]; rfl)
  rw [hk] at this
  rw [Lk_im this]; rfl

theorem Sim.bnd {ep : Nat → Nat → Prop} (q : Sim β ω ep sB sA) {d : Nat} {o : Option O} (ho : ∀ x ∈ o.toList, x.kok = true) {n : Int} (h : bndOf d (o.map (Am.val sB.e)) = some n) : bndOf d (o.map (Am.val sA.e)) = some n := by
  cases o with
  | none => exact h
  | some x => exact q.asI (ho x (by simp)) h

theorem okc_rel {H : Nat → Option Blk} {v a : V} (h : Lk β H v a []) (hv : v.okc = true) : a.okc = true := by
  cases v <;> simp only [V.okc, Bool.false_eq_true] at hv
  case im x => rw [Lk_im h]; exact hv
  case hs => obtain ⟨x, _, rfl⟩ := Lk_hs h; rfl
  case hp => obtain ⟨x, _, rfl⟩ := Lk_hp h; rfl
  case hf => obtain ⟨x, _, rfl⟩ := Lk_hf h; rfl
  case sl => rw [(Lk_sl h).1]; rfl
  case rp => rw [(Lk_rp h).1]; rfl
  case e0 => rw [Lk_e0 h]; rfl
  case cl f cs => simp only [Lk] at h; obtain ⟨⟨as, rfl, _⟩, _⟩ := h; rfl

theorem all_rel {H : Nat → Option Blk} {f : V → Bool} (hf : ∀ v a, Lk β H v a [] → f v = true → f a = true) : ∀ {vs as : List V}, LkL β H vs as [] → vs.all f = true → as.all f = true := by
  intro vs as h hv
  obtain ⟨hl, hh⟩ := LkL_nil_iff.1 h
  rw [List.all_eq_true] at hv ⊢
  intro a ha
  obtain ⟨i, hi⟩ := List.mem_iff_getElem?.1 ha
  have hlt : i < vs.length := by rw [← hl]; exact (List.getElem?_eq_some_iff.1 hi).1
  exact hf _ _ (hh i vs[i] a (List.getElem?_eq_getElem hlt) hi) (hv _ (List.getElem_mem hlt))

theorem fits_rel {H : Nat → Option Blk} {q : Option Nat} {v a : V} (h : Lk β H v a []) (hv : v.fits q = true) : a.fits q = true := by
  cases q with
  | none => exact okc_rel h hv
  | some n =>
    cases v <;> simp only [V.fits, Bool.false_eq_true] at hv
    obtain ⟨as, rfl, hl⟩ := Lk_st h
    simp only [V.fits, Bool.and_eq_true, beq_iff_eq] at hv ⊢
    exact ⟨by rw [(LkL_nil_iff.1 hl).1]; exact hv.1, all_rel (fun _ _ => okc_rel) hl hv.2⟩

theorem okc_nopk {H : Nat → Option Blk} {v a : V} {L : List Nat} (h : Lk β H v a L) (hv : v.okc = true) : L = [] := by
  cases v <;> simp only [V.okc, Bool.false_eq_true] at hv <;> simp only [Lk] at h
  case sl => exact h.2.1
  case rp => exact h.2.1
  all_goals exact h.2

/-- What an operation comes to on either side. -/
def Out (β : Bet) (sA : S) (sB' : S) (v : V) (rA : Option (V × S)) : Prop :=
  ∃ β' ω' a sA', rA = some (a, sA') ∧ Sim β' ω' no2 sB' sA' ∧ (isUn v = true ∨ Lk β' sA'.H v a []) ∧ ∀ b x, β b = some x → β' b = some x

theorem Out.same (q : Sim β ω no2 sB sA) {v a : V} {rA : Option (V × S)} (h : rA = some (a, sA)) (hl : isUn v = true ∨ Lk β sA.H v a []) : Out β sA sB v rA := ⟨β, ω, a, sA, h, q, hl, fun _ _ h => h⟩

/-- A new block of values without packed memory. -/
theorem Out.new (q : Sim β ω no2 sB sA) {k : Nat} {es as : List V} (h : LkL β sA.H es as []) {v a : V} {rA : Option (V × S)} (hr : rA = some (a, sA.new k as))
    (hv : Lk (upd β sB.nx (some sA.nx)) (sA.new k as).H v a []) : Out β sA (sB.new k es) v rA := by
  obtain ⟨hl, hh⟩ := LkL_nil_iff.1 h
  exact ⟨_, ω, a, _, hr, q.new hl (fun i v a h1 h2 => Elt.nil (hh i v a h1 h2)) (fun y p h _ _ _ _ => h), .inr hv, upd_beta (q.dom _ (Nat.le_refl _))⟩

theorem LkL_map {H : Nat → Option Blk} {ep : Nat → Nat → Prop} (q : Sim β ω ep sB sA) {xs : List O} (hk : ∀ x ∈ xs, x.kok = true) (hu : ∀ x ∈ xs, isUn (Am.val sB.e x) = false) : LkL β H (xs.map (Am.val sB.e)) (xs.map (Am.val sA.e)) [] := by
  refine LkL_nil_iff.2 ⟨by simp, fun i v a hv ha => ?_⟩
  rw [List.getElem?_map] at hv ha
  obtain ⟨x, hx, rfl⟩ := Option.map_eq_some_iff.1 hv
  obtain ⟨x', hx', rfl⟩ := Option.map_eq_some_iff.1 ha
  rw [hx] at hx'; obtain rfl := Option.some.inj hx'
  exact Lk.nil (fun _ _ h => h) (q.val' (hk x (List.mem_of_getElem? hx)) (hu x (List.mem_of_getElem? hx)))

theorem LkL_rep {H : Nat → Option Blk} {v a : V} (h : Lk β H v a []) (n : Nat) : LkL β H (List.replicate n v) (List.replicate n a) [] := by
  refine LkL_nil_iff.2 ⟨by simp, fun i u b hu hb => ?_⟩
  rw [List.getElem?_replicate] at hu hb
  split at hu
  · rename_i hi
    rw [if_pos hi] at hb
    cases hu; cases hb; exact h
  · cases hu

theorem pln_lk {H : Nat → Option Blk} {z : V} (h : pln z = true) : Lk β H z z [] := by
  cases z <;> simp only [pln, Bool.false_eq_true] at h
  case im => simp [Lk]
  case e0 => simp [Lk]
  case st cs =>
    simp only [Lk]
    refine ⟨cs, rfl, LkL_nil_iff.2 ⟨rfl, fun i v a hv ha => ?_⟩⟩
    rw [hv] at ha; obtain rfl := Option.some.inj ha
    have := List.all_eq_true.1 h v (List.mem_of_getElem? hv)
    cases v <;> simp_all [Lk]

theorem Sim.get {ep : Nat → Nat → Prop} (q : Sim β ω ep sB sA) {b x : Nat} {B : Blk} (hB : sB.H b = some B) (hx : β b = some x) : ∃ A, sA.H x = some A ∧ A.k = B.k ∧ A.fr = false ∧ B.fr = false ∧ A.es.length = B.es.length ∧
    ∀ i v a, ¬ ep b i → B.es[i]? = some v → A.es[i]? = some a → Elt β ω sA.H b i v a := by
  obtain ⟨h0, x', A, h1, h2, h3, h4, h5⟩ := q.blk b B hB
  rw [hx] at h1; obtain rfl := Option.some.inj h1
  exact ⟨A, h2, h3, q.nofr _ _ h2, h0, h4, h5⟩

theorem LkL_cons_inv {H : Nat → Option Blk} {v : V} {vs as : List V} {L : List Nat} (h : LkL β H (v :: vs) as L) : ∃ a as' L1 L2, as = a :: as' ∧ L = L1 ++ L2 ∧ Lk β H v a L1 ∧ LkL β H vs as' L2 := by simpa [LkL] using h

theorem okcs_nopk {H : Nat → Option Blk} : ∀ {vs as : List V} {L : List Nat}, LkL β H vs as L → vs.all V.okc = true → L = []
  | [], as, L, h, _ => by simp only [LkL] at h; exact h.2
  | v :: vs, as, L, h, hv => by
    obtain ⟨a, as', L1, L2, rfl, rfl, h1, h2⟩ := LkL_cons_inv h
    simp only [List.all_cons, Bool.and_eq_true] at hv
    rw [okc_nopk h1 hv.1, okcs_nopk h2 hv.2]; rfl

theorem fits_nopk {H : Nat → Option Blk} {q : Option Nat} {v a : V} {L : List Nat} (h : Lk β H v a L) (hv : v.fits q = true) : L = [] := by
  cases q with
  | none => exact okc_nopk h hv
  | some n =>
    cases v <;> simp only [V.fits, Bool.false_eq_true] at hv
    simp only [Lk] at h
    obtain ⟨as, rfl, hl⟩ := h
    simp only [Bool.and_eq_true] at hv
    exact okcs_nopk hl hv.2

theorem Elt.fits {b i : Nat} {H : Nat → Option Blk} {q : Option Nat} {v a : V} (h : Elt β ω H b i v a) (hv : v.fits q = true) : Lk β H v a [] := by
  rcases h with rfl | ⟨L, h1, _, _⟩
  · cases q <;> cases hv
  rw [fits_nopk h1 hv] at h1; exact h1

theorem elems_rel (qs : Sim β ω no2 sB sA) {q : Option Nat} {v a : V} {src : List V} (h : elems sB.H v = some src) (hl : Lk β sA.H v a []) (hf : src.all (·.fits q) = true) : ∃ src', elems sA.H a = some src' ∧ LkL β sA.H src src' [] := by
  cases v <;> simp only [elems] at h <;> try (cases h; done)
  case sl es =>
    obtain rfl := Option.some.inj h
    obtain ⟨rfl, hr⟩ := Lk_sl hl
    exact ⟨es, rfl, RorL.lk es hr⟩
  case e0 =>
    obtain rfl := Option.some.inj h
    rw [Lk_e0 hl]
    exact ⟨[], rfl, by simp [LkL]⟩
  case hs b off n c =>
    obtain ⟨x, hx, rfl⟩ := Lk_hs hl
    simp only [elems]
    split at h
    · rename_i hn
      obtain rfl := Option.some.inj h
      rw [if_pos hn]
      exact ⟨[], rfl, by simp [LkL]⟩
    · rename_i hn
      rw [if_neg hn]
      split at h
      · rename_i B hB
        split at h
        · rename_i hle
          obtain rfl := Option.some.inj h
          obtain ⟨A, hA, _, _, _, hlen, he⟩ := qs.get hB hx
          simp only [hA]
          rw [if_pos (by omega)]
          refine ⟨_, rfl, LkL_nil_iff.2 ⟨by simp [hlen], fun i u w hu hw => ?_⟩⟩
          rw [List.getElem?_take] at hu hw
          split at hu
          · rename_i hi
            rw [if_pos hi] at hw
            rw [List.getElem?_drop] at hu hw
            refine (he _ u w (fun h => h) hu hw).fits (q := q) ?_
            exact List.all_eq_true.1 hf u (List.mem_of_getElem? (i := i) (by rw [List.getElem?_take, if_pos hi, List.getElem?_drop]; exact hu))
          · cases hu
        · cases h
      · cases h

theorem LkL_app {H : Nat → Option Blk} {vs as us bs : List V} {L1 L2 : List Nat} (h1 : LkL β H vs as L1) (h2 : LkL β H us bs L2) : LkL β H (vs ++ us) (as ++ bs) (L1 ++ L2) := by
  induction vs generalizing as L1 with
  | nil => simp only [LkL] at h1; obtain ⟨rfl, rfl⟩ := h1; simpa using h2
  | cons v vs ih =>
    obtain ⟨a, as', K1, K2, rfl, rfl, h3, h4⟩ := LkL_cons_inv h1
    simp only [List.cons_append, LkL]
    exact ⟨a, as' ++ bs, K1, K2 ++ L2, rfl, by simp, h3, ih h4⟩

/-- Appending. -/
theorem append_sim (qs : Sim β ω no2 sB sA) {q : Option Nat} {v a : V} {src src' : List V} {r : V} {sB' : S} (hl : Lk β sA.H v a []) (hs : LkL β sA.H src src' []) (h : appendTo sB q v src = some (r, sB')) :
    Out β sA sB' r (appendTo sA q a src') := by
  have hlen : src'.length = src.length := (LkL_nil_iff.1 hs).1
  have hget := (LkL_nil_iff.1 hs).2
  cases v <;> simp only [appendTo] at h <;> try (cases h; done)
  case e0 =>
    rw [Lk_e0 hl]
    split at h
    · rename_i hn
      obtain ⟨rfl, rfl⟩ := Prod.mk.inj (Option.some.inj h)
      subst hn
      simp only [LkL] at hs
      obtain ⟨rfl, _⟩ := hs
      exact Out.same qs (a := .e0) (by simp [appendTo]) (.inr (by simp [Lk]))
    · rename_i hn
      split at h
      · rename_i hle
        obtain ⟨rfl, rfl⟩ := Prod.mk.inj (Option.some.inj h)
        refine Out.new qs hs (a := .hs sA.nx 0 src.length src.length) ?_ ?_
        · simp only [appendTo]
          rw [if_neg, if_pos]
          · rw [hlen]
          · omega
          · intro e; subst e; simp at hlen; exact hn (List.length_eq_zero_iff.1 hlen.symm)
        · simp only [Lk, and_true]; exact ⟨_, upd_same _ _ _, rfl⟩
      · cases h
  case hs b off n c =>
    obtain ⟨x, hx, rfl⟩ := Lk_hs hl
    split at h
    case h_2 => cases h
    rename_i B hB
    obtain ⟨A, hA, hk, hfr, hfrB, hal, he⟩ := qs.get hB hx
    split at h
    case isFalse => cases h
    rename_i hc
    simp only [appendTo, hA]
    rw [if_pos ⟨hk.trans hc.1, hfr, by rw [hlen]; exact hc.2.2⟩]
    simp only [hlen]
    split at h
    · rename_i hcap
      rw [if_pos hcap]
      split at h
      · rename_i hle
        rw [if_pos (by omega)]
        obtain ⟨rfl, rfl⟩ := Prod.mk.inj (Option.some.inj h)
        have q2 := qs.set (ω' := ω) (ep' := no2) hB hx hA (es := splice B.es (off + n) src) (as := splice A.es (off + n) src') (by simp [splice, hal, hlen]) (fun i u w _ hu hw => ?_) (fun y p h _ _ => h) (fun _ _ _ _ h => h)
        · exact ⟨β, ω, _, _, rfl, q2, .inr (by simp only [Lk, and_true]; exact ⟨x, hx, rfl⟩), fun _ _ h => h⟩
        · have h1 : (A.es.take (off + n)).length = (B.es.take (off + n)).length := by simp [hal]
          simp only [splice, List.append_assoc] at hu hw
          rcases Nat.lt_or_ge i (off + n) with hi | hi
          · rw [List.getElem?_append_left (by simp; omega)] at hu hw
            rw [List.getElem?_take, if_pos hi] at hu hw
            exact he i u w (fun h => h) hu hw
          · rw [List.getElem?_append_right (by simp; omega)] at hu hw
            have e1 : (B.es.take (off + n)).length = off + n := by simp; omega
            have e2 : (A.es.take (off + n)).length = off + n := by simp; omega
            rw [e1] at hu; rw [e2] at hw
            rcases Nat.lt_or_ge (i - (off + n)) src.length with hj | hj
            · rw [List.getElem?_append_left (by omega)] at hu hw
              exact Elt.nil (hget _ _ _ hu hw)
            · rw [List.getElem?_append_right (by omega)] at hu hw
              rw [List.getElem?_drop] at hu hw
              rw [show off + n + src.length + (i - (off + n) - src.length) = i by omega] at hu
              rw [hlen, show off + n + src.length + (i - (off + n) - src.length) = i by omega] at hw
              exact he i u w (fun h => h) hu hw
      · cases h
    · rename_i hcap
      rw [if_neg hcap]
      split at h
      · rename_i hex
        rw [if_pos (by omega)]
        obtain ⟨rfl, rfl⟩ := Prod.mk.inj (Option.some.inj h)
        have hkl : ∀ (H : Nat → Option Blk) (b : Nat), upd H b none = kill H [b] := by
          intro H b; funext y; simp only [upd, kill, List.mem_singleton]
        have q1 := qs.kill (os := [b]) (xs := [x]) (by simp [hx])
        have q2 := q1.new (ω' := fun y => match ω y with | some (b', i) => if b' = b then some (sB.nx, i - off) else some (b', i) | none => none) (k := ksz q) (es := B.es.drop off ++ src) (as := A.es.drop off ++ src') (by simp [hal, hlen]) (fun i u w hu hw => ?_) (fun y p h1 h2 h3 h4 _ => ?_)
        · refine ⟨upd β sB.nx (some sA.nx), (fun y => match ω y with | some (b', i) => if b' = b then some (sB.nx, i - off) else some (b', i) | none => none), .hs sA.nx 0 (n + src.length) (n + src.length), (sA.blk x none).new (ksz q) (A.es.drop off ++ src'), rfl, ?_, .inr (by simp only [Lk, and_true]; exact ⟨_, upd_same _ _ _, rfl⟩), upd_beta (qs.dom _ (Nat.le_refl _))⟩
          simpa only [S.mem, S.blk, hkl] using q2
        · have e1 : (B.es.drop off).length = n := by simp; omega
          have e2 : (A.es.drop off).length = n := by simp; omega
          rcases Nat.lt_or_ge i n with hi | hi
          · rw [List.getElem?_append_left (by omega)] at hu hw
            rw [List.getElem?_drop] at hu hw
            refine (he (off + i) u w (fun h => h) hu hw).frame (fun _ _ h => h) fun y hy h1 h2 => ⟨?_, ?_, h2⟩
            · simp only [S.mem, kill, List.mem_singleton]
              rw [if_neg]; rintro rfl; exact h2 b hx
            · rw [h1]
              simp only [if_true]
              rw [show off + i - off = i by omega]; rfl
          · rw [List.getElem?_append_right (by omega)] at hu hw
            rw [e1] at hu; rw [e2] at hw
            exact Elt.nil (hget _ _ _ hu hw)
        · obtain ⟨b', i⟩ := p
          simp only [h1]
          rw [if_neg]
          rintro rfl
          apply h4
          simp [S.mem, kill]
      · cases h


theorem opA_un {ca : V → List V → S → Option (V × S)} {s : S} {a : A} {r : V × S} (hca : ∀ f xs, a ≠ .ca f xs) (h : opA ca s a = some r) : ∀ x ∈ a.os, isUn (Am.val s.e x) = false := by
  have bnd0 : ∀ {d : Nat} {o : Option O} {n : Int}, bndOf d (o.map (Am.val s.e)) = some n → ∀ x ∈ o.toList, isUn (Am.val s.e x) = false := by
    intro d o n h x hx
    cases o with
    | none => simp at hx
    | some y =>
      simp at hx; subst hx
      obtain ⟨k, hk⟩ := asI_un h
      rw [hk]; rfl
  have fits0 : ∀ {q : Option Nat} {v : V}, v.fits q = true → isUn v = false := by
    intro q v hv
    cases hu : isUn v with
    | false => rfl
    | true => rw [isUn_iff.1 hu, un_fits] at hv; cases hv
  have okc0 : ∀ {v : V}, v.okc = true → isUn v = false := by
    intro v hv
    cases hu : isUn v with
    | false => rfl
    | true => rw [isUn_iff.1 hu, un_okc] at hv; cases hv
  cases a <;> simp only [A.os, List.mem_cons, List.mem_append, List.not_mem_nil, or_false, forall_eq_or_imp, forall_eq, false_implies, implies_true, List.mem_map] <;> simp only [opA] at h <;> try (cases h; done)
  case bx q x => split at h <;> first | exact fits0 ‹_› | cases h
  case ld q x =>
    split at h
    · rename_i y hy
      generalize Am.val s.e x = z at *
      cases z <;> first | rfl | simp [deref] at hy
    · cases h
  case so q p x =>
    split at h
    · rename_i H hH
      unfold storeAt at hH
      split at hH
      · rename_i b i hp
        rw [hp]
        split at hH
        · split at hH
          · rename_i hc; exact ⟨rfl, fits0 hc.2.2.2⟩
          · cases hH
        · cases hH
      · rename_i b i j hp
        rw [hp]
        split at hH
        · split at hH
          · split at hH
            · rename_i hc; exact ⟨rfl, okc0 hc.2.2.2⟩
            · cases hH
          · cases hH
        · cases hH
      · cases hH
    · cases h
  case bi op x y =>
    split at h
    · rename_i u w hu hw
      obtain ⟨z, hz, _⟩ := Option.map_eq_some_iff.1 h
      rw [hu, hw]
      unfold abin at hz
      split at hz <;> first | exact ⟨rfl, rfl⟩ | cases hz
    · cases h
  case be n x y =>
    split at h
    · rename_i u w hu hw; rw [hu, hw]; exact ⟨rfl, rfl⟩
    · cases h
  case un op x =>
    split at h
    · rename_i u hu
      obtain ⟨z, hz, _⟩ := Option.map_eq_some_iff.1 h
      rw [hu]
      unfold aun at hz
      split at hz <;> first | rfl | cases hz
    · cases h
  case cv k x => split at h <;> first | (rename_i hu; rw [hu]; rfl) | cases h
  case fd j x => split at h <;> first | (rename_i hu; rw [hu]; rfl) | cases h
  case fa j x => split at h <;> first | (rename_i hu; rw [hu]; rfl) | cases h
  case ia q x i =>
    split at h
    · rename_i z es hi hx; obtain ⟨k, hk⟩ := asI_un hi; rw [hx, hk]; exact ⟨rfl, rfl⟩
    · rename_i z b off n c hi hx; obtain ⟨k, hk⟩ := asI_un hi; rw [hx, hk]; exact ⟨rfl, rfl⟩
    · cases h
  case ix x i =>
    split at h
    · rename_i z u hi hx; obtain ⟨k, hk⟩ := asI_un hi; rw [hx, hk]; exact ⟨rfl, rfl⟩
    · cases h
  case ss x lo hi =>
    split at h
    · rename_i u hu
      split at h
      · rename_i l r hl hr
        refine ⟨by rw [hu]; rfl, fun y hy => ?_⟩
        rcases hy with hy | hy
        · exact bnd0 hl y hy
        · exact bnd0 hr y hy
      · cases h
    · cases h
  case sc q x lo hi mx =>
    have slc : ∀ {v w : V}, sliceOf v (lo.map (Am.val s.e)) (hi.map (Am.val s.e)) (mx.map (Am.val s.e)) = some w → isUn v = false ∧ ∀ y, (y ∈ lo.toList ∨ y ∈ hi.toList) ∨ y ∈ mx.toList → isUn (Am.val s.e y) = false := by
      intro v w hw
      unfold sliceOf at hw
      split at hw
      · rename_i m hm
        have hmx : ∀ y ∈ mx.toList, asI m = some 0 → isUn (Am.val s.e y) = false := by
          intro y hy h0
          cases mx with
          | none => simp at hy
          | some z =>
            simp at hy hm; subst hy
            obtain ⟨k, hk⟩ := asI_un h0
            rw [hm, hk]; rfl
        have hz : isZ (hi.map (Am.val s.e)) = true → ∀ y ∈ hi.toList, isUn (Am.val s.e y) = false := by
          intro h0 y hy
          cases hi with
          | none => simp at hy
          | some z =>
            simp at hy; subst hy
            simp only [Option.map_some, isZ, beq_iff_eq] at h0
            obtain ⟨k, hk⟩ := asI_un h0
            rw [hk]; rfl
        split at hw
        all_goals first
          | (split at hw
             · rename_i hc
               refine ⟨rfl, fun y hy => ?_⟩
               rcases hy with (hy | hy) | hy
               · exact bnd0 hc.1 y hy
               · exact hz hc.2.1 y hy
               · exact hmx y hy hc.2.2
             · cases hw)
          | cases hw
      · rename_i hm
        have hmx : mx.toList = [] := by cases mx <;> simp_all
        rw [hmx]
        split at hw
        · split at hw
          · rename_i hc
            refine ⟨rfl, fun y hy => ?_⟩
            rcases hy with (hy | hy) | hy
            · exact bnd0 hc.1 y hy
            · exact bnd0 hc.2 y hy
            · simp at hy
          · cases hw
        · split at hw
          · rename_i h1 h2
            refine ⟨rfl, fun y hy => ?_⟩
            rcases hy with (hy | hy) | hy
            · exact bnd0 h1 y hy
            · exact bnd0 h2 y hy
            · simp at hy
          · cases hw
        · split at hw
          · rename_i h1 h2
            refine ⟨rfl, fun y hy => ?_⟩
            rcases hy with (hy | hy) | hy
            · exact bnd0 h1 y hy
            · exact bnd0 h2 y hy
            · simp at hy
          · cases hw
        · cases hw
    split at h
    · rename_i b off n c hx
      split at h
      · obtain ⟨u, hu, _⟩ := Option.map_eq_some_iff.1 h
        rw [hx]; exact slc hu
      · split at h
        · split at h
          · obtain ⟨u, hu, _⟩ := Option.map_eq_some_iff.1 h
            rw [hx]; exact slc hu
          · cases h
        · cases h
    · rename_i es hx
      split at h
      · obtain ⟨u, hu, _⟩ := Option.map_eq_some_iff.1 h
        rw [hx]; exact slc hu
      · cases h
    · rename_i hx
      obtain ⟨u, hu, _⟩ := Option.map_eq_some_iff.1 h
      rw [hx]; exact slc hu
    · cases h
  case bs q xs =>
    split at h
    · rename_i hc
      intro x hx
      exact fits0 (List.all_eq_true.1 hc _ (List.mem_map.2 ⟨x, hx, rfl⟩))
    · cases h
  case bd z ps =>
    split at h
    · rename_i hc
      rintro x ⟨p, hp, rfl⟩
      exact okc0 (List.all_eq_true.1 hc _ (List.mem_map.2 ⟨p, hp, rfl⟩))
    · cases h
  case ms z q l c =>
    split at h
    · rename_i u w hu hw; rw [hu, hw]; exact ⟨rfl, rfl⟩
    · cases h
  case mf f xs =>
    split at h
    · rename_i hc
      intro x hx
      exact okc0 (List.all_eq_true.1 hc _ (List.mem_map.2 ⟨x, hx, rfl⟩))
    · cases h
  case ca f xs => exact absurd rfl (hca f xs)
  case ap q x y =>
    split at h
    · rename_i src hs
      split at h
      · refine ⟨?_, ?_⟩
        · generalize Am.val s.e x = z at *
          cases z <;> first | rfl | simp [appendTo] at h
        · generalize Am.val s.e y = z at *
          cases z <;> first | rfl | simp [elems] at hs
      · cases h
    · cases h
  case az q z x n =>
    split at h
    · rename_i k m hn
      split at h
      · refine ⟨?_, by rw [hn]; rfl⟩
        generalize Am.val s.e x = z at *
        cases z <;> first | rfl | simp [appendTo] at h
      · cases h
    · cases h
  case ln x =>
    split at h
    · rename_i n hn
      generalize Am.val s.e x = z at *
      cases z <;> first | rfl | simp [vlen] at hn
    · cases h
  case cr q z x => split at h <;> first | (rename_i hu; rw [hu]; rfl) | cases h
  case cp x => split at h <;> first | (rename_i hu; rw [hu]; rfl) | cases h
  case ls x => split at h <;> first | (rename_i hu; rw [hu]; rfl) | cases h
  case mm mx xs =>
    have two : ∀ l : List V, xs.map (Am.val s.e) = l → (∀ v ∈ l, isUn v = false) → ∀ x ∈ xs, isUn (Am.val s.e x) = false := by
      rintro l rfl hl x hx; exact hl _ (List.mem_map.2 ⟨x, hx, rfl⟩)
    split at h
    · rename_i hx; exact two _ hx (by simp [isUn])
    · rename_i hx; exact two _ hx (by simp [isUn])
    · cases h
  case et x i =>
    split at h
    · rename_i vs hu
      rw [hu]
      cases vs with
      | nil => simp at h
      | cons _ _ => rfl
    · cases h
  case sb x =>
    split at h
    · rename_i src hs
      generalize Am.val s.e x = z at *
      cases z <;> first | rfl | simp [elems] at hs
    · cases h

end Go.Am

/- The B-machine, part 5: operations. -/
namespace Go.Am
variable {β : Bet} {ω : Omg} {sB sA : S}

theorem sliceOf_rel {H : Nat → Option Blk} {x y a : V} {lo hi mx lo' hi' mx' : Option V} (h : sliceOf x lo hi mx = some y) (hl : Lk β H x a [])
    (h1 : ∀ d n, bndOf d lo = some n → bndOf d lo' = some n) (h2 : ∀ d n, bndOf d hi = some n → bndOf d hi' = some n) (h3 : ∀ d n, bndOf d mx = some n → bndOf d mx' = some n)
    (hh : hi.isSome = hi'.isSome) (hm : mx.isSome = mx'.isSome) : ∃ b, sliceOf a lo' hi' mx' = some b ∧ Lk β H y b [] := by
  have z0 : isZ hi = true → isZ hi' = true := by
    intro hz
    cases hi with
    | none => cases hz
    | some v =>
      cases hi' with
      | none => simp at hh
      | some v' =>
        simp only [isZ, beq_iff_eq] at hz ⊢
        exact h2 0 0 hz
  unfold sliceOf at h ⊢
  cases mx with
  | some m =>
    cases mx' with
    | none => simp at hm
    | some m' =>
      simp only at h ⊢
      have h3' : asI m = some 0 → asI m' = some 0 := h3 0 0
      cases x <;> simp only at h <;> try (cases h; done)
      case e0 =>
        rw [Lk_e0 hl]
        split at h
        · rename_i hc
          obtain rfl := Option.some.inj h
          simp only
          rw [if_pos ⟨h1 _ _ hc.1, z0 hc.2.1, h3' hc.2.2⟩]
          exact ⟨_, rfl, by simp [Lk]⟩
        · cases h
      case sl es =>
        rw [(Lk_sl hl).1]
        split at h
        · rename_i hc
          obtain rfl := Option.some.inj h
          simp only
          rw [if_pos ⟨h1 _ _ hc.1, z0 hc.2.1, h3' hc.2.2⟩]
          exact ⟨_, rfl, by simp [Lk]⟩
        · cases h
      case hs b off n c =>
        obtain ⟨x, hx, rfl⟩ := Lk_hs hl
        split at h
        · rename_i hc
          obtain rfl := Option.some.inj h
          simp only
          rw [if_pos ⟨h1 _ _ hc.1, z0 hc.2.1, h3' hc.2.2⟩]
          exact ⟨_, rfl, by simp [Lk]⟩
        · cases h
  | none =>
    cases mx' with
    | some _ => simp at hm
    | none =>
      simp only at h ⊢
      cases x <;> simp only at h <;> try (cases h; done)
      case e0 =>
        rw [Lk_e0 hl]
        split at h
        · rename_i hc
          obtain rfl := Option.some.inj h
          simp only
          rw [if_pos ⟨h1 _ _ hc.1, h2 _ _ hc.2⟩]
          exact ⟨_, rfl, by simp [Lk]⟩
        · cases h
      case sl es =>
        obtain ⟨rfl, hr⟩ := Lk_sl hl
        split at h
        · rename_i l r hl hr2
          simp only
          rw [h1 _ _ hl, h2 _ _ hr2]
          simp only
          split at h
          · rename_i hc
            obtain rfl := Option.some.inj h
            rw [if_pos hc]
            refine ⟨_, rfl, ?_⟩
            simp only [Lk, and_true, true_and]
            rw [RorL_iff] at hr ⊢
            exact fun v hv => hr v (List.mem_of_mem_take (List.mem_of_mem_drop hv))
          · cases h
        · cases h
      case hs b off n c =>
        obtain ⟨x, hx, rfl⟩ := Lk_hs hl
        split at h
        · rename_i l r hl hr2
          simp only
          rw [h1 _ _ hl, h2 _ _ hr2]
          simp only
          split at h
          · rename_i hc
            obtain rfl := Option.some.inj h
            rw [if_pos hc]
            exact ⟨_, rfl, by simp only [Lk, and_true]; exact ⟨x, hx, rfl⟩⟩
          · cases h
        · cases h

theorem LkL_set {H : Nat → Option Blk} {v a : V} (h : Lk β H v a []) : ∀ {vs as : List V} {L : List Nat} (j : Nat), LkL β H vs as L → ∃ L', LkL β H (vs.set j v) (as.set j a) L' ∧ L'.Sublist L
  | [], as, L, j, hl => ⟨L, by simp only [LkL] at hl ⊢; obtain ⟨rfl, rfl⟩ := hl; simp [LkL], List.Sublist.refl _⟩
  | u :: vs, as, L, 0, hl => by
    obtain ⟨b, as', L1, L2, rfl, rfl, h1, h2⟩ := LkL_cons_inv hl
    refine ⟨L2, ?_, List.sublist_append_right _ _⟩
    simp only [List.set_cons_zero, LkL]
    exact ⟨a, as', [], L2, rfl, rfl, h, h2⟩
  | u :: vs, as, L, j + 1, hl => by
    obtain ⟨b, as', L1, L2, rfl, rfl, h1, h2⟩ := LkL_cons_inv hl
    obtain ⟨L', h3, h4⟩ := LkL_set h j h2
    refine ⟨L1 ++ L', ?_, List.Sublist.append (List.Sublist.refl _) h4⟩
    simp only [List.set_cons_succ, LkL]
    exact ⟨b, as'.set j a, L1, L', rfl, rfl, h1, h3⟩

theorem LkL_one {H : Nat → Option Blk} {v a : V} (h : Lk β H v a []) : LkL β H [v] [a] [] := by simp only [LkL]; exact ⟨a, [], [], [], rfl, rfl, h, rfl, rfl⟩

theorem bytes_rel {H : Nat → Option Blk} : ∀ {src src' : List V} {bs : List UInt8}, bytesOf src = some bs → LkL β H src src' [] → bytesOf src' = some bs
  | [], src', bs, h, hl => by simp only [LkL] at hl; rw [hl.1]; exact h
  | v :: src, src', bs, h, hl => by
    obtain ⟨a, as', L1, L2, rfl, e, h1, h2⟩ := LkL_cons_inv hl
    obtain ⟨rfl, rfl⟩ := List.append_eq_nil_iff.1 e.symm
    unfold bytesOf at h
    split at h
    · rename_i heq; cases heq
    · rename_i n l heq
      obtain ⟨rfl, rfl⟩ := List.cons.inj heq
      rw [Lk_im h1]
      split at h
      · rename_i bs' hbs
        simp only [bytesOf, bytes_rel hbs h2]; exact h
      · cases h
    · cases h

theorem bytes_fits : ∀ {src : List V} {bs : List UInt8}, bytesOf src = some bs → src.all (·.fits none) = true
  | [], _, _ => rfl
  | v :: src, bs, hl => by
    unfold bytesOf at hl
    split at hl
    · rename_i heq; cases heq
    · rename_i n l' heq
      obtain ⟨rfl, rfl⟩ := List.cons.inj heq
      split at hl
      · rename_i bs hbs
        simp only [List.all_cons, Bool.and_eq_true]
        exact ⟨rfl, bytes_fits hbs⟩
      · cases hl
    · cases hl

theorem vlen_rel {H : Nat → Option Blk} {v a : V} {n : Nat} (h : vlen v = some n) (hl : Lk β H v a []) : vlen a = some n := by
  cases v <;> simp only [vlen] at h <;> try (cases h; done)
  case sl es => rw [(Lk_sl hl).1]; exact h
  case hs => obtain ⟨x, _, rfl⟩ := Lk_hs hl; exact h
  case e0 => rw [Lk_e0 hl]; exact h

theorem op_sim (qs : Sim β ω no2 sB sA) {ca ca' : V → List V → S → Option (V × S)} {a : A} (hk : a.sok = true) (hca : ∀ f xs, a ≠ .ca f xs) (hld : ∀ q x, a ≠ .ld q x) {v : V} {sB' : S} (h : opA ca sB a = some (v, sB')) : Out β sA sB' v (opA ca' sA a) := by
  have hu := opA_un hca h
  simp only [A.sok, Bool.and_eq_true, List.all_eq_true] at hk
  obtain ⟨hz, hkk⟩ := hk
  cases a <;> simp only [opA] at h ⊢ <;> simp only [A.oks, A.os, List.mem_cons, List.not_mem_nil, or_false, forall_eq_or_imp, forall_eq, List.mem_append, List.mem_map] at hkk hu
  case mv x =>
    obtain ⟨rfl, rfl⟩ := Prod.mk.inj (Option.some.inj h)
    exact Out.same qs rfl (qs.val hkk)
  case pk c x y =>
    split at h
    · rename_i b hb
      obtain ⟨rfl, rfl⟩ := Prod.mk.inj (Option.some.inj h)
      have hc := qs.val' hkk.1 (by rw [hb]; rfl)
      rw [hb] at hc
      rw [Lk_im hc]
      cases b with
      | true => exact Out.same qs rfl (qs.val hkk.2.1)
      | false => exact Out.same qs rfl (qs.val hkk.2.2)
    · cases h
  case al z q =>
    split at h
    · rename_i hf
      obtain ⟨rfl, rfl⟩ := Prod.mk.inj (Option.some.inj h)
      rw [if_pos hf]
      refine Out.new qs (LkL_nil_iff.2 ⟨rfl, fun i v a hv ha => ?_⟩) rfl (by simp only [Lk, and_true]; exact ⟨_, upd_same _ _ _, rfl⟩)
      rw [hv] at ha; obtain rfl := Option.some.inj ha
      have := List.mem_of_getElem? hv
      rw [List.mem_singleton] at this; subst this
      exact pln_lk hz
    · cases h
  case bx q x =>
    split at h
    · rename_i hf
      obtain ⟨rfl, rfl⟩ := Prod.mk.inj (Option.some.inj h)
      have r := qs.val' hkk hu
      rw [if_pos (fits_rel r hf)]
      exact Out.new qs (LkL_one r) rfl (by simp only [Lk, and_true]; exact ⟨_, upd_same _ _ _, rfl⟩)
    · cases h
  case ld q x => exact absurd rfl (hld q x)
  case so q p x =>
    split at h
    case h_2 => cases h
    rename_i H hH
    obtain ⟨rfl, rfl⟩ := Prod.mk.inj (Option.some.inj h)
    have rp := qs.val' hkk.1 hu.1
    have rx := qs.val' hkk.2 hu.2
    unfold storeAt at hH
    split at hH
    · rename_i b i hp
      rw [hp] at rp
      obtain ⟨y, hy, e⟩ := Lk_hp rp
      rw [e]
      split at hH
      case h_2 => cases hH
      rename_i B hB
      obtain ⟨A, hA, hAk, hfr, hfrB, hal, he⟩ := qs.get hB hy
      split at hH
      case isFalse => cases hH
      rename_i hc
      obtain rfl := Option.some.inj hH
      simp only [storeAt, hA]
      rw [if_pos ⟨hfr, by omega, hAk.trans hc.2.2.1, fits_rel rx hc.2.2.2⟩]
      refine ⟨β, ω, _, _, rfl, qs.set (ω' := ω) (ep' := no2) hB hy hA (es := B.es.set i (Am.val sB.e x)) (as := A.es.set i (Am.val sA.e x)) (by simp [hal]) (fun j u w _ hu hw => ?_) (fun y p h _ _ => h) (fun _ _ _ _ h => h), .inr Lk_im', fun _ _ h => h⟩
      rw [List.getElem?_set] at hu hw
      split at hu
      · rename_i hij
        subst hij
        rw [if_pos rfl] at hw
        split at hu
        · split at hw
          · cases hu; cases hw; exact Elt.nil rx
          · cases hw
        · cases hu
      · rename_i hij
        rw [if_neg hij] at hw
        exact he j u w (fun h => h) hu hw
    · rename_i b i j hp
      rw [hp] at rp
      obtain ⟨y, hy, e⟩ := Lk_hf rp
      rw [e]
      split at hH
      case h_2 => cases hH
      rename_i B hB
      obtain ⟨A, hA, hAk, hfr, hfrB, hal, he⟩ := qs.get hB hy
      split at hH
      case h_2 => cases hH
      rename_i cs hcs
      split at hH
      case isFalse => cases hH
      rename_i hc
      obtain rfl := Option.some.inj hH
      have hlt : i < A.es.length := by rw [hal]; exact (List.getElem?_eq_some_iff.1 hcs).1
      obtain ⟨L, hL, hnd, hown⟩ := (he i _ _ (fun h => h) hcs (List.getElem?_eq_getElem hlt)).resolve_left (by simp)
      simp only [Lk] at hL
      obtain ⟨as, has, hll⟩ := hL
      obtain ⟨L', hL', hsub⟩ := LkL_set rx j hll
      have hAi : A.es[i]? = some (.st as) := by rw [List.getElem?_eq_getElem hlt, has]
      simp only [storeAt, hA, hAi]
      rw [if_pos ⟨hfr, by rw [LkL.len _ _ _ hll]; exact hc.2.1, hc.2.2.1, okc_rel rx hc.2.2.2⟩]
      refine ⟨β, ω, _, _, rfl, qs.set (ω' := ω) (ep' := no2) hB hy hA (es := B.es.set i (.st (cs.set j (Am.val sB.e x)))) (as := A.es.set i (.st (as.set j (Am.val sA.e x)))) (by simp [hal]) (fun k u w _ hu hw => ?_) (fun y p h _ _ => h) (fun _ _ _ _ h => h), .inr Lk_im', fun _ _ h => h⟩
      rw [List.getElem?_set] at hu hw
      split at hu
      · rename_i hij
        subst hij
        rw [if_pos rfl] at hw
        rw [if_pos (by rw [← hal]; exact hlt)] at hu
        rw [if_pos hlt] at hw
        cases hu; cases hw
        exact .inr ⟨L', by simp only [Lk]; exact ⟨_, rfl, hL'⟩, hnd.sublist hsub, fun y hy => hown y (hsub.subset hy)⟩
      · rename_i hij
        rw [if_neg hij] at hw
        exact he k u w (fun h => h) hu hw
    · cases hH
  case bi op x y =>
    split at h
    · rename_i u w hx hy
      obtain ⟨z, hz, hh⟩ := Option.map_eq_some_iff.1 h
      obtain ⟨rfl, rfl⟩ := Prod.mk.inj hh
      have r1 := qs.val' hkk.1 hu.1
      have r2 := qs.val' hkk.2 hu.2
      rw [hx] at r1; rw [hy] at r2
      rw [Lk_im r1, Lk_im r2]
      exact Out.same qs (by simp only [hz]; rfl) (.inr Lk_im')
    · cases h
  case be n x y =>
    split at h
    · rename_i u w hx hy
      obtain ⟨rfl, rfl⟩ := Prod.mk.inj (Option.some.inj h)
      have r1 := qs.val' hkk.1 hu.1
      have r2 := qs.val' hkk.2 hu.2
      rw [hx] at r1; rw [hy] at r2
      rw [Lk_im r1, Lk_im r2]
      exact Out.same qs rfl (.inr Lk_im')
    · cases h
  case un op x =>
    split at h
    · rename_i u hx
      obtain ⟨z, hz, hh⟩ := Option.map_eq_some_iff.1 h
      obtain ⟨rfl, rfl⟩ := Prod.mk.inj hh
      have r1 := qs.val' hkk hu
      rw [hx] at r1
      rw [Lk_im r1]
      exact Out.same qs (by simp only [hz]; rfl) (.inr Lk_im')
    · cases h
  case cv k x =>
    split at h
    · rename_i k' n hx
      obtain ⟨rfl, rfl⟩ := Prod.mk.inj (Option.some.inj h)
      have r1 := qs.val' hkk hu
      rw [hx] at r1
      rw [Lk_im r1]
      exact Out.same qs rfl (.inr Lk_im')
    · cases h
  case fd j x =>
    split at h
    · rename_i cs hx
      obtain ⟨c, hc, hh⟩ := Option.map_eq_some_iff.1 h
      obtain ⟨rfl, rfl⟩ := Prod.mk.inj hh
      have r1 := qs.val' hkk hu
      rw [hx] at r1
      obtain ⟨as, e, hl⟩ := Lk_st r1
      rw [e]
      obtain ⟨h1, h2⟩ := LkL_nil_iff.1 hl
      have hlt : j < as.length := by rw [h1]; exact (List.getElem?_eq_some_iff.1 hc).1
      exact Out.same qs (a := as[j]) (by simp only [List.getElem?_eq_getElem hlt]; rfl) (.inr (h2 j _ _ hc (List.getElem?_eq_getElem hlt)))
    · cases h
  case fa j x =>
    have r1 := qs.val' hkk hu
    split at h
    · rename_i cs hx
      obtain ⟨c, hc, h⟩ := Option.bind_eq_some_iff.1 h
      split at h
      · rename_i ho
        obtain ⟨rfl, rfl⟩ := Prod.mk.inj (Option.some.inj h)
        rw [hx] at r1
        obtain ⟨e, hr⟩ := Lk_rp r1
        rw [e]
        simp only [Ror] at hr
        exact Out.same qs (a := .rp c) (by simp only [hc, Option.bind_some]; rw [if_pos ho]) (.inr (by simp only [Lk, and_true, true_and]; exact RorL_iff.1 hr c (List.mem_of_getElem? hc)))
      · cases h
    · rename_i b i hx
      obtain ⟨rfl, rfl⟩ := Prod.mk.inj (Option.some.inj h)
      rw [hx] at r1
      obtain ⟨y, hy, e⟩ := Lk_hp r1
      rw [e]
      exact Out.same qs rfl (.inr (by simp only [Lk, and_true]; exact ⟨y, hy, rfl⟩))
    · cases h
  case ia q x i =>
    have r1 := qs.val' hkk.1 hu.1
    split at h
    · rename_i z es hi hx
      rw [qs.asI hkk.2 hi]
      rw [hx] at r1
      obtain ⟨e, hr⟩ := Lk_sl r1
      rw [e]
      simp only
      split at h
      · rename_i u hu'
        split at h
        · rename_i hs
          obtain ⟨rfl, rfl⟩ := Prod.mk.inj (Option.some.inj h)
          refine Out.same qs (a := .rp u) (by rw [if_pos hs]) (.inr ?_)
          simp only [Lk, and_true, true_and]
          split at hu'
          · exact RorL_iff.1 hr u (List.mem_of_getElem? hu')
          · cases hu'
        · cases h
      · cases h
    · rename_i z b off n c hi hx
      rw [qs.asI hkk.2 hi]
      rw [hx] at r1
      obtain ⟨y, hy, e⟩ := Lk_hs r1
      rw [e]
      simp only
      split at h
      · rename_i B hB
        obtain ⟨A, hA, hAk, _⟩ := qs.get hB hy
        split at h
        · rename_i hc
          obtain ⟨rfl, rfl⟩ := Prod.mk.inj (Option.some.inj h)
          refine Out.same qs (a := .hp y (off + z.toNat)) (by simp only [hA]; rw [if_pos ⟨hc.1, hc.2.1, hAk.trans hc.2.2⟩]) (.inr ?_)
          simp only [Lk, and_true]; exact ⟨y, hy, rfl⟩
        · cases h
      · cases h
    · cases h
  case ix x i =>
    split at h
    · rename_i z u hi hx
      have r1 := qs.val' hkk.1 hu.1
      rw [hx] at r1
      rw [qs.asI hkk.2 hi, Lk_im r1]
      simp only
      split at h
      · rename_i b hb
        obtain ⟨rfl, rfl⟩ := Prod.mk.inj (Option.some.inj h)
        exact Out.same qs (by simp only [hb]) (.inr Lk_im')
      · cases h
    · cases h
  case ss x lo hi =>
    split at h
    · rename_i u hx
      have r1 := qs.val' hkk.1 hu.1
      rw [hx] at r1
      rw [Lk_im r1]
      simp only
      split at h
      · rename_i l r hl hr
        rw [qs.bnd (fun y hy => hkk.2 y (.inl hy)) hl, qs.bnd (fun y hy => hkk.2 y (.inr hy)) hr]
        simp only
        split at h
        · rename_i hc
          obtain ⟨rfl, rfl⟩ := Prod.mk.inj (Option.some.inj h)
          exact Out.same qs (by rw [if_pos hc]) (.inr Lk_im')
        · cases h
      · cases h
    · cases h
  case sc q x lo hi mx =>
    have r1 := qs.val' hkk.1 hu.1
    have b1 : ∀ d n, bndOf d (lo.map (Am.val sB.e)) = some n → bndOf d (lo.map (Am.val sA.e)) = some n := fun d n => qs.bnd fun y hy => hkk.2 y (.inl (.inl hy))
    have b2 : ∀ d n, bndOf d (hi.map (Am.val sB.e)) = some n → bndOf d (hi.map (Am.val sA.e)) = some n := fun d n => qs.bnd fun y hy => hkk.2 y (.inl (.inr hy))
    have b3 : ∀ d n, bndOf d (mx.map (Am.val sB.e)) = some n → bndOf d (mx.map (Am.val sA.e)) = some n := fun d n => qs.bnd fun y hy => hkk.2 y (.inr hy)
    split at h
    · rename_i b off n c hx
      rw [hx] at r1
      split at h
      · rename_i hc0
        obtain ⟨u, hu', hh⟩ := Option.map_eq_some_iff.1 h
        obtain ⟨rfl, rfl⟩ := Prod.mk.inj hh
        obtain ⟨w, hw, hl⟩ := sliceOf_rel hu' r1 b1 b2 b3 (by simp) (by simp)
        obtain ⟨y, hy, e⟩ := Lk_hs r1
        rw [e] at hw ⊢
        refine Out.same qs (a := w) ?_ (.inr hl)
        simp only
        rw [if_pos hc0, hw]; rfl
      · rename_i hc0
        split at h
        · rename_i B hB
          split at h
          · rename_i hk
            obtain ⟨u, hu', hh⟩ := Option.map_eq_some_iff.1 h
            obtain ⟨rfl, rfl⟩ := Prod.mk.inj hh
            obtain ⟨w, hw, hl⟩ := sliceOf_rel hu' r1 b1 b2 b3 (by simp) (by simp)
            obtain ⟨y, hy, e⟩ := Lk_hs r1
            obtain ⟨A, hA, hAk, _⟩ := qs.get hB hy
            rw [e] at hw ⊢
            refine Out.same qs (a := w) ?_ (.inr hl)
            simp only [hc0, if_false, hA]
            rw [if_pos (hAk.trans hk), hw]; rfl
          · cases h
        · cases h
    · rename_i es hx
      rw [hx] at r1
      split at h
      · rename_i hk
        obtain ⟨u, hu', hh⟩ := Option.map_eq_some_iff.1 h
        obtain ⟨rfl, rfl⟩ := Prod.mk.inj hh
        obtain ⟨w, hw, hl⟩ := sliceOf_rel hu' r1 b1 b2 b3 (by simp) (by simp)
        rw [(Lk_sl r1).1] at hw ⊢
        refine Out.same qs (a := w) ?_ (.inr hl)
        simp only
        rw [if_pos hk, hw]; rfl
      · cases h
    · rename_i hx
      rw [hx] at r1
      obtain ⟨u, hu', hh⟩ := Option.map_eq_some_iff.1 h
      obtain ⟨rfl, rfl⟩ := Prod.mk.inj hh
      obtain ⟨w, hw, hl⟩ := sliceOf_rel hu' r1 b1 b2 b3 (by simp) (by simp)
      rw [Lk_e0 r1] at hw ⊢
      refine Out.same qs (a := w) ?_ (.inr hl)
      simp only
      rw [hw]; rfl
    · cases h
  case bs q xs =>
    split at h
    · rename_i hf
      obtain ⟨rfl, rfl⟩ := Prod.mk.inj (Option.some.inj h)
      have hl : LkL β sA.H (xs.map (Am.val sB.e)) (xs.map (Am.val sA.e)) [] := LkL_map qs hkk hu
      rw [if_pos (all_rel (fun _ _ => fits_rel) hl hf)]
      exact Out.new qs hl rfl (by simp only [Lk, and_true]; exact ⟨_, upd_same _ _ _, rfl⟩)
    · cases h
  case bd z ps =>
    split at h
    · rename_i hf
      obtain ⟨rfl, rfl⟩ := Prod.mk.inj (Option.some.inj h)
      have hps : ∀ p ∈ ps, Lk β sA.H (Am.val sB.e p.2) (Am.val sA.e p.2) [] := fun p hp => qs.val' (hkk _ ⟨p, hp, rfl⟩) (hu _ ⟨p, hp, rfl⟩)
      have hok : (ps.map fun p => Am.val sA.e p.2).all V.okc = true := by
        rw [List.all_map, List.all_eq_true] at hf ⊢
        exact fun p hp => okc_rel (hps p hp) (hf p hp)
      rw [if_pos hok]
      have hz' : LkL β sA.H z z [] := LkL_nil_iff.2 ⟨rfl, fun i v a hv ha => by
        rw [hv] at ha; obtain rfl := Option.some.inj ha
        have := List.all_eq_true.1 hz v (List.mem_of_getElem? hv)
        cases v <;> simp_all [Lk]⟩
      have fold : ∀ (ps : List (Nat × O)) (cs as : List V), (∀ p ∈ ps, Lk β sA.H (Am.val sB.e p.2) (Am.val sA.e p.2) []) → LkL β sA.H cs as [] →
          LkL β sA.H (ps.foldl (fun cs p => cs.set p.1 (Am.val sB.e p.2)) cs) (ps.foldl (fun cs p => cs.set p.1 (Am.val sA.e p.2)) as) [] := by
        intro ps
        induction ps with
        | nil => intro cs as _ h; exact h
        | cons p ps ih =>
          intro cs as hp h
          simp only [List.foldl_cons]
          obtain ⟨L', h1, h2⟩ := LkL_set (hp p (by simp)) p.1 h
          rw [List.sublist_nil.1 h2] at h1
          exact ih _ _ (fun p' hp' => hp p' (by simp [hp'])) h1
      exact Out.same qs rfl (.inr (by simp only [Lk]; exact ⟨_, rfl, fold ps z z hps hz'⟩))
    · cases h
  case ms z q l c =>
    split at h
    · rename_i kl l' kc c' hl hc
      have r1 := qs.val' hkk.1 hu.1
      have r2 := qs.val' hkk.2 hu.2
      rw [hl] at r1; rw [hc] at r2
      rw [Lk_im r1, Lk_im r2]
      simp only
      split at h
      · rename_i hcc
        obtain ⟨rfl, rfl⟩ := Prod.mk.inj (Option.some.inj h)
        rw [if_pos hcc]
        exact Out.new qs (LkL_rep (pln_lk hz) _) rfl (by simp only [Lk, and_true]; exact ⟨_, upd_same _ _ _, rfl⟩)
      · cases h
    · cases h
  case mf f xs =>
    split at h
    · rename_i hf
      obtain ⟨rfl, rfl⟩ := Prod.mk.inj (Option.some.inj h)
      have hl : LkL β sA.H (xs.map (Am.val sB.e)) (xs.map (Am.val sA.e)) [] := LkL_map qs hkk hu
      rw [if_pos (all_rel (fun _ _ => okc_rel) hl hf)]
      exact Out.same qs rfl (.inr (by simp only [Lk, and_true]; exact ⟨_, rfl, hl⟩))
    · cases h
  case ca f xs => exact absurd rfl (hca f xs)
  case ap q x y =>
    have r1 := qs.val' hkk.1 hu.1
    have r2 := qs.val' hkk.2 hu.2
    split at h
    · rename_i src hs
      split at h
      · rename_i hf
        obtain ⟨src', hs', hl⟩ := elems_rel qs hs r2 hf
        simp only [hs']
        rw [if_pos (all_rel (fun _ _ => fits_rel) hl hf)]
        exact append_sim qs r1 hl h
      · cases h
    · cases h
  case az q z x n =>
    have r1 := qs.val' hkk.1 hu.1
    have r2 := qs.val' hkk.2 hu.2
    split at h
    · rename_i k m hn
      rw [hn] at r2
      rw [Lk_im r2]
      simp only
      split at h
      · rename_i hc
        rw [if_pos hc]
        exact append_sim qs r1 (LkL_rep (pln_lk hz) _) h
      · cases h
    · cases h
  case cr q z x =>
    have r1 := qs.val' hkk hu
    split at h
    · rename_i hx
      rw [hx] at r1
      obtain ⟨rfl, rfl⟩ := Prod.mk.inj (Option.some.inj h)
      rw [Lk_e0 r1]
      exact Out.same qs rfl (.inr Lk_im')
    · rename_i b off n c hx
      rw [hx] at r1
      obtain ⟨y, hy, e⟩ := Lk_hs r1
      rw [e]
      split at h
      case h_2 => cases h
      rename_i B hB
      obtain ⟨A, hA, hAk, hfr, hfrB, hal, he⟩ := qs.get hB hy
      split at h
      case isFalse => cases h
      rename_i hc
      obtain ⟨rfl, rfl⟩ := Prod.mk.inj (Option.some.inj h)
      simp only [hA]
      rw [if_pos ⟨hfr, hAk.trans hc.2.1, hc.2.2.1, by omega⟩]
      have hz' := LkL_rep (β := β) (H := sA.H) (pln_lk hz) n
      have hget := (LkL_nil_iff.1 hz').2
      refine ⟨β, ω, _, _, rfl, qs.set (ω' := ω) (ep' := no2) hB hy hA (es := splice B.es off (List.replicate n z)) (as := splice A.es off (List.replicate n z)) (by simp [splice, hal]) (fun i u w _ hu hw => ?_) (fun y p h _ _ => h) (fun _ _ _ _ h => h), .inr Lk_im', fun _ _ h => h⟩
      simp only [splice, List.append_assoc] at hu hw
      rcases Nat.lt_or_ge i off with hi | hi
      · rw [List.getElem?_append_left (by simp; omega)] at hu hw
        rw [List.getElem?_take, if_pos hi] at hu hw
        exact he i u w (fun h => h) hu hw
      · rw [List.getElem?_append_right (by simp; omega)] at hu hw
        have e1 : (B.es.take off).length = off := by simp; omega
        have e2 : (A.es.take off).length = off := by simp; omega
        rw [e1] at hu; rw [e2] at hw
        rcases Nat.lt_or_ge (i - off) n with hj | hj
        · rw [List.getElem?_append_left (by simpa using hj)] at hu hw
          exact Elt.nil (hget _ _ _ hu hw)
        · rw [List.getElem?_append_right (by simpa using hj)] at hu hw
          rw [List.getElem?_drop, List.length_replicate] at hu hw
          rw [show off + n + (i - off - n) = i by omega] at hu hw
          exact he i u w (fun h => h) hu hw
    · cases h
  case cp x =>
    have r1 := qs.val' hkk hu
    split at h
    · rename_i hx
      rw [hx] at r1
      obtain ⟨rfl, rfl⟩ := Prod.mk.inj (Option.some.inj h)
      rw [Lk_e0 r1]
      exact Out.same qs rfl (.inr Lk_im')
    · cases h
  case ln x =>
    split at h
    · rename_i n hn
      obtain ⟨rfl, rfl⟩ := Prod.mk.inj (Option.some.inj h)
      have r1 := qs.val' hkk hu
      rw [vlen_rel hn r1]
      exact Out.same qs rfl (.inr Lk_im')
    · cases h
  case ls x =>
    split at h
    · rename_i u hx
      obtain ⟨rfl, rfl⟩ := Prod.mk.inj (Option.some.inj h)
      have r1 := qs.val' hkk hu
      rw [hx] at r1
      rw [Lk_im r1]
      exact Out.same qs rfl (.inr Lk_im')
    · cases h
  case mm mx xs =>
    have hl : LkL β sA.H (xs.map (Am.val sB.e)) (xs.map (Am.val sA.e)) [] := LkL_map qs hkk hu
    split at h
    · rename_i n m hx
      obtain ⟨rfl, rfl⟩ := Prod.mk.inj (Option.some.inj h)
      rw [hx] at hl
      simp only [LkL, Lk] at hl
      obtain ⟨a, as', L1, L2, e, _, ⟨rfl, _⟩, a', as'', L3, L4, rfl, _, ⟨rfl, _⟩, rfl, _⟩ := hl
      rw [e]
      exact Out.same qs rfl (.inr Lk_im')
    · rename_i n m l hx
      obtain ⟨rfl, rfl⟩ := Prod.mk.inj (Option.some.inj h)
      rw [hx] at hl
      simp only [LkL, Lk] at hl
      obtain ⟨a, as', L1, L2, e, _, ⟨rfl, _⟩, a', as'', L3, L4, rfl, _, ⟨rfl, _⟩, a3, as3, L5, L6, rfl, _, ⟨rfl, _⟩, rfl, _⟩ := hl
      rw [e]
      exact Out.same qs rfl (.inr Lk_im')
    · cases h
  case et x i =>
    split at h
    · rename_i cs hx
      obtain ⟨c, hc, hh⟩ := Option.map_eq_some_iff.1 h
      obtain ⟨rfl, rfl⟩ := Prod.mk.inj hh
      have r1 := qs.val' hkk hu
      rw [hx] at r1
      simp only [Lk] at r1
      obtain ⟨as, e, hl⟩ := r1
      rw [e]
      obtain ⟨h1, h2⟩ := LkL_nil_iff.1 hl
      have hlt : i < as.length := by rw [h1]; exact (List.getElem?_eq_some_iff.1 hc).1
      exact Out.same qs (a := as[i]) (by simp only [List.getElem?_eq_getElem hlt]; rfl) (.inr (h2 i _ _ hc (List.getElem?_eq_getElem hlt)))
    · cases h
  case sb x =>
    split at h
    · rename_i src hs
      split at h
      · rename_i l hl
        obtain ⟨rfl, rfl⟩ := Prod.mk.inj (Option.some.inj h)
        have r1 := qs.val' hkk hu
        have hff : src.all (·.fits none) = true := bytes_fits hl
        obtain ⟨src', hs', hll⟩ := elems_rel qs hs r1 hff
        rw [hs']
        simp only
        rw [bytes_rel hl hll]
        exact Out.same qs rfl (.inr Lk_im')
      · cases h
    · cases h
  case no => cases h

end Go.Am
