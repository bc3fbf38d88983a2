/- The A-machine, part 13: what is handed over with its memory. -/
import Derived.Test.YthpaolkonlhjfaaAm12
set_option linter.all false
namespace Go.Am
variable {P : Program} {φ : Phi} {St Mine : Nat → Prop} {w : World}

/-- The machine's blocks of some of the frame's. -/
def Lof (φ : Phi) (ids : List Nat) : List Nat := ids.flatMap fun b => match φ b with | some (β, _, _) => [β] | none => []

theorem Lof_append (φ : Phi) (i j : List Nat) : Lof φ (i ++ j) = Lof φ i ++ Lof φ j := by simp [Lof]
theorem Lof_cons (φ : Phi) (b : Nat) (j : List Nat) : Lof φ (b :: j) = Lof φ [b] ++ Lof φ j := by simp [Lof]
theorem Lof_nil (φ : Phi) : Lof φ [] = [] := rfl
theorem Lof_some {φ : Phi} {b β o k : Nat} (h : φ b = some (β, o, k)) : Lof φ [b] = [β] := by simp [Lof, h]
theorem mem_Lof {φ : Phi} {ids : List Nat} {β : Nat} : β ∈ Lof φ ids ↔ ∃ b ∈ ids, ∃ o k, φ b = some (β, o, k) := by
  unfold Lof
  rw [List.mem_flatMap]
  constructor
  · rintro ⟨b, hb, hm⟩
    refine ⟨b, hb, ?_⟩
    cases h : φ b with
    | none => rw [h] at hm; simp at hm
    | some x => obtain ⟨β', o, k⟩ := x; rw [h] at hm; simp at hm; subst hm; exact ⟨o, k, rfl⟩
  · rintro ⟨b, hb, o, k, h⟩
    exact ⟨b, hb, by rw [h]; simp⟩

theorem give_shape {d : Nat} {H : Nat → Option Blk} {v t : V} {ids : List Nat} (h : give d H v = some (t, ids)) :
    (∃ cs ts d', d = d' + 1 ∧ v = .st cs ∧ t = .st ts ∧ overL (give d' H) cs = some (ts, ids)) ∨ (cellsOf v = [v] ∧ cellsOf t = [t]) := by
  cases d with
  | zero => simp [give] at h
  | succ d =>
    cases v <;> simp only [give] at h
    case st cs =>
      split at h
      case h_2 => cases h
      rename_i ts i hts
      obtain ⟨rfl, rfl⟩ := Prod.mk.inj (Option.some.inj h)
      exact .inl ⟨cs, ts, d, rfl, rfl, rfl, hts⟩
    all_goals refine .inr ⟨rfl, ?_⟩
    case im x => obtain ⟨rfl, rfl⟩ := Prod.mk.inj (Option.some.inj h); rfl
    case tu cs => split at h
                  · obtain ⟨rfl, rfl⟩ := Prod.mk.inj (Option.some.inj h); rfl
                  · cases h
    case cl f cs => split at h
                    · obtain ⟨rfl, rfl⟩ := Prod.mk.inj (Option.some.inj h); rfl
                    · cases h
    case sl es => obtain ⟨rfl, rfl⟩ := Prod.mk.inj (Option.some.inj h); rfl
    case rp v => obtain ⟨rfl, rfl⟩ := Prod.mk.inj (Option.some.inj h); rfl
    case e0 => obtain ⟨rfl, rfl⟩ := Prod.mk.inj (Option.some.inj h); rfl
    case hs b off n c =>
      split at h <;> try (cases h; done)
      split at h <;> try (cases h; done)
      split at h <;> try (cases h; done)
      obtain ⟨rfl, rfl⟩ := Prod.mk.inj (Option.some.inj h); rfl
    case hp b i =>
      split at h <;> try (cases h; done)
      split at h <;> try (cases h; done)
      split at h <;> try (cases h; done)
      obtain ⟨rfl, rfl⟩ := Prod.mk.inj (Option.some.inj h); rfl
    all_goals cases h

theorem give_size {d : Nat} {H : Nat → Option Blk} {v t : V} {ids : List Nat} (h : give d H v = some (t, ids)) : t.size = v.size := by
  rcases give_shape h with ⟨cs, ts, d', _, rfl, rfl, h2⟩ | ⟨h1, h2⟩
  · exact (overL_spec h2).1
  · rw [← size_cellsOf, ← size_cellsOf, h1, h2]; rfl

theorem give_spec {H : Nat → Option Blk} {nx : Nat} (q : WR φ St Mine w H nx) : ∀ (d : Nat),
    (∀ (v t : V) (m : Value) (ids : List Nat), give d H v = some (t, ids) → Rep φ St w v m → RepT St w t m (Lof φ ids)) ∧
    (∀ (v t : V) (β o : Nat) (ids : List Nat), give d H v = some (t, ids) → RepC φ St w β o (cellsOf v) → RepTC St w β o (cellsOf t) (Lof φ ids))
  | 0 => ⟨fun _ _ _ _ h => by simp [give] at h, fun _ _ _ _ _ h => by simp [give] at h⟩
  | d + 1 => by
    obtain ⟨ihV, ihA⟩ := give_spec q d
    have lst : ∀ (cs ts : List V) (ms : List Value) (ids : List Nat), overL (give d H) cs = some (ts, ids) → RepL φ St w cs ms → RepTL St w ts ms (Lof φ ids) := by
      intro cs
      induction cs with
      | nil =>
        intro ts ms ids h r
        simp only [overL, Option.some.injEq, Prod.mk.injEq] at h
        obtain ⟨rfl, rfl⟩ := h
        simp only [RepL] at r
        subst r
        simp [RepTL, Lof]
      | cons c cs ih =>
        intro ts ms ids h r
        obtain ⟨t, ts', i, j, h1, h2, rfl, rfl⟩ := overL_cons h
        simp only [RepL] at r
        obtain ⟨m, ms', rfl, r1, r2⟩ := r
        simp only [RepTL]
        exact ⟨m, ms', _, _, rfl, Lof_append _ _ _, ihV _ _ _ _ h1 r1, ih _ _ _ h2 r2⟩
    have cel : ∀ (cs ts : List V) (β o : Nat) (ids : List Nat), overL (give d H) cs = some (ts, ids) → RepC φ St w β o cs → RepTC St w β o ts (Lof φ ids) := by
      intro cs
      induction cs with
      | nil =>
        intro ts β o ids h r
        simp only [overL, Option.some.injEq, Prod.mk.injEq] at h
        obtain ⟨rfl, rfl⟩ := h
        simp [RepTC, Lof]
      | cons c cs ih =>
        intro ts β o ids h r
        obtain ⟨t, ts', i, j, h1, h2, rfl, rfl⟩ := overL_cons h
        obtain ⟨⟨u, hu, r1⟩, r2⟩ := r
        simp only [RepTC]
        exact ⟨_, _, Lof_append _ _ _, ⟨u, hu, ihV _ _ _ _ h1 r1⟩, ih _ _ _ _ h2 r2⟩
    have els : ∀ (es ts : List V) (β o k : Nat) (ids : List Nat), overL (give d H) es = some (ts, ids) → (∀ e ∈ es, e.size = k) → (∀ (i : Nat) e, es[i]? = some e → RepC φ St w β (o + i * k) (cellsOf e)) → RepTE St w β o ts (Lof φ ids) := by
      intro es
      induction es with
      | nil =>
        intro ts β o k ids h _ _
        simp only [overL, Option.some.injEq, Prod.mk.injEq] at h
        obtain ⟨rfl, rfl⟩ := h
        simp [RepTE, Lof]
      | cons e es ih =>
        intro ts β o k ids h hk r
        obtain ⟨t, ts', i, j, h1, h2, rfl, rfl⟩ := overL_cons h
        rw [RepTE_cons]
        refine ⟨_, _, Lof_append _ _ _, ihA _ _ _ _ _ h1 (by simpa using r 0 e rfl), ?_⟩
        refine ih _ _ _ k _ h2 (fun x hx => hk x (by simp [hx])) fun i x hi => ?_
        have := r (i + 1) x (by simpa using hi)
        rw [give_size h1, hk e (by simp)]
        rwa [show o + k + i * k = o + (i + 1) * k by rw [Nat.succ_mul]; omega]
    have val : ∀ (v t : V) (m : Value) (ids : List Nat), give (d + 1) H v = some (t, ids) → Rep φ St w v m → RepT St w t m (Lof φ ids) := by
      intro v t m ids h r
      cases v <;> simp only [give] at h
      case im x => obtain ⟨rfl, rfl⟩ := Prod.mk.inj (Option.some.inj h); simpa [Rep, RepT, Lof] using r
      case st cs =>
        split at h
        case h_2 => cases h
        rename_i ts i hts
        obtain ⟨rfl, rfl⟩ := Prod.mk.inj (Option.some.inj h)
        simp only [Rep] at r
        obtain ⟨ms, e, r⟩ := r
        simp only [RepT]
        exact ⟨ms, e, lst _ _ _ _ hts r⟩
      case tu cs =>
        split at h
        case h_2 => cases h
        rename_i ts i hts
        obtain ⟨rfl, rfl⟩ := Prod.mk.inj (Option.some.inj h)
        simp only [Rep] at r
        obtain ⟨ms, e, r⟩ := r
        simp only [RepT]
        exact ⟨ms, e, lst _ _ _ _ hts r⟩
      case cl f cs =>
        split at h
        case h_2 => cases h
        rename_i ts i hts
        obtain ⟨rfl, rfl⟩ := Prod.mk.inj (Option.some.inj h)
        simp only [Rep] at r
        obtain ⟨ms, e, r⟩ := r
        simp only [RepT]
        exact ⟨ms, e, lst _ _ _ _ hts r⟩
      case sl es => obtain ⟨rfl, rfl⟩ := Prod.mk.inj (Option.some.inj h); simp only [Rep] at r; simp only [RepT]; exact ⟨r, rfl⟩
      case rp v => obtain ⟨rfl, rfl⟩ := Prod.mk.inj (Option.some.inj h); simp only [Rep] at r; simp only [RepT]; exact ⟨r, rfl⟩
      case e0 => obtain ⟨rfl, rfl⟩ := Prod.mk.inj (Option.some.inj h); simp only [Rep] at r; simp only [RepT]; exact ⟨r, rfl⟩
      case hs b off n c =>
        split at h
        case h_2 => cases h
        rename_i B hB
        split at h
        case isFalse => cases h
        rename_i hle
        split at h
        case h_2 => cases h
        rename_i ts i hts
        obtain ⟨rfl, rfl⟩ := Prod.mk.inj (Option.some.inj h)
        simp only [Rep] at r
        obtain ⟨a, c', e, r1, r2, r3⟩ := r
        obtain ⟨h1, _⟩ := overL_spec hts
        have hlen : ((B.es.drop off).take n).length = n := by simp; omega
        rw [hlen] at h1
        simp only [RepT]
        refine ⟨a, c', by rw [h1]; exact e, by omega, ?_⟩
        by_cases hc0 : c' = 0
        · left
          refine ⟨hc0, ?_⟩
          have hn : n = 0 := by omega
          subst hn
          simp only [List.take_zero, overL, Option.some.injEq, Prod.mk.injEq] at hts
          obtain ⟨_, rfl⟩ := hts
          unfold Lof
          simp only [List.flatMap_cons, List.flatMap_nil, List.append_nil]
          split <;> simp
        · right
          rcases r3 with h0 | ⟨β, o, k, hp, rfl, hroom⟩
          · omega
          rcases q.blk b B hB with ⟨_, g4⟩ | ⟨β', o', g4, _, _, g5, g6, g7⟩
          · rw [g4] at hp; cases hp
          rw [g4] at hp; cases hp
          have hwin : ∀ (x : Nat) e, ((B.es.drop off).take n)[x]? = some e → B.es[off + x]? = some e := by
            intro x e hx
            rw [List.getElem?_take] at hx
            split at hx
            · rwa [List.getElem?_drop] at hx
            · cases hx
          refine ⟨β, o + off * B.k, Lof φ i, rfl, by rw [Lof_cons, Lof_some g4]; rfl, ?_, ?_, ?_⟩
          · obtain ⟨cs, ty, c1, c2⟩ := g5
            obtain ⟨cs', ty', fz, d1, d2⟩ := hroom
            rw [c1] at d1
            obtain ⟨rfl, rfl, rfl⟩ := Obj.cells.inj (Option.some.inj d1)
            exact ⟨cs, ty, c1, by rw [Nat.add_mul] at d2; omega⟩
          · intro t ht
            obtain ⟨x, hx⟩ := List.mem_iff_getElem?.1 ht
            obtain ⟨_, h2⟩ := overL_spec hts
            have hlt : x < ((B.es.drop off).take n).length := by rw [hlen, ← h1]; exact (List.getElem?_eq_some_iff.1 hx).1
            obtain ⟨t', j, s1, s2, _⟩ := h2 x _ (List.getElem?_eq_getElem hlt)
            rw [hx] at s2; obtain rfl := Option.some.inj s2
            rw [give_size s1]
            exact g6 _ (List.mem_of_mem_drop (List.mem_of_mem_take (List.getElem_mem hlt)))
          · refine els _ _ _ _ B.k _ hts (fun e he => g6 e (List.mem_of_mem_drop (List.mem_of_mem_take he))) fun x e hx => ?_
            have := g7 _ _ (hwin x e hx)
            rwa [Nat.add_mul, ← Nat.add_assoc] at this
      case hp b i =>
        split at h
        case h_2 => cases h
        rename_i B hB
        split at h
        case isFalse => cases h
        rename_i hcond
        obtain ⟨rfl, hlen⟩ := hcond
        split at h
        case h_2 => cases h
        rename_i t' j hts
        obtain ⟨rfl, rfl⟩ := Prod.mk.inj (Option.some.inj h)
        simp only [Rep] at r
        obtain ⟨β, o, k, hp, e⟩ := r
        obtain ⟨v0, hv0⟩ : ∃ v0, B.es = [v0] := by
          match hes : B.es, hlen with
          | [v0], _ => exact ⟨v0, rfl⟩
        rw [hv0] at hts
        obtain ⟨t2, ts2, i2, j2, s1, s2, s3, s4⟩ := overL_cons hts
        simp only [overL, Option.some.injEq, Prod.mk.injEq] at s2
        obtain ⟨rfl, rfl⟩ := s2
        obtain rfl : t' = t2 := by simpa using s3
        rw [List.append_nil] at s4
        subst s4
        rcases q.blk b B hB with ⟨g4, _⟩ | ⟨β', o', g4, _, _, g5, g6, g7⟩
        · rw [g4] at hv0; simp at hv0
        rw [g4] at hp; cases hp
        rw [RepT_op]
        refine ⟨β, o, Lof φ j, by simpa using e, by rw [Lof_cons, Lof_some g4]; rfl, ?_, ?_⟩
        · rw [give_size s1]
          have : v0.size = B.k := g6 v0 (by rw [hv0]; simp)
          rw [this]
          exact g5.mono (by rw [hlen]; omega)
        · exact ihA _ _ _ _ _ s1 (by simpa using g7 0 v0 (by rw [hv0]; rfl))
      all_goals cases h
    refine ⟨val, fun v t β o ids h r => ?_⟩
    rcases give_shape h with ⟨cs, ts, d', hd, rfl, rfl, h2⟩ | ⟨h1, h2⟩
    · obtain rfl : d = d' := by omega
      simp only [cellsOf] at r ⊢
      exact cel _ _ _ _ _ h2 r
    · rw [h1] at r; rw [h2]
      obtain ⟨⟨u, hu, hr⟩, _⟩ := r
      simp only [RepTC]
      exact ⟨_, [], by simp, ⟨u, hu, val v t u ids h hr⟩, rfl⟩

/-- Of what is handed over, each block is one of the frame's own. -/
theorem give_alive {H : Nat → Option Blk} : ∀ (d : Nat) (v t : V) (ids : List Nat), give d H v = some (t, ids) → ∀ b ∈ ids, ∃ B, H b = some B
  | 0, _, _, _, h => by simp [give] at h
  | d + 1, v, t, ids, h => by
    have lst : ∀ (cs ts : List V) (ids : List Nat), overL (give d H) cs = some (ts, ids) → ∀ b ∈ ids, ∃ B, H b = some B := by
      intro cs
      induction cs with
      | nil => intro ts ids h; simp only [overL, Option.some.injEq, Prod.mk.injEq] at h; obtain ⟨_, rfl⟩ := h; simp
      | cons c cs ih =>
        intro ts ids h
        obtain ⟨t, ts', i, j, h1, h2, rfl, rfl⟩ := overL_cons h
        intro b hb
        rcases List.mem_append.1 hb with hb | hb
        · exact give_alive d _ _ _ h1 b hb
        · exact ih _ _ h2 b hb
    cases v <;> simp only [give] at h
    case st cs => split at h
                  · rename_i hts; obtain ⟨_, rfl⟩ := Prod.mk.inj (Option.some.inj h); exact lst _ _ _ hts
                  · cases h
    case tu cs => split at h
                  · rename_i hts; obtain ⟨_, rfl⟩ := Prod.mk.inj (Option.some.inj h); exact lst _ _ _ hts
                  · cases h
    case cl f cs => split at h
                    · rename_i hts; obtain ⟨_, rfl⟩ := Prod.mk.inj (Option.some.inj h); exact lst _ _ _ hts
                    · cases h
    case hs b off n c =>
      split at h <;> try (cases h; done)
      rename_i B hB
      split at h <;> try (cases h; done)
      split at h <;> try (cases h; done)
      rename_i hts
      obtain ⟨_, rfl⟩ := Prod.mk.inj (Option.some.inj h)
      intro b' hb'
      rcases List.mem_cons.1 hb' with rfl | hb'
      · exact ⟨B, hB⟩
      · exact lst _ _ _ hts b' hb'
    case hp b i =>
      split at h <;> try (cases h; done)
      rename_i B hB
      split at h <;> try (cases h; done)
      split at h <;> try (cases h; done)
      rename_i hts
      obtain ⟨_, rfl⟩ := Prod.mk.inj (Option.some.inj h)
      intro b' hb'
      rcases List.mem_cons.1 hb' with rfl | hb'
      · exact ⟨B, hB⟩
      · exact lst _ _ _ hts b' hb'
    case im x => obtain ⟨_, rfl⟩ := Prod.mk.inj (Option.some.inj h); simp
    case sl x => obtain ⟨_, rfl⟩ := Prod.mk.inj (Option.some.inj h); simp
    case rp x => obtain ⟨_, rfl⟩ := Prod.mk.inj (Option.some.inj h); simp
    case e0 => obtain ⟨_, rfl⟩ := Prod.mk.inj (Option.some.inj h); simp
    all_goals cases h

end Go.Am
