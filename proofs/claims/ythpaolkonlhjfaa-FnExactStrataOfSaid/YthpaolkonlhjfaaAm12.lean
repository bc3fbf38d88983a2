/- The A-machine, part 12: a snapshot reads as what it was taken of. -/
import Derived.Test.YthpaolkonlhjfaaAm11
set_option linter.all false
namespace Go.Am
variable {P : Program} {φ : Phi} {St Mine : Nat → Prop} {w : World}

theorem overL_spec {f : V → Option (V × List Nat)} : ∀ {vs ts : List V} {ids : List Nat}, overL f vs = some (ts, ids) → ts.length = vs.length ∧
    ∀ (i : Nat) v, vs[i]? = some v → ∃ t j, f v = some (t, j) ∧ ts[i]? = some t ∧ ∀ b ∈ j, b ∈ ids
  | [], ts, ids, h => by simp only [overL, Option.some.injEq, Prod.mk.injEq] at h; obtain ⟨rfl, rfl⟩ := h; simp
  | v :: vs, ts, ids, h => by
    simp only [overL] at h
    split at h
    case h_2 => cases h
    rename_i t i ht
    split at h
    case h_2 => cases h
    rename_i ts' j hts
    obtain ⟨rfl, rfl⟩ := Prod.mk.inj (Option.some.inj h)
    obtain ⟨h1, h2⟩ := overL_spec hts
    refine ⟨by simp [h1], fun k v' hk => ?_⟩
    cases k with
    | zero =>
      obtain rfl : v = v' := by simpa using hk
      exact ⟨t, i, ht, rfl, fun b hb => List.mem_append_left _ hb⟩
    | succ k =>
      obtain ⟨t', j', g1, g2, g3⟩ := h2 k v' (by simpa using hk)
      exact ⟨t', j', g1, by simpa using g2, fun b hb => List.mem_append_right _ (g3 b hb)⟩

theorem overL_cons {f : V → Option (V × List Nat)} {v : V} {vs ts : List V} {ids : List Nat} (h : overL f (v :: vs) = some (ts, ids)) :
    ∃ t ts' i j, f v = some (t, i) ∧ overL f vs = some (ts', j) ∧ ts = t :: ts' ∧ ids = i ++ j := by
  simp only [overL] at h
  split at h
  case h_2 => cases h
  rename_i t i ht
  split at h
  case h_2 => cases h
  rename_i ts' j hts
  obtain ⟨rfl, rfl⟩ := Prod.mk.inj (Option.some.inj h)
  exact ⟨t, ts', i, j, ht, hts, rfl, rfl⟩

/-- Whether a snapshot is a struct, and of what size, is as with the value. -/
theorem snap_shape {d : Nat} {H : Nat → Option Blk} {v t : V} {ids : List Nat} (h : snap d H v = some (t, ids)) :
    (∃ cs ts d', d = d' + 1 ∧ v = .st cs ∧ t = .st ts ∧ overL (snap d' H) cs = some (ts, ids)) ∨ (cellsOf v = [v] ∧ cellsOf t = [t]) := by
  cases d with
  | zero => simp [snap] at h
  | succ d =>
    cases v <;> simp only [snap] at h
    case st cs =>
      split at h
      case h_2 => cases h
      rename_i ts i hts
      obtain ⟨rfl, rfl⟩ := Prod.mk.inj (Option.some.inj h)
      exact .inl ⟨cs, ts, d, rfl, rfl, rfl, hts⟩
    all_goals refine .inr ⟨rfl, ?_⟩
    case im x => obtain ⟨rfl, rfl⟩ := Prod.mk.inj (Option.some.inj h); rfl
    case tu cs => split at h
                  · obtain ⟨rfl, rfl⟩ := Prod.mk.inj (Option.some.inj h); rfl
                  · cases h
    case cl f cs => split at h
                    · obtain ⟨rfl, rfl⟩ := Prod.mk.inj (Option.some.inj h); rfl
                    · cases h
    case sl es => obtain ⟨rfl, rfl⟩ := Prod.mk.inj (Option.some.inj h); rfl
    case rp v => obtain ⟨rfl, rfl⟩ := Prod.mk.inj (Option.some.inj h); rfl
    case e0 => obtain ⟨rfl, rfl⟩ := Prod.mk.inj (Option.some.inj h); rfl
    case hs b off n c =>
      split at h
      · obtain ⟨rfl, rfl⟩ := Prod.mk.inj (Option.some.inj h); rfl
      split at h <;> try (cases h; done)
      split at h <;> try (cases h; done)
      split at h <;> try (cases h; done)
      obtain ⟨rfl, rfl⟩ := Prod.mk.inj (Option.some.inj h); rfl
    case hp b i =>
      split at h <;> try (cases h; done)
      split at h <;> try (cases h; done)
      split at h <;> try (cases h; done)
      obtain ⟨rfl, rfl⟩ := Prod.mk.inj (Option.some.inj h); rfl
    case hf b i j =>
      split at h <;> try (cases h; done)
      split at h <;> try (cases h; done)
      split at h <;> try (cases h; done)
      split at h <;> try (cases h; done)
      split at h <;> try (cases h; done)
      obtain ⟨rfl, rfl⟩ := Prod.mk.inj (Option.some.inj h); rfl
    all_goals cases h

theorem snap_size {d : Nat} {H : Nat → Option Blk} {v t : V} {ids : List Nat} (h : snap d H v = some (t, ids)) : t.size = v.size := by
  rcases snap_shape h with ⟨cs, ts, d', _, rfl, rfl, h2⟩ | ⟨h1, h2⟩
  · exact (overL_spec h2).1
  · rw [← size_cellsOf, ← size_cellsOf, h1, h2]; rfl

theorem ROL_iff {St : Nat → Prop} {w : World} : ∀ {vs : List V} {ms : List Value}, ROL St w vs ms ↔ vs.length = ms.length ∧ ∀ (i : Nat) (v : V), vs[i]? = some v → ∃ m, ms[i]? = some m ∧ RO St w v m
  | [], ms => by
    simp only [ROL, List.length_nil]
    constructor
    · rintro rfl; simp
    · intro h; exact List.eq_nil_of_length_eq_zero h.1.symm
  | v :: vs, [] => by simp [ROL]
  | v :: vs, m :: ms => by
    simp only [ROL]
    constructor
    · rintro ⟨m', ms', e, h1, h2⟩
      cases e
      obtain ⟨h3, h4⟩ := ROL_iff.1 h2
      refine ⟨by simp [h3], fun i v' hi => ?_⟩
      cases i with
      | zero => exact ⟨m, rfl, by obtain rfl : v = v' := by simpa using hi
                                  exact h1⟩
      | succ i => simpa using h4 i v' (by simpa using hi)
    · rintro ⟨h1, h2⟩
      refine ⟨m, ms, rfl, ?_, ROL_iff.2 ⟨by simpa using h1, fun i v' hi => ?_⟩⟩
      · obtain ⟨m', hm, hr⟩ := h2 0 v rfl
        obtain rfl : m = m' := by simpa using hm
        exact hr
      · simpa using h2 (i + 1) v' (by simpa using hi)

theorem ROC_iff {St : Nat → Prop} {w : World} {β : Nat} : ∀ {cs : List V} {o : Nat}, ROC St w β o cs ↔ ∀ j c, cs[j]? = some c → ∃ u, Cel w β (o + j) = some u ∧ RO St w c u
  | [], _ => by simp [ROC]
  | v :: vs, o => by
    constructor
    · exact fun h j c hj => ROC_get h hj
    · intro h
      refine ⟨by simpa using h 0 v rfl, ROC_iff.2 fun j c hj => ?_⟩
      have := h (j + 1) c (by simpa using hj)
      rwa [show o + (j + 1) = o + 1 + j by omega] at this

theorem ROE_of {St : Nat → Prop} {w : World} {β k : Nat} : ∀ {es : List V} {o : Nat}, (∀ e ∈ es, e.size = k) → (∀ (i : Nat) e, es[i]? = some e → ROC St w β (o + i * k) (cellsOf e)) → ROE St w β o es
  | [], o, _, _ => by simp [ROE]
  | e :: es, o, hk, h => by
    rw [ROE_cons]
    refine ⟨by simpa using h 0 e rfl, ROE_of (fun x hx => hk x (by simp [hx])) fun i x hi => ?_⟩
    have := h (i + 1) x (by simpa using hi)
    rw [hk e (by simp)]
    rwa [show o + (i + 1) * k = o + k + i * k by rw [Nat.succ_mul]; omega] at this

theorem snap_spec {H : Nat → Option Blk} {nx : Nat} (q : WR φ St Mine w H nx) {St' : Nat → Prop} (hS : ∀ β, St β → St' β) : ∀ (d : Nat),
    (∀ (v t : V) (m : Value) (ids : List Nat), snap d H v = some (t, ids) → Rep φ St w v m → (∀ b ∈ ids, ∀ β o k, φ b = some (β, o, k) → St' β) → RO St' w t m) ∧
    (∀ (v t : V) (β o : Nat) (ids : List Nat), snap d H v = some (t, ids) → RepC φ St w β o (cellsOf v) → (∀ b ∈ ids, ∀ β o k, φ b = some (β, o, k) → St' β) → ROC St' w β o (cellsOf t))
  | 0 => ⟨fun _ _ _ _ h => by simp [snap] at h, fun _ _ _ _ _ h => by simp [snap] at h⟩
  | d + 1 => by
    obtain ⟨ihV, ihA⟩ := snap_spec q hS d
    have lst : ∀ (cs ts : List V) (ms : List Value) (ids : List Nat), overL (snap d H) cs = some (ts, ids) → RepL φ St w cs ms → (∀ b ∈ ids, ∀ β o k, φ b = some (β, o, k) → St' β) → ROL St' w ts ms := by
      intro cs ts ms ids h r hi
      obtain ⟨h1, h2⟩ := overL_spec h
      rw [RepL_iff] at r
      rw [ROL_iff]
      refine ⟨by rw [h1]; exact r.1, fun i t ht => ?_⟩
      have hlt : i < cs.length := by rw [← h1]; exact (List.getElem?_eq_some_iff.1 ht).1
      obtain ⟨t', j, g1, g2, g3⟩ := h2 i _ (List.getElem?_eq_getElem hlt)
      rw [ht] at g2; obtain rfl := Option.some.inj g2
      obtain ⟨m, hm, hr⟩ := r.2 i _ (List.getElem?_eq_getElem hlt)
      exact ⟨m, hm, ihV _ _ _ _ g1 hr fun b hb => hi b (g3 b hb)⟩
    have val : ∀ (v t : V) (m : Value) (ids : List Nat), snap (d + 1) H v = some (t, ids) → Rep φ St w v m → (∀ b ∈ ids, ∀ β o k, φ b = some (β, o, k) → St' β) → RO St' w t m := by
      intro v t m ids h r hi
      cases v <;> simp only [snap] at h
      case im x => obtain ⟨rfl, rfl⟩ := Prod.mk.inj (Option.some.inj h); simpa [Rep, RO] using r
      case st cs =>
        split at h
        case h_2 => cases h
        rename_i ts i hts
        obtain ⟨rfl, rfl⟩ := Prod.mk.inj (Option.some.inj h)
        simp only [Rep] at r
        obtain ⟨ms, e, r⟩ := r
        simp only [RO]
        exact ⟨ms, e, lst _ _ _ _ hts r hi⟩
      case tu cs =>
        split at h
        case h_2 => cases h
        rename_i ts i hts
        obtain ⟨rfl, rfl⟩ := Prod.mk.inj (Option.some.inj h)
        simp only [Rep] at r
        obtain ⟨ms, e, r⟩ := r
        simp only [RO]
        exact ⟨ms, e, lst _ _ _ _ hts r hi⟩
      case cl f cs =>
        split at h
        case h_2 => cases h
        rename_i ts i hts
        obtain ⟨rfl, rfl⟩ := Prod.mk.inj (Option.some.inj h)
        simp only [Rep] at r
        obtain ⟨ms, e, r⟩ := r
        simp only [RO]
        exact ⟨ms, e, lst _ _ _ _ hts r hi⟩
      case sl es => obtain ⟨rfl, rfl⟩ := Prod.mk.inj (Option.some.inj h); simp only [Rep] at r; exact RO.mono hS (fun _ _ => rfl) _ _ r
      case rp v => obtain ⟨rfl, rfl⟩ := Prod.mk.inj (Option.some.inj h); simp only [Rep] at r; exact RO.mono hS (fun _ _ => rfl) _ _ r
      case e0 =>
        obtain ⟨rfl, rfl⟩ := Prod.mk.inj (Option.some.inj h)
        simp only [Rep] at r
        obtain ⟨a, e⟩ := r
        simp only [RO]
        exact ⟨a, 0, e, by simp, by simp⟩
      case hs b off n c =>
        split at h
        · rename_i hn0
          obtain ⟨rfl, rfl⟩ := Prod.mk.inj (Option.some.inj h)
          simp only [Rep] at r
          obtain ⟨a, c', e, _⟩ := r
          simp only [RO]
          exact ⟨a, c', by rw [e, hn0]; rfl, by simp, by simp⟩
        split at h
        case h_2 => cases h
        rename_i B hB
        split at h
        case isFalse => cases h
        rename_i hle
        split at h
        case h_2 => cases h
        rename_i ts i hts
        obtain ⟨rfl, rfl⟩ := Prod.mk.inj (Option.some.inj h)
        simp only [Rep] at r
        obtain ⟨a, c', e, r1, r2, r3⟩ := r
        obtain ⟨h1, h2⟩ := overL_spec hts
        have hlen : ((B.es.drop off).take n).length = n := by simp; omega
        rw [hlen] at h1
        simp only [RO]
        refine ⟨a, c', by rw [h1]; exact e, by omega, ?_⟩
        by_cases hn : n = 0
        · left; exact List.eq_nil_of_length_eq_zero (by omega)
        · rcases r3 with rfl | ⟨β, o, k, hp, rfl, _⟩
          · omega
          rcases q.blk b B hB with ⟨_, g4⟩ | ⟨β', o', g4, _, _, _, g6, g7⟩
          · rw [g4] at hp; cases hp
          rw [g4] at hp; cases hp
          have hsz : ∀ t ∈ ts, t.size = B.k := by
            intro t ht
            obtain ⟨x, hx⟩ := List.mem_iff_getElem?.1 ht
            have hlt : x < ((B.es.drop off).take n).length := by rw [hlen, ← h1]; exact (List.getElem?_eq_some_iff.1 hx).1
            obtain ⟨t', j, s1, s2, _⟩ := h2 x _ (List.getElem?_eq_getElem hlt)
            rw [hx] at s2; obtain rfl := Option.some.inj s2
            rw [snap_size s1]
            exact g6 _ (List.mem_of_mem_drop (List.mem_of_mem_take (List.getElem_mem hlt)))
          refine .inr ⟨β, _, B.k, rfl, hi b (by simp) β o B.k g4, hsz, ROE_of hsz fun x t ht => ?_⟩
          have hlt : x < ((B.es.drop off).take n).length := by rw [hlen, ← h1]; exact (List.getElem?_eq_some_iff.1 ht).1
          obtain ⟨t', j, s1, s2, s3⟩ := h2 x _ (List.getElem?_eq_getElem hlt)
          rw [ht] at s2; obtain rfl := Option.some.inj s2
          refine ihA _ _ _ _ _ s1 ?_ fun b' hb' => hi b' (by simp [s3 b' hb'])
          have hx : B.es[off + x]? = some ((B.es.drop off).take n)[x] := by
            have := List.getElem?_eq_getElem hlt
            rw [List.getElem?_take] at this
            split at this
            · rwa [List.getElem?_drop] at this
            · cases this
          have := g7 _ _ hx
          rwa [Nat.add_mul, ← Nat.add_assoc] at this
      case hp b i =>
        split at h
        case h_2 => cases h
        rename_i B hB
        split at h
        case h_2 => cases h
        rename_i v hv
        split at h
        case h_2 => cases h
        rename_i t' j ht
        obtain ⟨rfl, rfl⟩ := Prod.mk.inj (Option.some.inj h)
        simp only [Rep] at r
        obtain ⟨β, o, k, hp, e⟩ := r
        rcases q.blk b B hB with ⟨g4, _⟩ | ⟨β', o', g4, _, _, _, g6, g7⟩
        · rw [g4] at hv; simp at hv
        rw [g4] at hp; cases hp
        rw [RO_rp]
        exact ⟨β, _, e, hi b (by simp) β o B.k g4, ihA _ _ _ _ _ ht (g7 i v hv) fun b' hb' => hi b' (by simp [hb'])⟩
      case hf b i j =>
        split at h
        case h_2 => cases h
        rename_i B hB
        split at h
        case h_2 => cases h
        rename_i cs hcs
        split at h
        case h_2 => cases h
        rename_i v hv
        split at h
        case isFalse => cases h
        rename_i hok
        split at h
        case h_2 => cases h
        rename_i t' j' ht
        obtain ⟨rfl, rfl⟩ := Prod.mk.inj (Option.some.inj h)
        simp only [Rep] at r
        obtain ⟨β, o, k, hp, e⟩ := r
        rcases q.blk b B hB with ⟨g4, _⟩ | ⟨β', o', g4, _, _, _, g6, g7⟩
        · rw [g4] at hcs; simp at hcs
        rw [g4] at hp; cases hp
        rw [RO_rp]
        refine ⟨β, _, e, hi b (by simp) β o B.k g4, ihA v t' _ _ _ ht ?_ fun b' hb' => hi b' (by simp [hb'])⟩
        rw [okc_cells hok]
        obtain ⟨u, hu, hr⟩ := RepC_get (g7 i _ hcs) hv
        exact ⟨⟨u, hu, hr⟩, trivial⟩
      all_goals cases h
    refine ⟨val, fun v t β o ids h r hi => ?_⟩
    rcases snap_shape h with ⟨cs, ts, d', hd, rfl, rfl, h2⟩ | ⟨h1, h2⟩
    · obtain rfl : d = d' := by omega
      obtain ⟨h3, h4⟩ := overL_spec h2
      simp only [cellsOf] at r ⊢
      rw [ROC_iff]
      intro j t ht
      have hlt : j < cs.length := by rw [← h3]; exact (List.getElem?_eq_some_iff.1 ht).1
      obtain ⟨t', j', g1, g2, g3⟩ := h4 j _ (List.getElem?_eq_getElem hlt)
      rw [ht] at g2; obtain rfl := Option.some.inj g2
      obtain ⟨u, hu, hr⟩ := RepC_get r (List.getElem?_eq_getElem hlt)
      exact ⟨u, hu, ihV _ _ _ _ g1 hr fun b hb => hi b (g3 b hb)⟩
    · rw [h1] at r; rw [h2]
      obtain ⟨⟨u, hu, hr⟩, _⟩ := r
      exact ⟨⟨u, hu, val v t u ids h hr hi⟩, trivial⟩

/-- Of what is read, each block is one of the frame's own. -/
theorem snap_alive {H : Nat → Option Blk} : ∀ (d : Nat) (v t : V) (ids : List Nat), snap d H v = some (t, ids) → ∀ b ∈ ids, ∃ B, H b = some B
  | 0, _, _, _, h => by simp [snap] at h
  | d + 1, v, t, ids, h => by
    have lst : ∀ (cs ts : List V) (ids : List Nat), overL (snap d H) cs = some (ts, ids) → ∀ b ∈ ids, ∃ B, H b = some B := by
      intro cs
      induction cs with
      | nil => intro ts ids h; simp only [overL, Option.some.injEq, Prod.mk.injEq] at h; obtain ⟨_, rfl⟩ := h; simp
      | cons c cs ih =>
        intro ts ids h
        obtain ⟨t, ts', i, j, h1, h2, rfl, rfl⟩ := overL_cons h
        intro b hb
        rcases List.mem_append.1 hb with hb | hb
        · exact snap_alive d _ _ _ h1 b hb
        · exact ih _ _ h2 b hb
    cases v <;> simp only [snap] at h
    case st cs => split at h
                  · rename_i hts; obtain ⟨_, rfl⟩ := Prod.mk.inj (Option.some.inj h); exact lst _ _ _ hts
                  · cases h
    case tu cs => split at h
                  · rename_i hts; obtain ⟨_, rfl⟩ := Prod.mk.inj (Option.some.inj h); exact lst _ _ _ hts
                  · cases h
    case cl f cs => split at h
                    · rename_i hts; obtain ⟨_, rfl⟩ := Prod.mk.inj (Option.some.inj h); exact lst _ _ _ hts
                    · cases h
    case hs b off n c =>
      split at h
      · obtain ⟨_, rfl⟩ := Prod.mk.inj (Option.some.inj h); simp
      split at h <;> try (cases h; done)
      rename_i B hB
      split at h <;> try (cases h; done)
      split at h <;> try (cases h; done)
      rename_i hts
      obtain ⟨_, rfl⟩ := Prod.mk.inj (Option.some.inj h)
      intro b' hb'
      rcases List.mem_cons.1 hb' with rfl | hb'
      · exact ⟨B, hB⟩
      · exact lst _ _ _ hts b' hb'
    case hp b i =>
      split at h <;> try (cases h; done)
      rename_i B hB
      split at h <;> try (cases h; done)
      split at h <;> try (cases h; done)
      rename_i hts
      obtain ⟨_, rfl⟩ := Prod.mk.inj (Option.some.inj h)
      intro b' hb'
      rcases List.mem_cons.1 hb' with rfl | hb'
      · exact ⟨B, hB⟩
      · exact snap_alive d _ _ _ hts b' hb'
    case hf b i j =>
      split at h <;> try (cases h; done)
      rename_i B hB
      split at h <;> try (cases h; done)
      split at h <;> try (cases h; done)
      split at h <;> try (cases h; done)
      split at h <;> try (cases h; done)
      rename_i hts
      obtain ⟨_, rfl⟩ := Prod.mk.inj (Option.some.inj h)
      intro b' hb'
      rcases List.mem_cons.1 hb' with rfl | hb'
      · exact ⟨B, hB⟩
      · exact snap_alive d _ _ _ hts b' hb'
    case im x => obtain ⟨_, rfl⟩ := Prod.mk.inj (Option.some.inj h); simp
    case sl x => obtain ⟨_, rfl⟩ := Prod.mk.inj (Option.some.inj h); simp
    case rp x => obtain ⟨_, rfl⟩ := Prod.mk.inj (Option.some.inj h); simp
    case e0 => obtain ⟨_, rfl⟩ := Prod.mk.inj (Option.some.inj h); simp
    all_goals cases h

end Go.Am
