/- The A-machine, part 14: what is taken over becomes blocks of the frame's own. -/
import Derived.Test.YthpaolkonlhjfaaAm13
set_option linter.all false
namespace Go.Am
variable {P : Program} {St Mine : Nat → Prop} {w : World}

/-- An empty block without memory. -/
theorem WR.empty {φ : Phi} {H : Nat → Option Blk} {nx k : Nat} (q : WR φ St Mine w H nx) : WR φ St Mine w (upd H nx (some { k := k, es := [] })) (nx + 1) := by
  have old : ∀ b B, upd H nx (some { k := k, es := [] }) b = some B → (b = nx ∧ B = { k := k, es := [] }) ∨ (b ≠ nx ∧ H b = some B) := by
    intro b B h
    by_cases e : b = nx
    · subst e; rw [upd_same] at h; exact .inl ⟨rfl, (Option.some.inj h).symm⟩
    · rw [upd_ne _ _ e] at h; exact .inr ⟨e, h⟩
  have hd := q.dom nx (Nat.le_refl _)
  refine ⟨fun b hb => by rw [upd_ne _ _ (by omega)]; exact q.bnd b (by omega), fun b hb => q.dom b (by omega), fun b B hB => ?_, ?_, ?_, q.stB, q.mine⟩
  · rcases old b B hB with ⟨rfl, rfl⟩ | ⟨_, h⟩
    · exact .inl ⟨rfl, hd⟩
    · exact q.blk b B h
  · intro b b' B B' β o k o' k' h1 h2 p1 p2
    rcases old b B h1 with ⟨rfl, _⟩ | ⟨_, g1⟩
    · rw [hd] at p1; cases p1
    rcases old b' B' h2 with ⟨rfl, _⟩ | ⟨_, g2⟩
    · rw [hd] at p2; cases p2
    exact q.inj b b' B B' β o k o' k' g1 g2 p1 p2
  · intro b B β o k h1 p1
    rcases old b B h1 with ⟨rfl, _⟩ | ⟨_, g1⟩
    · rw [hd] at p1; cases p1
    exact q.own b B β o k g1 p1

/-- A machine's block that nobody else holds becomes a block of the frame. -/
theorem WR.adopt {φ : Phi} {H : Nat → Option Blk} {nx k β o : Nat} {es : List V} (q : WR φ St Mine w H nx) (hfree : ∀ b B o' k', H b = some B → φ b = some (β, o', k') → False)
    (hS : ¬ St β) (hM : Mine β) (ho : Own w β (o + es.length * k)) (hk : ∀ e ∈ es, e.size = k) (hr : RepE φ St w β o k es) :
    WR (upd φ nx (some (β, o, k))) St Mine w (upd H nx (some { k := k, es := es })) (nx + 1) := by
  have hφ : ∀ b x, φ b = some x → upd φ nx (some (β, o, k)) b = some x := fun b x hx => by
    rw [upd_ne]; · exact hx
    rintro rfl; rw [q.dom b (Nat.le_refl _)] at hx; cases hx
  have old : ∀ b B, upd H nx (some { k := k, es := es }) b = some B → (b = nx ∧ B = { k := k, es := es }) ∨ (b ≠ nx ∧ H b = some B) := by
    intro b B h
    by_cases e : b = nx
    · subst e; rw [upd_same] at h; exact .inl ⟨rfl, (Option.some.inj h).symm⟩
    · rw [upd_ne _ _ e] at h; exact .inr ⟨e, h⟩
  refine ⟨fun b hb => by rw [upd_ne _ _ (by omega)]; exact q.bnd b (by omega), fun b hb => by rw [upd_ne _ _ (by omega)]; exact q.dom b (by omega), fun b B hB => ?_, ?_, ?_, q.stB, q.mine⟩
  · rcases old b B hB with ⟨rfl, rfl⟩ | ⟨e, h⟩
    · exact .inr ⟨β, o, upd_same _ _ _, fun _ => hS, fun h => (by simp at h), ho, hk, RepE.mono hφ (fun _ h => h) (fun _ _ => rfl) (fun _ _ h => h) (fun _ => rfl) hr⟩
    · exact BlkOK.mono hφ (fun hn => by rw [upd_ne _ _ e]; exact hn) (fun _ _ => rfl) (fun _ _ h => h) (fun _ _ _ _ => rfl) (q.blk b B h)
  · intro b b' B B' β1 o1 k1 o2 k2 h1 h2 p1 p2
    rcases old b B h1 with ⟨rfl, _⟩ | ⟨e1, g1⟩ <;> rcases old b' B' h2 with ⟨rfl, _⟩ | ⟨e2, g2⟩
    · rfl
    · rw [upd_same] at p1; cases p1
      rw [upd_ne _ _ e2] at p2
      exact (hfree b' B' _ _ g2 p2).elim
    · rw [upd_same] at p2; cases p2
      rw [upd_ne _ _ e1] at p1
      exact (hfree b B _ _ g1 p1).elim
    · rw [upd_ne _ _ e1] at p1; rw [upd_ne _ _ e2] at p2
      exact q.inj b b' B B' β1 o1 k1 o2 k2 g1 g2 p1 p2
  · intro b B β1 o1 k1 h1 p1
    rcases old b B h1 with ⟨rfl, _⟩ | ⟨e1, g1⟩
    · rw [upd_same] at p1; cases p1; exact hM
    · rw [upd_ne _ _ e1] at p1; exact q.own b B β1 o1 k1 g1 p1

theorem takeL_cons {f : V → S → Option (V × S)} {t : V} {ts vs : List V} {s s2 : S} (h : takeL f (t :: ts) s = some (vs, s2)) :
    ∃ v vs' s1, f t s = some (v, s1) ∧ takeL f ts s1 = some (vs', s2) ∧ vs = v :: vs' := by
  simp only [takeL] at h
  split at h
  case h_2 => cases h
  rename_i v s1 hv
  split at h
  case h_2 => cases h
  rename_i vs' s2' hvs
  obtain ⟨rfl, rfl⟩ := Prod.mk.inj (Option.some.inj h)
  exact ⟨v, vs', s1, hv, hvs, rfl⟩

theorem takeL_len {f : V → S → Option (V × S)} : ∀ {ts vs : List V} {s s2 : S}, takeL f ts s = some (vs, s2) → vs.length = ts.length
  | [], vs, s, s2, h => by simp only [takeL, Option.some.injEq, Prod.mk.injEq] at h; obtain ⟨rfl, _⟩ := h; rfl
  | t :: ts, vs, s, s2, h => by
    obtain ⟨v, vs', s1, _, h2, rfl⟩ := takeL_cons h
    simp [takeL_len h2]

theorem take_shape {d : Nat} {t v : V} {s s1 : S} (h : takeIn d t s = some (v, s1)) :
    (∃ cs vs d', d = d' + 1 ∧ t = .st cs ∧ v = .st vs ∧ takeL (takeIn d') cs s = some (vs, s1)) ∨ (cellsOf t = [t] ∧ cellsOf v = [v]) := by
  cases d with
  | zero => simp [takeIn] at h
  | succ d =>
    cases t <;> simp only [takeIn] at h
    case st cs =>
      split at h
      case h_2 => cases h
      rename_i vs s2 hts
      obtain ⟨rfl, rfl⟩ := Prod.mk.inj (Option.some.inj h)
      exact .inl ⟨cs, vs, d, rfl, rfl, rfl, hts⟩
    all_goals refine .inr ⟨rfl, ?_⟩
    case im x => obtain ⟨rfl, rfl⟩ := Prod.mk.inj (Option.some.inj h); rfl
    case tu cs => split at h
                  · obtain ⟨rfl, rfl⟩ := Prod.mk.inj (Option.some.inj h); rfl
                  · cases h
    case cl f cs => split at h
                    · obtain ⟨rfl, rfl⟩ := Prod.mk.inj (Option.some.inj h); rfl
                    · cases h
    case sl es => obtain ⟨rfl, rfl⟩ := Prod.mk.inj (Option.some.inj h); rfl
    case rp v => obtain ⟨rfl, rfl⟩ := Prod.mk.inj (Option.some.inj h); rfl
    case e0 => obtain ⟨rfl, rfl⟩ := Prod.mk.inj (Option.some.inj h); rfl
    case ow k es => split at h
                    · obtain ⟨rfl, rfl⟩ := Prod.mk.inj (Option.some.inj h); rfl
                    · cases h
    case op v => split at h
                 · obtain ⟨rfl, rfl⟩ := Prod.mk.inj (Option.some.inj h); rfl
                 · cases h
    all_goals cases h

theorem take_size {d : Nat} {t v : V} {s s1 : S} (h : takeIn d t s = some (v, s1)) : v.size = t.size := by
  rcases take_shape h with ⟨cs, vs, d', _, rfl, rfl, h2⟩ | ⟨h1, h2⟩
  · exact takeL_len h2
  · rw [← size_cellsOf, ← size_cellsOf, h1, h2]; rfl

/-- From s to s1 blocks have come, all out of L; nothing else has turned. -/
structure Tk (φ φ' : Phi) (s s1 : S) (L : List Nat) : Prop where
  ext : Ext φ φ' s.nx
  e : s1.e = s.e
  nx : s.nx ≤ s1.nx
  old : ∀ b, b < s.nx → s1.H b = s.H b
  new : ∀ b B β o k, s.nx ≤ b → s1.H b = some B → φ' b = some (β, o, k) → β ∈ L
  fz : s1.fz = s.fz
  fr : ∀ b B, s.nx ≤ b → s1.H b = some B → B.fr = false

theorem Tk.refl {φ : Phi} {s : S} {H : Nat → Option Blk} (q : WR φ St Mine w H s.nx) (hH : s.H = H) (L : List Nat) : Tk φ φ s s L :=
  ⟨Ext.refl _ _, rfl, Nat.le_refl _, fun _ _ => rfl, fun b B β o k hb _ hp => (by rw [q.dom b hb] at hp; cases hp), rfl, fun b B hb hB => (by rw [hH, q.bnd b hb] at hB; cases hB)⟩

theorem Tk.trans {φ φ1 φ2 : Phi} {s s1 s2 : S} {L1 L2 L : List Nat} (h : Tk φ φ1 s s1 L1) (k : Tk φ1 φ2 s1 s2 L2) (h1 : ∀ β ∈ L1, β ∈ L) (h2 : ∀ β ∈ L2, β ∈ L) : Tk φ φ2 s s2 L :=
  ⟨h.ext.trans k.ext h.nx, k.e.trans h.e, Nat.le_trans h.nx k.nx, fun b hb => (k.old b (Nat.lt_of_lt_of_le hb h.nx)).trans (h.old b hb), fun b B β o k' hb hB hp => by
    by_cases hlt : b < s1.nx
    · rw [k.old b hlt] at hB
      rw [k.ext b hlt] at hp
      exact h1 _ (h.new b B β o k' hb hB hp)
    · exact h2 _ (k.new b B β o k' (by omega) hB hp), k.fz.trans h.fz, fun b B hb hB => by
    by_cases hlt : b < s1.nx
    · rw [k.old b hlt] at hB; exact h.fr b B hb hB
    · exact k.fr b B (by omega) hB⟩

theorem Tk.some {φ φ' : Phi} {s s1 : S} {L : List Nat} (h : Tk φ φ' s s1 L) {H : Nat → Option Blk} (q : WR φ St Mine w H s.nx) : ∀ b x, φ b = some x → φ' b = some x := h.ext.some q

/-- What may be taken over. -/
structure Can (φ : Phi) (St Mine : Nat → Prop) (s : S) (L : List Nat) : Prop where
  nd : L.Nodup
  ns : ∀ β ∈ L, ¬ St β
  mi : ∀ β ∈ L, Mine β
  fr : ∀ b B β o k, s.H b = some B → φ b = some (β, o, k) → β ∉ L

theorem Can.left {φ : Phi} {s : S} {L1 L2 : List Nat} (h : Can φ St Mine s (L1 ++ L2)) : Can φ St Mine s L1 :=
  ⟨(List.nodup_append.1 h.nd).1, fun β hb => h.ns β (by simp [hb]), fun β hb => h.mi β (by simp [hb]), fun b B β o k h1 h2 h3 => h.fr b B β o k h1 h2 (by simp [h3])⟩

theorem Can.right {φ φ1 : Phi} {s s1 : S} {L1 L2 : List Nat} (h : Can φ St Mine s (L1 ++ L2)) (t : Tk φ φ1 s s1 L1) {H : Nat → Option Blk} (q : WR φ St Mine w H s.nx) (hH : s.H = H) : Can φ1 St Mine s1 L2 := by
  refine ⟨(List.nodup_append.1 h.nd).2.1, fun β hb => h.ns β (by simp [hb]), fun β hb => h.mi β (by simp [hb]), fun b B β o k h1 h2 h3 => ?_⟩
  by_cases hlt : b < s.nx
  · rw [t.old b hlt] at h1
    rw [t.ext b hlt] at h2
    exact h.fr b B β o k h1 h2 (by simp [h3])
  · have := t.new b B β o k (by omega) h1 h2
    exact (List.nodup_append.1 h.nd).2.2 β this β h3 rfl

theorem mono_same {φ φ' : Phi} {v : V} {m : Value} (hφ : ∀ b x, φ b = some x → φ' b = some x) (h : Rep φ St w v m) : Rep φ' St w v m := Rep.mono hφ (fun _ h => h) (fun _ _ => rfl) (fun _ _ h => h) v m h
theorem monoC_same {φ φ' : Phi} {vs : List V} {β o : Nat} (hφ : ∀ b x, φ b = some x → φ' b = some x) (h : RepC φ St w β o vs) : RepC φ' St w β o vs := RepC.mono hφ (fun _ h => h) (fun _ _ => rfl) (fun _ _ h => h) (fun _ => rfl) vs o h

theorem take_spec : ∀ (d : Nat),
    (∀ (φ : Phi) (t v : V) (m : Value) (L : List Nat) (s s1 : S), takeIn d t s = some (v, s1) → RepT St w t m L → Can φ St Mine s L → WR φ St Mine w s.H s.nx →
      ∃ φ', Tk φ φ' s s1 L ∧ Rep φ' St w v m ∧ WR φ' St Mine w s1.H s1.nx) ∧
    (∀ (φ : Phi) (t v : V) (β o : Nat) (L : List Nat) (s s1 : S), takeIn d t s = some (v, s1) → RepTC St w β o (cellsOf t) L → Can φ St Mine s L → WR φ St Mine w s.H s.nx →
      ∃ φ', Tk φ φ' s s1 L ∧ RepC φ' St w β o (cellsOf v) ∧ WR φ' St Mine w s1.H s1.nx)
  | 0 => ⟨fun _ _ _ _ _ _ _ h => by simp [takeIn] at h, fun _ _ _ _ _ _ _ _ h => by simp [takeIn] at h⟩
  | d + 1 => by
    obtain ⟨ihV, ihA⟩ := take_spec d
    have lst : ∀ (ts vs : List V) (φ : Phi) (ms : List Value) (L : List Nat) (s s1 : S), takeL (takeIn d) ts s = some (vs, s1) → RepTL St w ts ms L → Can φ St Mine s L → WR φ St Mine w s.H s.nx →
        ∃ φ', Tk φ φ' s s1 L ∧ RepL φ' St w vs ms ∧ WR φ' St Mine w s1.H s1.nx := by
      intro ts
      induction ts with
      | nil =>
        intro vs φ ms L s s1 h r c q
        simp only [takeL, Option.some.injEq, Prod.mk.injEq] at h
        obtain ⟨rfl, rfl⟩ := h
        simp only [RepTL] at r
        obtain ⟨rfl, rfl⟩ := r
        exact ⟨φ, Tk.refl q rfl _, by simp [RepL], q⟩
      | cons t ts ih =>
        intro vs φ ms L s s2 h r c q
        obtain ⟨v, vs', s1, h1, h2, rfl⟩ := takeL_cons h
        simp only [RepTL] at r
        obtain ⟨m, ms', L1, L2, rfl, rfl, r1, r2⟩ := r
        obtain ⟨φ1, k1, p1, q1⟩ := ihV φ _ _ _ _ _ _ h1 r1 c.left q
        obtain ⟨φ2, k2, p2, q2⟩ := ih _ φ1 _ _ _ _ h2 r2 (c.right k1 q rfl) q1
        refine ⟨φ2, k1.trans k2 (by simp +contextual) (by simp +contextual), ?_, q2⟩
        simp only [RepL]
        exact ⟨m, ms', rfl, mono_same (k2.some q1) p1, p2⟩
    have cel : ∀ (ts vs : List V) (φ : Phi) (β o : Nat) (L : List Nat) (s s1 : S), takeL (takeIn d) ts s = some (vs, s1) → RepTC St w β o ts L → Can φ St Mine s L → WR φ St Mine w s.H s.nx →
        ∃ φ', Tk φ φ' s s1 L ∧ RepC φ' St w β o vs ∧ WR φ' St Mine w s1.H s1.nx := by
      intro ts
      induction ts with
      | nil =>
        intro vs φ β o L s s1 h r c q
        simp only [takeL, Option.some.injEq, Prod.mk.injEq] at h
        obtain ⟨rfl, rfl⟩ := h
        exact ⟨φ, Tk.refl q rfl _, trivial, q⟩
      | cons t ts ih =>
        intro vs φ β o L s s2 h r c q
        obtain ⟨v, vs', s1, h1, h2, rfl⟩ := takeL_cons h
        simp only [RepTC] at r
        obtain ⟨L1, L2, rfl, ⟨u, hu, r1⟩, r2⟩ := r
        obtain ⟨φ1, k1, p1, q1⟩ := ihV φ _ _ _ _ _ _ h1 r1 c.left q
        obtain ⟨φ2, k2, p2, q2⟩ := ih _ φ1 _ _ _ _ _ h2 r2 (c.right k1 q rfl) q1
        exact ⟨φ2, k1.trans k2 (by simp +contextual) (by simp +contextual), ⟨⟨u, hu, mono_same (k2.some q1) p1⟩, p2⟩, q2⟩
    have els : ∀ (ts vs : List V) (φ : Phi) (β o k : Nat) (L : List Nat) (s s1 : S), takeL (takeIn d) ts s = some (vs, s1) → (∀ e ∈ ts, e.size = k) → RepTE St w β o ts L → Can φ St Mine s L → WR φ St Mine w s.H s.nx →
        ∃ φ', Tk φ φ' s s1 L ∧ RepE φ' St w β o k vs ∧ WR φ' St Mine w s1.H s1.nx ∧ ∀ e ∈ vs, e.size = k := by
      intro ts
      induction ts with
      | nil =>
        intro vs φ β o k L s s1 h _ r c q
        simp only [takeL, Option.some.injEq, Prod.mk.injEq] at h
        obtain ⟨rfl, rfl⟩ := h
        exact ⟨φ, Tk.refl q rfl _, fun i e hi => (by simp at hi), q, by simp⟩
      | cons t ts ih =>
        intro vs φ β o k L s s2 h hk r c q
        obtain ⟨v, vs', s1, h1, h2, rfl⟩ := takeL_cons h
        rw [RepTE_cons] at r
        obtain ⟨L1, L2, rfl, r1, r2⟩ := r
        obtain ⟨φ1, k1, p1, q1⟩ := ihA φ _ _ _ _ _ _ _ h1 r1 c.left q
        have ht : t.size = k := hk t (by simp)
        rw [ht] at r2
        obtain ⟨φ2, k2, p2, q2, z2⟩ := ih _ φ1 _ _ k _ _ _ h2 (fun e he => hk e (by simp [he])) r2 (c.right k1 q rfl) q1
        refine ⟨φ2, k1.trans k2 (by simp +contextual) (by simp +contextual), fun i e hi => ?_, q2, fun e he => ?_⟩
        · cases i with
          | zero =>
            obtain rfl : v = e := by simpa using hi
            simpa using monoC_same (k2.some q1) p1
          | succ i =>
            have := p2 i e (by simpa using hi)
            rwa [show o + k + i * k = o + (i + 1) * k by rw [Nat.succ_mul]; omega] at this
        · rcases List.mem_cons.1 he with rfl | he
          · rw [take_size h1, ht]
          · exact z2 e he
    have val : ∀ (φ : Phi) (t v : V) (m : Value) (L : List Nat) (s s1 : S), takeIn (d + 1) t s = some (v, s1) → RepT St w t m L → Can φ St Mine s L → WR φ St Mine w s.H s.nx →
        ∃ φ', Tk φ φ' s s1 L ∧ Rep φ' St w v m ∧ WR φ' St Mine w s1.H s1.nx := by
      intro φ t v m L s s1 h r c q
      cases t <;> simp only [takeIn] at h
      case im x => obtain ⟨rfl, rfl⟩ := Prod.mk.inj (Option.some.inj h); simp only [RepT] at r; exact ⟨φ, Tk.refl q rfl _, by simpa [Rep] using r.1, q⟩
      case sl x => obtain ⟨rfl, rfl⟩ := Prod.mk.inj (Option.some.inj h); simp only [RepT] at r; exact ⟨φ, Tk.refl q rfl _, by simpa only [Rep] using r.1, q⟩
      case rp x => obtain ⟨rfl, rfl⟩ := Prod.mk.inj (Option.some.inj h); simp only [RepT] at r; exact ⟨φ, Tk.refl q rfl _, by simpa only [Rep] using r.1, q⟩
      case e0 => obtain ⟨rfl, rfl⟩ := Prod.mk.inj (Option.some.inj h); simp only [RepT] at r; exact ⟨φ, Tk.refl q rfl _, by simpa only [Rep] using r.1, q⟩
      case st cs =>
        split at h
        case h_2 => cases h
        rename_i vs s2 hts
        obtain ⟨rfl, rfl⟩ := Prod.mk.inj (Option.some.inj h)
        simp only [RepT] at r
        obtain ⟨ms, e, r⟩ := r
        obtain ⟨φ1, k1, p1, q1⟩ := lst _ _ φ _ _ _ _ hts r c q
        exact ⟨φ1, k1, by simp only [Rep]; exact ⟨ms, e, p1⟩, q1⟩
      case tu cs =>
        split at h
        case h_2 => cases h
        rename_i vs s2 hts
        obtain ⟨rfl, rfl⟩ := Prod.mk.inj (Option.some.inj h)
        simp only [RepT] at r
        obtain ⟨ms, e, r⟩ := r
        obtain ⟨φ1, k1, p1, q1⟩ := lst _ _ φ _ _ _ _ hts r c q
        exact ⟨φ1, k1, by simp only [Rep]; exact ⟨ms, e, p1⟩, q1⟩
      case cl f cs =>
        split at h
        case h_2 => cases h
        rename_i vs s2 hts
        obtain ⟨rfl, rfl⟩ := Prod.mk.inj (Option.some.inj h)
        simp only [RepT] at r
        obtain ⟨ms, e, r⟩ := r
        obtain ⟨φ1, k1, p1, q1⟩ := lst _ _ φ _ _ _ _ hts r c q
        exact ⟨φ1, k1, by simp only [Rep]; exact ⟨ms, e, p1⟩, q1⟩
      case ow k es =>
        split at h
        case h_2 => cases h
        rename_i vs s2 hts
        obtain ⟨rfl, rfl⟩ := Prod.mk.inj (Option.some.inj h)
        have hvl := takeL_len hts
        simp only [RepT] at r
        obtain ⟨a, c', e, hle, r⟩ := r
        rcases r with ⟨hc0, _⟩ | ⟨β, o, L', rfl, rfl, ho, hk, r⟩
        · have hes : es = [] := List.eq_nil_of_length_eq_zero (by omega)
          subst hes
          simp only [takeL, Option.some.injEq, Prod.mk.injEq] at hts
          obtain ⟨rfl, rfl⟩ := hts
          have hd := q.dom s.nx (Nat.le_refl _)
          refine ⟨φ, ⟨Ext.refl _ _, rfl, by simp [S.new], fun b hb => upd_ne _ _ (by omega), fun b B β o k' hb hB hp => ?_, rfl, fun b B hb hB => ?_⟩, ?_, q.empty⟩
          · rw [q.dom b hb] at hp; cases hp
          · simp only [S.new] at hB
            by_cases e : b = s.nx
            · subst e; rw [upd_same] at hB; obtain rfl := Option.some.inj hB; rfl
            · rw [upd_ne _ _ e, q.bnd b hb] at hB; cases hB
          · simp only [Rep]
            exact ⟨a, c', by rw [e], by simp, by omega, .inl hc0⟩
        · have c1 : Can φ St Mine s L' := ⟨(List.nodup_cons.1 c.nd).2, fun β hb => c.ns β (by simp [hb]), fun β hb => c.mi β (by simp [hb]), fun b B β o k h1 h2 h3 => c.fr b B β o k h1 h2 (by simp [h3])⟩
          obtain ⟨φ1, k1, p1, q1, z1⟩ := els _ _ φ _ _ k _ _ _ hts hk r c1 q
          have hlen : o + vs.length * k ≤ o + c' * k := Nat.add_le_add_left (Nat.mul_le_mul_right _ (by omega)) _
          have q2 := q1.adopt (β := β) (o := o) (k := k) (es := vs) (fun b B o' k' hB hp => by
            by_cases hlt : b < s.nx
            · rw [k1.old b hlt] at hB
              rw [k1.ext b hlt] at hp
              exact c.fr b B β o' k' hB hp (by simp)
            · exact (List.nodup_cons.1 c.nd).1 (k1.new b B β o' k' (by omega) hB hp)) (c.ns β (by simp)) (c.mi β (by simp)) (ho.mono hlen) z1 p1
          have ex : Ext φ1 (upd φ1 s2.nx (some (β, o, k))) s2.nx := ext_upd _
          refine ⟨_, ⟨k1.ext.trans ex k1.nx, k1.e, by have := k1.nx; simp [S.new]; omega, fun b hb => ?_, fun b B β' o' k' hb hB hp => ?_, k1.fz, fun b B hb hB => ?_⟩, ?_, q2⟩
          · have := k1.nx
            simp only [S.new]
            rw [upd_ne _ _ (by omega)]; exact k1.old b hb
          · simp only [S.new] at hB
            by_cases e : b = s2.nx
            · subst e; rw [upd_same] at hp; cases hp; simp
            · rw [upd_ne _ _ e] at hB hp
              exact List.mem_cons_of_mem _ (k1.new b B β' o' k' hb hB hp)
          · simp only [S.new] at hB
            by_cases e : b = s2.nx
            · subst e; rw [upd_same] at hB; obtain rfl := Option.some.inj hB; rfl
            · rw [upd_ne _ _ e] at hB; exact k1.fr b B hb hB
          · simp only [Rep]
            refine ⟨some ⟨β, o, none⟩, c', by rw [e, hvl], by omega, by omega, .inr ⟨β, o, k, upd_same _ _ _, by simp, ?_⟩⟩
            simpa using ho.room
      case op v0 =>
        split at h
        case h_2 => cases h
        rename_i v1 s2 hv
        obtain ⟨rfl, rfl⟩ := Prod.mk.inj (Option.some.inj h)
        rw [RepT_op] at r
        obtain ⟨β, o, L', e, rfl, ho, r⟩ := r
        have c1 : Can φ St Mine s L' := ⟨(List.nodup_cons.1 c.nd).2, fun β hb => c.ns β (by simp [hb]), fun β hb => c.mi β (by simp [hb]), fun b B β o k h1 h2 h3 => c.fr b B β o k h1 h2 (by simp [h3])⟩
        obtain ⟨φ1, k1, p1, q1⟩ := ihA φ _ _ _ _ _ _ _ hv r c1 q
        have hsz := take_size hv
        have q2 := q1.adopt (β := β) (o := o) (k := v1.size) (es := [v1]) (fun b B o' k' hB hp => by
          by_cases hlt : b < s.nx
          · rw [k1.old b hlt] at hB
            rw [k1.ext b hlt] at hp
            exact c.fr b B β o' k' hB hp (by simp)
          · exact (List.nodup_cons.1 c.nd).1 (k1.new b B β o' k' (by omega) hB hp)) (c.ns β (by simp)) (c.mi β (by simp)) (ho.mono (by simp [hsz])) (by simp) (fun i x hi => by
            cases i with
            | zero => obtain rfl : v1 = x := by simpa using hi
                      simpa using p1
            | succ i => simp at hi)
        have ex : Ext φ1 (upd φ1 s2.nx (some (β, o, v1.size))) s2.nx := ext_upd _
        refine ⟨_, ⟨k1.ext.trans ex k1.nx, k1.e, by have := k1.nx; simp [S.new]; omega, fun b hb => ?_, fun b B β' o' k' hb hB hp => ?_, k1.fz, fun b B hb hB => ?_⟩, ?_, q2⟩
        · have := k1.nx
          simp only [S.new]
          rw [upd_ne _ _ (by omega)]; exact k1.old b hb
        · simp only [S.new] at hB
          by_cases e : b = s2.nx
          · subst e; rw [upd_same] at hp; cases hp; simp
          · rw [upd_ne _ _ e] at hB hp
            exact List.mem_cons_of_mem _ (k1.new b B β' o' k' hb hB hp)
        · simp only [S.new] at hB
          by_cases e : b = s2.nx
          · subst e; rw [upd_same] at hB; obtain rfl := Option.some.inj hB; rfl
          · rw [upd_ne _ _ e] at hB; exact k1.fr b B hb hB
        · simp only [Rep]
          exact ⟨β, o, v1.size, upd_same _ _ _, by rw [e]; simp⟩
      all_goals cases h
    refine ⟨val, fun φ t v β o L s s1 h r c q => ?_⟩
    rcases take_shape h with ⟨cs, vs, d', hd, rfl, rfl, h2⟩ | ⟨h1, h2⟩
    · obtain rfl : d = d' := by omega
      simp only [cellsOf] at r ⊢
      exact cel _ _ φ _ _ _ _ _ h2 r c q
    · rw [h1] at r; rw [h2]
      simp only [RepTC] at r
      obtain ⟨L1, L2, rfl, ⟨u, hu, hr⟩, rfl⟩ := r
      rw [List.append_nil] at c ⊢
      obtain ⟨φ1, k1, p1, q1⟩ := val φ t v u L1 s s1 h hr c q
      exact ⟨φ1, k1, ⟨⟨u, hu, p1⟩, trivial⟩, q1⟩

end Go.Am
