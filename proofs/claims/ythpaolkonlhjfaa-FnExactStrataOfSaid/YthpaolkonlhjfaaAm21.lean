/- The A-machine, part 21: the evaluation without fuel. -/
import Derived.Test.YthpaolkonlhjfaaAm20
set_option linter.all false
namespace Go.Am

/-- What e1 says, e2 says. -/
def Le (e1 e2 : C → S → Option R) : Prop := ∀ c s r, e1 c s = some r → e2 c s = some r

theorem isoCall_one {Γ : Env} {e : C → S → Option R} {f : Nat} {ms : List M} {args : List V} {x : V × List V} (h : isoCall Γ e f ms args = some x) :
    ∃ q : Option (C × S × R), (∀ c s r, q = some (c, s, r) → e c s = some r) ∧ ∀ e' : C → S → Option R, (∀ c s r, q = some (c, s, r) → e' c s = some r) → isoCall Γ e' f ms args = some x := by
  unfold isoCall at h ⊢
  cases hpr : Γ.pr f with
  | some p =>
    rw [hpr] at h
    exact ⟨none, fun _ _ _ hh => by simp at hh, fun e' _ => h⟩
  | none =>
    rw [hpr] at h
    simp only at h ⊢
    cases hT : Γ.T f with
    | none => rw [hT] at h; cases h
    | some F =>
      rw [hT] at h
      simp only at h ⊢
      split at h
      case isFalse => cases h
      rename_i hl
      cases ht : takeL (takeIn DEP) args { e := fun _ => .un, H := fun _ => none, nx := 0 } with
      | none => rw [ht] at h; cases h
      | some y =>
        obtain ⟨vals, s0⟩ := y
        rw [ht] at h
        simp only at h
        cases hq : e F.body { e := envOf vals, H := s0.H, nx := s0.nx } with
        | none => rw [hq] at h; cases h
        | some r =>
          refine ⟨some (F.body, { e := envOf vals, H := s0.H, nx := s0.nx }, r), fun c s r' hh => ?_, fun e' he' => ?_⟩
          · cases hh; exact hq
          · rw [if_pos hl]
            simp only
            rw [he' _ _ _ rfl]
            rw [hq] at h
            exact h

theorem callV_one {Γ : Env} {e : C → S → Option R} {fv : V} {args : List V} {s : S} {x : V × S} (h : callV Γ e fv args s = some x) :
    ∃ q : Option (C × S × R), (∀ c s r, q = some (c, s, r) → e c s = some r) ∧ ∀ e' : C → S → Option R, (∀ c s r, q = some (c, s, r) → e' c s = some r) → callV Γ e' fv args s = some x := by
  rw [callV_eq] at h
  simp only [callV_eq]
  cases hf : fnOf fv with
  | none => rw [hf] at h; cases h
  | some y =>
    obtain ⟨f, caps⟩ := y
    rw [hf] at h
    simp only at h ⊢
    cases hm : Γ.md f with
    | none =>
      rw [hm] at h
      simp only at h ⊢
      cases hT : Γ.T f with
      | none => rw [hT] at h; cases h
      | some F =>
        rw [hT] at h
        simp only at h ⊢
        split at h
        case isFalse => cases h
        rename_i hl
        cases hq : e F.body { s with e := envOf (args ++ caps) } with
        | none => rw [hq] at h; cases h
        | some r =>
          refine ⟨some (F.body, { s with e := envOf (args ++ caps) }, r), fun c s r' hh => ?_, fun e' he' => ?_⟩
          · cases hh; exact hq
          · rw [if_pos hl]
            rw [he' _ _ _ rfl]
            rw [hq] at h
            exact h
    | some ms =>
      rw [hm] at h
      simp only at h ⊢
      cases hh : handL s.H ms (args ++ caps) with
      | none => rw [hh] at h; cases h
      | some y =>
        obtain ⟨ts, rs, os⟩ := y
        rw [hh] at h
        simp only at h ⊢
        split at h
        case isFalse => cases h
        rename_i hc
        cases hi : isoCall Γ e f ms ts with
        | none => rw [hi] at h; cases h
        | some z =>
          obtain ⟨q, h1, h2⟩ := isoCall_one hi
          refine ⟨q, h1, fun e' he' => ?_⟩
          rw [if_pos hc, h2 e' he']
          rw [hi] at h
          exact h

theorem callV_le {Γ : Env} {e1 e2 : C → S → Option R} (h : Le e1 e2) {fv : V} {args : List V} {s : S} {x : V × S} (hx : callV Γ e1 fv args s = some x) : callV Γ e2 fv args s = some x := by
  obtain ⟨q, h1, h2⟩ := callV_one hx
  exact h2 e2 fun c s r hq => h _ _ _ (h1 c s r hq)

theorem opA_le {Γ : Env} {e1 e2 : C → S → Option R} (h : Le e1 e2) {s : S} {a : A} {x : V × S} (hx : opA (callV Γ e1) s a = some x) : opA (callV Γ e2) s a = some x := by
  by_cases hca : ∃ f xs, a = .ca f xs
  · obtain ⟨f, xs, rfl⟩ := hca
    exact callV_le h hx
  · rw [opA_noca (ca' := callV Γ e1)]
    · exact hx
    · exact fun f xs hh => hca ⟨f, xs, hh⟩

theorem runI_le {Γ : Env} {e1 e2 : C → S → Option R} (h : Le e1 e2) : ∀ {l : List I} {s s' : S}, runI (callV Γ e1) l s = some s' → runI (callV Γ e2) l s = some s'
  | [], s, s', hx => hx
  | i :: l, s, s', hx => by
    rw [runI_cons] at hx ⊢
    split at hx
    · rename_i hg
      try rw [hg]
      try simp only
      split at hx
      · rename_i v s1 hv
        rw [opA_le h hv]
        exact runI_le h hx
      · cases hx
    · rename_i hg
      try rw [hg]
      exact runI_le h hx
    · cases hx

section
variable (Γ : Env) (k : Nat)
theorem ex_rg (l : List I) (s : S) : ex Γ (k + 1) (.rg l) s = match runI (callV Γ (ex Γ k)) l s with | some s1 => some (.n s1) | none => none := rfl
theorem ex_seq (a b : C) (s : S) : ex Γ (k + 1) (.seq a b) s = match ex Γ k a s with | some (.n s1) => ex Γ k b s1 | r => r := rfl
theorem ex_cond (o : O) (a b : C) (s : S) : ex Γ (k + 1) (.cond o a b) s = match val s.e o with | .im (.bool true) => ex Γ k a s | .im (.bool false) => ex Γ k b s | _ => none := rfl
theorem ex_blk (id : Nat) (a : C) (s : S) : ex Γ (k + 1) (.blk id a) s = match ex Γ k a s with | some (.x j s1) => if j = id then some (.n s1) else some (.x j s1) | r => r := rfl
theorem ex_lp (a : C) (s : S) : ex Γ (k + 1) (.lp a) s = match ex Γ k a s with | some (.n s1) => ex Γ k (.lp a) s1 | r => r := rfl
end

theorem ex_le_succ (Γ : Env) : ∀ k, Le (ex Γ k) (ex Γ (k + 1))
  | 0 => fun c s r h => by simp [ex] at h
  | k + 1 => by
    have ih := ex_le_succ Γ k
    intro c s r h
    cases c with
    | skip => exact h
    | rg l =>
      rw [ex_rg] at h ⊢
      split at h
      · rename_i s1 h1; rw [runI_le ih h1]; exact h
      · cases h
    | seq a b =>
      rw [ex_seq] at h ⊢
      cases ha : ex Γ k a s with
      | none => rw [ha] at h; cases h
      | some r1 =>
        rw [ha] at h
        rw [ih _ _ _ ha]
        cases r1 with
        | n s1 => exact ih _ _ _ h
        | x j s1 => exact h
        | r s1 => exact h
    | cond o a b =>
      rw [ex_cond] at h ⊢
      split at h
      · rename_i hv; try rw [hv]
        exact ih _ _ _ h
      · rename_i hv; try rw [hv]
        exact ih _ _ _ h
      · cases h
    | blk id a =>
      rw [ex_blk] at h ⊢
      cases ha : ex Γ k a s with
      | none => rw [ha] at h; cases h
      | some r1 =>
        rw [ha] at h
        rw [ih _ _ _ ha]
        exact h
    | lp a =>
      rw [ex_lp] at h ⊢
      cases ha : ex Γ k a s with
      | none => rw [ha] at h; cases h
      | some r1 =>
        rw [ha] at h
        rw [ih _ _ _ ha]
        cases r1 with
        | n s1 => exact ih _ _ _ h
        | x j s1 => exact h
        | r s1 => exact h
    | ex id => exact h
    | ret => exact h
    | no => simp [ex] at h

theorem ex_le (Γ : Env) {k n : Nat} (h : k ≤ n) : Le (ex Γ k) (ex Γ n) := by
  induction h with
  | refl => exact fun _ _ _ h => h
  | step _ ih => exact fun c s r hr => ex_le_succ Γ _ _ _ _ (ih c s r hr)

open Classical in
/-- The evaluation, with as much fuel as it takes. -/
noncomputable def EX (Γ : Env) (c : C) (s : S) : Option R := if h : ∃ k r, ex Γ k c s = some r then some (Classical.choose (Classical.choose_spec h)) else none

theorem EX_iff {Γ : Env} {c : C} {s : S} {r : R} : EX Γ c s = some r ↔ ∃ k, ex Γ k c s = some r := by
  classical
  unfold EX
  constructor
  · intro h
    split at h
    · rename_i hh
      refine ⟨Classical.choose hh, ?_⟩
      rw [← Option.some.inj h]
      exact Classical.choose_spec (Classical.choose_spec hh)
    · cases h
  · rintro ⟨k, hk⟩
    have hh : ∃ k r, ex Γ k c s = some r := ⟨k, r, hk⟩
    rw [dif_pos hh]
    have h1 := Classical.choose_spec (Classical.choose_spec hh)
    have h2 := ex_le Γ (Nat.le_max_left k (Classical.choose hh)) _ _ _ hk
    have h3 := ex_le Γ (Nat.le_max_right k (Classical.choose hh)) _ _ _ h1
    rw [h2] at h3
    exact h3.symm

theorem le_EX (Γ : Env) (k : Nat) : Le (ex Γ k) (EX Γ) := fun _ _ _ h => EX_iff.2 ⟨k, h⟩

theorem callV_fin {Γ : Env} {fv : V} {args : List V} {s : S} {x : V × S} (h : callV Γ (EX Γ) fv args s = some x) : ∃ k, callV Γ (ex Γ k) fv args s = some x := by
  obtain ⟨q, h1, h2⟩ := callV_one h
  cases q with
  | none => exact ⟨0, h2 _ fun _ _ _ hh => by simp at hh⟩
  | some y =>
    obtain ⟨c, s0, r⟩ := y
    obtain ⟨k, hk⟩ := EX_iff.1 (h1 c s0 r rfl)
    refine ⟨k, h2 _ fun c' s' r' hh => ?_⟩
    cases hh; exact hk

theorem isoCall_fin {Γ : Env} {f : Nat} {ms : List M} {args : List V} {x : V × List V} (h : isoCall Γ (EX Γ) f ms args = some x) : ∃ k, isoCall Γ (ex Γ k) f ms args = some x := by
  obtain ⟨q, h1, h2⟩ := isoCall_one h
  cases q with
  | none => exact ⟨0, h2 _ fun _ _ _ hh => by simp at hh⟩
  | some y =>
    obtain ⟨c, s0, r⟩ := y
    obtain ⟨k, hk⟩ := EX_iff.1 (h1 c s0 r rfl)
    refine ⟨k, h2 _ fun c' s' r' hh => ?_⟩
    cases hh; exact hk

theorem runI_fin {Γ : Env} : ∀ {l : List I} {s s' : S}, runI (callV Γ (EX Γ)) l s = some s' → ∃ k, runI (callV Γ (ex Γ k)) l s = some s'
  | [], s, s', h => ⟨0, h⟩
  | i :: l, s, s', h => by
    obtain ⟨s1, hx, h⟩ := runI_step h
    obtain ⟨k2, h2⟩ := runI_fin h
    rcases hx with ⟨hg, v, s2, hv, rfl⟩ | ⟨hg, rfl⟩
    · have : ∃ k1, opA (callV Γ (ex Γ k1)) s i.a = some (v, s2) := by
        by_cases hca : ∃ f xs, i.a = .ca f xs
        · obtain ⟨f, xs, e⟩ := hca
          rw [e] at hv ⊢
          exact callV_fin hv
        · refine ⟨0, ?_⟩
          rw [opA_noca (ca' := callV Γ (EX Γ))]
          · exact hv
          · exact fun f xs hh => hca ⟨f, xs, hh⟩
      obtain ⟨k1, h1⟩ := this
      refine ⟨max k1 k2, ?_⟩
      rw [runI_cons, hg]
      simp only
      rw [opA_le (ex_le Γ (Nat.le_max_left _ _)) h1]
      exact runI_le (ex_le Γ (Nat.le_max_right _ _)) h2
    · refine ⟨k2, ?_⟩
      rw [runI_cons, hg]
      exact h2

theorem opt_ext {α : Type} {x y : Option α} (h1 : ∀ r, x = some r → y = some r) (h2 : ∀ r, y = some r → x = some r) : x = y := by
  cases x with
  | some r => exact (h1 r rfl).symm
  | none =>
    cases y with
    | none => rfl
    | some r => exact h2 r rfl

/-! The equations. -/
theorem EX_skip (Γ : Env) (s : S) : EX Γ .skip s = some (.n s) := EX_iff.2 ⟨1, rfl⟩
theorem EX_ret (Γ : Env) (s : S) : EX Γ .ret s = some (.r s) := EX_iff.2 ⟨1, rfl⟩
theorem EX_ex (Γ : Env) (id : Nat) (s : S) : EX Γ (.ex id) s = some (.x id s) := EX_iff.2 ⟨1, rfl⟩
theorem EX_rg (Γ : Env) (l : List I) (s : S) : EX Γ (.rg l) s = (runI (callV Γ (EX Γ)) l s).map .n := by
  refine opt_ext (fun r h => ?_) fun r h => ?_
  · obtain ⟨k, hk⟩ := EX_iff.1 h
    cases k with
    | zero => simp [ex] at hk
    | succ k =>
      simp only [ex] at hk
      split at hk
      · rename_i s1 h1
        rw [runI_le (le_EX Γ k) h1]; exact hk
      · cases hk
  · obtain ⟨s1, h1, rfl⟩ := Option.map_eq_some_iff.1 h
    obtain ⟨k, hk⟩ := runI_fin h1
    exact EX_iff.2 ⟨k + 1, by simp only [ex]; rw [hk]⟩
theorem EX_seq (Γ : Env) (a b : C) (s : S) : EX Γ (.seq a b) s = match EX Γ a s with | some (.n s1) => EX Γ b s1 | r => r := by
  refine opt_ext (fun r h => ?_) fun r h => ?_
  · obtain ⟨k, hk⟩ := EX_iff.1 h
    cases k with
    | zero => simp [ex] at hk
    | succ k =>
      simp only [ex] at hk
      cases ha : ex Γ k a s with
      | none => rw [ha] at hk; cases hk
      | some r1 =>
        rw [ha] at hk
        rw [le_EX Γ k _ _ _ ha]
        cases r1 with
        | n s1 => exact le_EX Γ k _ _ _ hk
        | x j s1 => exact hk
        | r s1 => exact hk
  · cases ha : EX Γ a s with
    | none => rw [ha] at h; cases h
    | some r1 =>
      rw [ha] at h
      obtain ⟨k1, h1⟩ := EX_iff.1 ha
      cases r1 with
      | n s1 =>
        obtain ⟨k2, h2⟩ := EX_iff.1 h
        refine EX_iff.2 ⟨max k1 k2 + 1, ?_⟩
        simp only [ex]
        rw [ex_le Γ (Nat.le_max_left _ _) _ _ _ h1]
        exact ex_le Γ (Nat.le_max_right _ _) _ _ _ h2
      | x j s1 => refine EX_iff.2 ⟨k1 + 1, ?_⟩; simp only [ex]; rw [h1]; exact h
      | r s1 => refine EX_iff.2 ⟨k1 + 1, ?_⟩; simp only [ex]; rw [h1]; exact h
theorem EX_cond (Γ : Env) (o : O) (a b : C) (s : S) : EX Γ (.cond o a b) s = match val s.e o with | .im (.bool true) => EX Γ a s | .im (.bool false) => EX Γ b s | _ => none := by
  refine opt_ext (fun r h => ?_) fun r h => ?_
  · obtain ⟨k, hk⟩ := EX_iff.1 h
    cases k with
    | zero => simp [ex] at hk
    | succ k =>
      simp only [ex] at hk
      split at hk
      · rename_i hv; try rw [hv]
        exact le_EX Γ k _ _ _ hk
      · rename_i hv; try rw [hv]
        exact le_EX Γ k _ _ _ hk
      · cases hk
  · split at h
    · rename_i hv
      obtain ⟨k, hk⟩ := EX_iff.1 h
      exact EX_iff.2 ⟨k + 1, by simp only [ex]; rw [hv]; exact hk⟩
    · rename_i hv
      obtain ⟨k, hk⟩ := EX_iff.1 h
      exact EX_iff.2 ⟨k + 1, by simp only [ex]; rw [hv]; exact hk⟩
    · cases h
theorem EX_blk (Γ : Env) (id : Nat) (a : C) (s : S) : EX Γ (.blk id a) s = match EX Γ a s with | some (.x j s1) => if j = id then some (.n s1) else some (.x j s1) | r => r := by
  refine opt_ext (fun r h => ?_) fun r h => ?_
  · obtain ⟨k, hk⟩ := EX_iff.1 h
    cases k with
    | zero => simp [ex] at hk
    | succ k =>
      simp only [ex] at hk
      cases ha : ex Γ k a s with
      | none => rw [ha] at hk; cases hk
      | some r1 => rw [ha] at hk; rw [le_EX Γ k _ _ _ ha]; exact hk
  · cases ha : EX Γ a s with
    | none => rw [ha] at h; cases h
    | some r1 =>
      rw [ha] at h
      obtain ⟨k1, h1⟩ := EX_iff.1 ha
      exact EX_iff.2 ⟨k1 + 1, by simp only [ex]; rw [h1]; exact h⟩
theorem EX_lp (Γ : Env) (a : C) (s : S) : EX Γ (.lp a) s = match EX Γ a s with | some (.n s1) => EX Γ (.lp a) s1 | r => r := by
  refine opt_ext (fun r h => ?_) fun r h => ?_
  · obtain ⟨k, hk⟩ := EX_iff.1 h
    cases k with
    | zero => simp [ex] at hk
    | succ k =>
      simp only [ex] at hk
      cases ha : ex Γ k a s with
      | none => rw [ha] at hk; cases hk
      | some r1 =>
        rw [ha] at hk
        rw [le_EX Γ k _ _ _ ha]
        cases r1 with
        | n s1 => exact le_EX Γ k _ _ _ hk
        | x j s1 => exact hk
        | r s1 => exact hk
  · cases ha : EX Γ a s with
    | none => rw [ha] at h; cases h
    | some r1 =>
      rw [ha] at h
      obtain ⟨k1, h1⟩ := EX_iff.1 ha
      cases r1 with
      | n s1 =>
        obtain ⟨k2, h2⟩ := EX_iff.1 h
        refine EX_iff.2 ⟨max k1 k2 + 1, ?_⟩
        simp only [ex]
        rw [ex_le Γ (Nat.le_max_left _ _) _ _ _ h1]
        exact ex_le Γ (Nat.le_max_right _ _) _ _ _ h2
      | x j s1 => refine EX_iff.2 ⟨k1 + 1, ?_⟩; simp only [ex]; rw [h1]; exact h
      | r s1 => refine EX_iff.2 ⟨k1 + 1, ?_⟩; simp only [ex]; rw [h1]; exact h

noncomputable abbrev CV (Γ : Env) := callV Γ (EX Γ)
/-- The call of a function on trees. -/
noncomputable def CALL (Γ : Env) (f : Nat) (ms : List M) (args : List V) : Option (V × List V) := isoCall Γ (EX Γ) f ms args

theorem CALL_ok {P : Program} {Γ : Env} (hΓ : EnvOK P Γ) {f : Nat} {ms : List M} (hmd : Γ.md f = some ms) {args : List V} {res : V} {us : List V} (h : CALL Γ f ms args = some (res, us)) : IsoOK P f ms args res us := by
  obtain ⟨k, hk⟩ := isoCall_fin h
  exact iso_ok hΓ hmd hk

end Go.Am
