/- The B-machine, part 12: the evaluation without fuel. -/
import Derived.Test.YthpaolkonlhjfaaAm32
set_option linter.all false
namespace Go.Am

/-- What e1 says, e2 says. -/
def LeB (e1 e2 : CB → S → Option R) : Prop := ∀ c s r, e1 c s = some r → e2 c s = some r

theorem isoB_one {Γ : Env} {T : Nat → Option FB} {e : CB → S → Option R} {f : Nat} {ms : List M} {args : List V} {x : V × List V} (h : isoB Γ T e f ms args = some x) :
    ∃ q : Option (CB × S × R), (∀ c s r, q = some (c, s, r) → e c s = some r) ∧ ∀ e' : CB → S → Option R, (∀ c s r, q = some (c, s, r) → e' c s = some r) → isoB Γ T e' f ms args = some x := by
  unfold isoB at h ⊢
  cases hpr : Γ.pr f with
  | some p =>
    rw [hpr] at h
    exact ⟨none, fun _ _ _ hh => by simp at hh, fun e' _ => h⟩
  | none =>
    rw [hpr] at h
    simp only at h ⊢
    cases hT : T f with
    | none => rw [hT] at h; cases h
    | some F =>
      rw [hT] at h
      simp only at h ⊢
      split at h
      case isFalse => cases h
      rename_i hl
      cases ht : takeL (takeB DEP) args { e := fun _ => .un, H := fun _ => none, nx := 0 } with
      | none => rw [ht] at h; cases h
      | some y =>
        obtain ⟨vals, s0⟩ := y
        rw [ht] at h
        simp only at h
        cases hq : e F.body { e := envOf vals, H := s0.H, nx := s0.nx } with
        | none => rw [hq] at h; cases h
        | some r =>
          refine ⟨some (F.body, { e := envOf vals, H := s0.H, nx := s0.nx }, r), fun c s r' hh => ?_, fun e' he' => ?_⟩
          · cases hh; exact hq
          · rw [if_pos hl]
            simp only
            rw [he' _ _ _ rfl]
            rw [hq] at h
            exact h

theorem callB_one {Γ : Env} {T : Nat → Option FB} {e : CB → S → Option R} {fv : V} {args : List V} {s : S} {x : V × S} (h : callB Γ T e fv args s = some x) :
    ∃ q : Option (CB × S × R), (∀ c s r, q = some (c, s, r) → e c s = some r) ∧ ∀ e' : CB → S → Option R, (∀ c s r, q = some (c, s, r) → e' c s = some r) → callB Γ T e' fv args s = some x := by
  unfold callB at h ⊢
  cases hf : fnOf fv with
  | none => rw [hf] at h; cases h
  | some y =>
    obtain ⟨f, caps⟩ := y
    rw [hf] at h
    simp only at h ⊢
    cases hm : Γ.md f with
    | none =>
      rw [hm] at h
      simp only at h ⊢
      cases hT : T f with
      | none => rw [hT] at h; cases h
      | some F =>
        rw [hT] at h
        simp only at h ⊢
        split at h
        case isFalse => cases h
        rename_i hl
        cases hq : e F.body { s with e := envOf (args ++ caps) } with
        | none => rw [hq] at h; cases h
        | some r =>
          refine ⟨some (F.body, { s with e := envOf (args ++ caps) }, r), fun c s r' hh => ?_, fun e' he' => ?_⟩
          · cases hh; exact hq
          · rw [if_pos hl]
            rw [he' _ _ _ rfl]
            rw [hq] at h
            exact h
    | some ms =>
      rw [hm] at h
      simp only at h ⊢
      cases hh : handB s.H ms (args ++ caps) with
      | none => rw [hh] at h; cases h
      | some y =>
        obtain ⟨ts, rs, os⟩ := y
        rw [hh] at h
        simp only at h ⊢
        split at h
        case isFalse => cases h
        rename_i hc
        cases hi : isoB Γ T e f ms ts with
        | none => rw [hi] at h; cases h
        | some z =>
          obtain ⟨q, h1, h2⟩ := isoB_one hi
          refine ⟨q, h1, fun e' he' => ?_⟩
          rw [if_pos hc, h2 e' he']
          rw [hi] at h
          exact h

theorem callB_le {Γ : Env} {T : Nat → Option FB} {e1 e2 : CB → S → Option R} (h : LeB e1 e2) {fv : V} {args : List V} {s : S} {x : V × S} (hx : callB Γ T e1 fv args s = some x) : callB Γ T e2 fv args s = some x := by
  obtain ⟨q, h1, h2⟩ := callB_one hx
  exact h2 e2 fun c s r hq => h _ _ _ (h1 c s r hq)

theorem opB_noca {ca ca' : V → List V → S → Option (V × S)} {s : S} {a : A} (h : ∀ f xs, a ≠ .ca f xs) : opB ca s a = opB ca' s a := by
  cases a <;> first | rfl | exact absurd rfl (h _ _)

theorem opB_le {Γ : Env} {T : Nat → Option FB} {e1 e2 : CB → S → Option R} (h : LeB e1 e2) {s : S} {a : A} {x : V × S} (hx : opB (callB Γ T e1) s a = some x) : opB (callB Γ T e2) s a = some x := by
  by_cases hca : ∃ f xs, a = .ca f xs
  · obtain ⟨f, xs, rfl⟩ := hca
    simp only [opB] at hx ⊢
    split at hx
    · rename_i hc; rw [if_pos hc]; exact callB_le h hx
    · cases hx
  · rw [opB_noca (ca' := callB Γ T e1)]
    · exact hx
    · exact fun f xs hh => hca ⟨f, xs, hh⟩

theorem runB_cons {ca : V → List V → S → Option (V × S)} {i : I} {l : List I} {s : S} : runB ca (i :: l) s = match guardA s.e i.g with
    | some true => match opB ca s i.a with | some (v, s1) => runB ca l (s1.put i.d v) | none => none
    | some false => runB ca l (s.put i.d .un)
    | none => none := rfl

theorem runB_step {ca : V → List V → S → Option (V × S)} {i : I} {l : List I} {s s' : S} (h : runB ca (i :: l) s = some s') :
    ∃ s1, ((guardA s.e i.g = some true ∧ ∃ v s2, opB ca s i.a = some (v, s2) ∧ s1 = s2.put i.d v) ∨ (guardA s.e i.g = some false ∧ s1 = s.put i.d .un)) ∧ runB ca l s1 = some s' := by
  rw [runB_cons] at h
  split at h
  · rename_i hg
    split at h
    · rename_i v s2 hv; exact ⟨_, .inl ⟨hg, v, s2, hv, rfl⟩, h⟩
    · cases h
  · rename_i hg; exact ⟨_, .inr ⟨hg, rfl⟩, h⟩
  · cases h

theorem runB_le {Γ : Env} {T : Nat → Option FB} {e1 e2 : CB → S → Option R} (h : LeB e1 e2) : ∀ {l : List I} {s s' : S}, runB (callB Γ T e1) l s = some s' → runB (callB Γ T e2) l s = some s'
  | [], s, s', hx => hx
  | i :: l, s, s', hx => by
    obtain ⟨s1, h1, h2⟩ := runB_step hx
    rw [runB_cons]
    rcases h1 with ⟨hg, v, s2, hv, rfl⟩ | ⟨hg, rfl⟩
    · rw [hg]; simp only; rw [opB_le h hv]; exact runB_le h h2
    · rw [hg]; exact runB_le h h2

section
variable (Γ : Env) (T : Nat → Option FB) (k : Nat)
theorem exB_rg (l : List I) (s : S) : exB Γ T (k + 1) (.rg l) s = match runB (callB Γ T (exB Γ T k)) l s with | some s1 => some (.n s1) | none => none := rfl
theorem exB_seq (a b : CB) (s : S) : exB Γ T (k + 1) (.seq a b) s = match exB Γ T k a s with | some (.n s1) => exB Γ T k b s1 | r => r := rfl
theorem exB_cond (o : O) (a b : CB) (s : S) : exB Γ T (k + 1) (.cond o a b) s = match val s.e o with | .im (.bool true) => exB Γ T k a s | .im (.bool false) => exB Γ T k b s | _ => none := rfl
theorem exB_blk (id : Nat) (a : CB) (s : S) : exB Γ T (k + 1) (.blk id a) s = match exB Γ T k a s with | some (.x j s1) => if j = id then some (.n s1) else some (.x j s1) | r => r := rfl
theorem exB_lp (a : CB) (s : S) : exB Γ T (k + 1) (.lp a) s = match exB Γ T k a s with | some (.n s1) => exB Γ T k (.lp a) s1 | r => r := rfl
theorem exB_dp (x i : Nat) (a : CB) (s : S) : exB Γ T (k + 1) (.dp x i a) s = match dpS x i s with | some s1 => exB Γ T k a s1 | none => none := rfl
theorem exB_nm (L : List Nat) (a : CB) (s : S) : exB Γ T (k + 1) (.nm L a) s = match nmS L s with | some s1 => exB Γ T k a s1 | none => none := rfl
end

theorem exB_le_succ (Γ : Env) (T : Nat → Option FB) : ∀ k, LeB (exB Γ T k) (exB Γ T (k + 1))
  | 0 => fun c s r h => by simp [exB] at h
  | k + 1 => by
    have ih := exB_le_succ Γ T k
    intro c s r h
    cases c with
    | skip => exact h
    | rg l =>
      rw [exB_rg] at h ⊢
      split at h
      · rename_i s1 h1; rw [runB_le ih h1]; exact h
      · cases h
    | seq a b =>
      rw [exB_seq] at h ⊢
      cases ha : exB Γ T k a s with
      | none => rw [ha] at h; cases h
      | some r1 =>
        rw [ha] at h
        rw [ih _ _ _ ha]
        cases r1 with
        | n s1 => exact ih _ _ _ h
        | x j s1 => exact h
        | r s1 => exact h
    | cond o a b =>
      rw [exB_cond] at h ⊢
      split at h
      · rename_i hv; try rw [hv]
        exact ih _ _ _ h
      · rename_i hv; try rw [hv]
        exact ih _ _ _ h
      · cases h
    | blk id a =>
      rw [exB_blk] at h ⊢
      cases ha : exB Γ T k a s with
      | none => rw [ha] at h; cases h
      | some r1 =>
        rw [ha] at h
        rw [ih _ _ _ ha]
        exact h
    | lp a =>
      rw [exB_lp] at h ⊢
      cases ha : exB Γ T k a s with
      | none => rw [ha] at h; cases h
      | some r1 =>
        rw [ha] at h
        rw [ih _ _ _ ha]
        cases r1 with
        | n s1 => exact ih _ _ _ h
        | x j s1 => exact h
        | r s1 => exact h
    | ex id => exact h
    | ret => exact h
    | no => simp [exB] at h
    | nm L a =>
      rw [exB_nm] at h ⊢
      split at h
      · rename_i s1 hs; try rw [hs]
        exact ih _ _ _ h
      · cases h
    | dp x i a =>
      rw [exB_dp] at h ⊢
      split at h
      · rename_i s1 hs; try rw [hs]
        exact ih _ _ _ h
      · cases h

theorem exB_le (Γ : Env) (T : Nat → Option FB) {k n : Nat} (h : k ≤ n) : LeB (exB Γ T k) (exB Γ T n) := by
  induction h with
  | refl => exact fun _ _ _ h => h
  | step _ ih => exact fun c s r hr => exB_le_succ Γ T _ _ _ _ (ih c s r hr)

open Classical in
/-- The evaluation, with as much fuel as it takes. -/
noncomputable def EXB (Γ : Env) (T : Nat → Option FB) (c : CB) (s : S) : Option R := if h : ∃ k r, exB Γ T k c s = some r then some (Classical.choose (Classical.choose_spec h)) else none

theorem EXB_iff {Γ : Env} {T : Nat → Option FB} {c : CB} {s : S} {r : R} : EXB Γ T c s = some r ↔ ∃ k, exB Γ T k c s = some r := by
  classical
  unfold EXB
  constructor
  · intro h
    split at h
    · rename_i hh
      refine ⟨Classical.choose hh, ?_⟩
      rw [← Option.some.inj h]
      exact Classical.choose_spec (Classical.choose_spec hh)
    · cases h
  · rintro ⟨k, hk⟩
    have hh : ∃ k r, exB Γ T k c s = some r := ⟨k, r, hk⟩
    rw [dif_pos hh]
    have h1 := Classical.choose_spec (Classical.choose_spec hh)
    have h2 := exB_le Γ T (Nat.le_max_left k (Classical.choose hh)) _ _ _ hk
    have h3 := exB_le Γ T (Nat.le_max_right k (Classical.choose hh)) _ _ _ h1
    rw [h2] at h3
    exact h3.symm

theorem le_EXB (Γ : Env) (T : Nat → Option FB) (k : Nat) : LeB (exB Γ T k) (EXB Γ T) := fun _ _ _ h => EXB_iff.2 ⟨k, h⟩

theorem callB_fin {Γ : Env} {T : Nat → Option FB} {fv : V} {args : List V} {s : S} {x : V × S} (h : callB Γ T (EXB Γ T) fv args s = some x) : ∃ k, callB Γ T (exB Γ T k) fv args s = some x := by
  obtain ⟨q, h1, h2⟩ := callB_one h
  cases q with
  | none => exact ⟨0, h2 _ fun _ _ _ hh => by simp at hh⟩
  | some y =>
    obtain ⟨c, s0, r⟩ := y
    obtain ⟨k, hk⟩ := EXB_iff.1 (h1 c s0 r rfl)
    refine ⟨k, h2 _ fun c' s' r' hh => ?_⟩
    cases hh; exact hk

theorem isoB_fin {Γ : Env} {T : Nat → Option FB} {f : Nat} {ms : List M} {args : List V} {x : V × List V} (h : isoB Γ T (EXB Γ T) f ms args = some x) : ∃ k, isoB Γ T (exB Γ T k) f ms args = some x := by
  obtain ⟨q, h1, h2⟩ := isoB_one h
  cases q with
  | none => exact ⟨0, h2 _ fun _ _ _ hh => by simp at hh⟩
  | some y =>
    obtain ⟨c, s0, r⟩ := y
    obtain ⟨k, hk⟩ := EXB_iff.1 (h1 c s0 r rfl)
    refine ⟨k, h2 _ fun c' s' r' hh => ?_⟩
    cases hh; exact hk

theorem runB_fin {Γ : Env} {T : Nat → Option FB} : ∀ {l : List I} {s s' : S}, runB (callB Γ T (EXB Γ T)) l s = some s' → ∃ k, runB (callB Γ T (exB Γ T k)) l s = some s'
  | [], s, s', h => ⟨0, h⟩
  | i :: l, s, s', h => by
    obtain ⟨s1, hx, h⟩ := runB_step h
    obtain ⟨k2, h2⟩ := runB_fin h
    rcases hx with ⟨hg, v, s2, hv, rfl⟩ | ⟨hg, rfl⟩
    · have : ∃ k1, opB (callB Γ T (exB Γ T k1)) s i.a = some (v, s2) := by
        by_cases hca : ∃ f xs, i.a = .ca f xs
        · obtain ⟨f, xs, e⟩ := hca
          rw [e] at hv ⊢
          simp only [opB] at hv ⊢
          split at hv
          · rename_i hc
            obtain ⟨k, hk⟩ := callB_fin hv
            exact ⟨k, by rw [if_pos hc]; exact hk⟩
          · cases hv
        · refine ⟨0, ?_⟩
          rw [opB_noca (ca' := callB Γ T (EXB Γ T))]
          · exact hv
          · exact fun f xs hh => hca ⟨f, xs, hh⟩
      obtain ⟨k1, h1⟩ := this
      refine ⟨max k1 k2, ?_⟩
      rw [runB_cons, hg]
      simp only
      rw [opB_le (exB_le Γ T (Nat.le_max_left _ _)) h1]
      exact runB_le (exB_le Γ T (Nat.le_max_right _ _)) h2
    · refine ⟨k2, ?_⟩
      rw [runB_cons, hg]
      exact h2

/-! The equations. -/
theorem EXB_skip (Γ : Env) (T : Nat → Option FB) (s : S) : EXB Γ T .skip s = some (.n s) := EXB_iff.2 ⟨1, rfl⟩
theorem EXB_ret (Γ : Env) (T : Nat → Option FB) (s : S) : EXB Γ T .ret s = some (.r s) := EXB_iff.2 ⟨1, rfl⟩
theorem EXB_ex (Γ : Env) (T : Nat → Option FB) (id : Nat) (s : S) : EXB Γ T (.ex id) s = some (.x id s) := EXB_iff.2 ⟨1, rfl⟩
theorem EXB_rg (Γ : Env) (T : Nat → Option FB) (l : List I) (s : S) : EXB Γ T (.rg l) s = (runB (callB Γ T (EXB Γ T)) l s).map .n := by
  refine opt_ext (fun r h => ?_) fun r h => ?_
  · obtain ⟨k, hk⟩ := EXB_iff.1 h
    cases k with
    | zero => simp [exB] at hk
    | succ k =>
      simp only [exB] at hk
      split at hk
      · rename_i s1 h1
        rw [runB_le (le_EXB Γ T k) h1]; exact hk
      · cases hk
  · obtain ⟨s1, h1, rfl⟩ := Option.map_eq_some_iff.1 h
    obtain ⟨k, hk⟩ := runB_fin h1
    exact EXB_iff.2 ⟨k + 1, by simp only [exB]; rw [hk]⟩
theorem EXB_seq (Γ : Env) (T : Nat → Option FB) (a b : CB) (s : S) : EXB Γ T (.seq a b) s = match EXB Γ T a s with | some (.n s1) => EXB Γ T b s1 | r => r := by
  refine opt_ext (fun r h => ?_) fun r h => ?_
  · obtain ⟨k, hk⟩ := EXB_iff.1 h
    cases k with
    | zero => simp [exB] at hk
    | succ k =>
      simp only [exB] at hk
      cases ha : exB Γ T k a s with
      | none => rw [ha] at hk; cases hk
      | some r1 =>
        rw [ha] at hk
        rw [le_EXB Γ T k _ _ _ ha]
        cases r1 with
        | n s1 => exact le_EXB Γ T k _ _ _ hk
        | x j s1 => exact hk
        | r s1 => exact hk
  · cases ha : EXB Γ T a s with
    | none => rw [ha] at h; cases h
    | some r1 =>
      rw [ha] at h
      obtain ⟨k1, h1⟩ := EXB_iff.1 ha
      cases r1 with
      | n s1 =>
        obtain ⟨k2, h2⟩ := EXB_iff.1 h
        refine EXB_iff.2 ⟨max k1 k2 + 1, ?_⟩
        simp only [exB]
        rw [exB_le Γ T (Nat.le_max_left _ _) _ _ _ h1]
        exact exB_le Γ T (Nat.le_max_right _ _) _ _ _ h2
      | x j s1 => refine EXB_iff.2 ⟨k1 + 1, ?_⟩; simp only [exB]; rw [h1]; exact h
      | r s1 => refine EXB_iff.2 ⟨k1 + 1, ?_⟩; simp only [exB]; rw [h1]; exact h
theorem EXB_cond (Γ : Env) (T : Nat → Option FB) (o : O) (a b : CB) (s : S) : EXB Γ T (.cond o a b) s = match val s.e o with | .im (.bool true) => EXB Γ T a s | .im (.bool false) => EXB Γ T b s | _ => none := by
  refine opt_ext (fun r h => ?_) fun r h => ?_
  · obtain ⟨k, hk⟩ := EXB_iff.1 h
    cases k with
    | zero => simp [exB] at hk
    | succ k =>
      simp only [exB] at hk
      split at hk
      · rename_i hv; try rw [hv]
        exact le_EXB Γ T k _ _ _ hk
      · rename_i hv; try rw [hv]
        exact le_EXB Γ T k _ _ _ hk
      · cases hk
  · split at h
    · rename_i hv
      obtain ⟨k, hk⟩ := EXB_iff.1 h
      exact EXB_iff.2 ⟨k + 1, by simp only [exB]; rw [hv]; exact hk⟩
    · rename_i hv
      obtain ⟨k, hk⟩ := EXB_iff.1 h
      exact EXB_iff.2 ⟨k + 1, by simp only [exB]; rw [hv]; exact hk⟩
    · cases h
theorem EXB_blk (Γ : Env) (T : Nat → Option FB) (id : Nat) (a : CB) (s : S) : EXB Γ T (.blk id a) s = match EXB Γ T a s with | some (.x j s1) => if j = id then some (.n s1) else some (.x j s1) | r => r := by
  refine opt_ext (fun r h => ?_) fun r h => ?_
  · obtain ⟨k, hk⟩ := EXB_iff.1 h
    cases k with
    | zero => simp [exB] at hk
    | succ k =>
      simp only [exB] at hk
      cases ha : exB Γ T k a s with
      | none => rw [ha] at hk; cases hk
      | some r1 => rw [ha] at hk; rw [le_EXB Γ T k _ _ _ ha]; exact hk
  · cases ha : EXB Γ T a s with
    | none => rw [ha] at h; cases h
    | some r1 =>
      rw [ha] at h
      obtain ⟨k1, h1⟩ := EXB_iff.1 ha
      exact EXB_iff.2 ⟨k1 + 1, by simp only [exB]; rw [h1]; exact h⟩
theorem EXB_lp (Γ : Env) (T : Nat → Option FB) (a : CB) (s : S) : EXB Γ T (.lp a) s = match EXB Γ T a s with | some (.n s1) => EXB Γ T (.lp a) s1 | r => r := by
  refine opt_ext (fun r h => ?_) fun r h => ?_
  · obtain ⟨k, hk⟩ := EXB_iff.1 h
    cases k with
    | zero => simp [exB] at hk
    | succ k =>
      simp only [exB] at hk
      cases ha : exB Γ T k a s with
      | none => rw [ha] at hk; cases hk
      | some r1 =>
        rw [ha] at hk
        rw [le_EXB Γ T k _ _ _ ha]
        cases r1 with
        | n s1 => exact le_EXB Γ T k _ _ _ hk
        | x j s1 => exact hk
        | r s1 => exact hk
  · cases ha : EXB Γ T a s with
    | none => rw [ha] at h; cases h
    | some r1 =>
      rw [ha] at h
      obtain ⟨k1, h1⟩ := EXB_iff.1 ha
      cases r1 with
      | n s1 =>
        obtain ⟨k2, h2⟩ := EXB_iff.1 h
        refine EXB_iff.2 ⟨max k1 k2 + 1, ?_⟩
        simp only [exB]
        rw [exB_le Γ T (Nat.le_max_left _ _) _ _ _ h1]
        exact exB_le Γ T (Nat.le_max_right _ _) _ _ _ h2
      | x j s1 => refine EXB_iff.2 ⟨k1 + 1, ?_⟩; simp only [exB]; rw [h1]; exact h
      | r s1 => refine EXB_iff.2 ⟨k1 + 1, ?_⟩; simp only [exB]; rw [h1]; exact h

theorem EXB_nm (Γ : Env) (T : Nat → Option FB) (L : List Nat) (a : CB) (s : S) : EXB Γ T (.nm L a) s = match nmS L s with | some s1 => EXB Γ T a s1 | none => none := by
  refine opt_ext (fun r h => ?_) fun r h => ?_
  · obtain ⟨k, hk⟩ := EXB_iff.1 h
    cases k with
    | zero => simp [exB] at hk
    | succ k =>
      rw [exB_nm] at hk
      split at hk
      · rename_i s1 hs; try rw [hs]
        exact le_EXB Γ T k _ _ _ hk
      · cases hk
  · split at h
    · rename_i s1 hs
      obtain ⟨k, hk⟩ := EXB_iff.1 h
      exact EXB_iff.2 ⟨k + 1, by rw [exB_nm, hs]; exact hk⟩
    · cases h

theorem EXB_dp (Γ : Env) (T : Nat → Option FB) (x i : Nat) (a : CB) (s : S) : EXB Γ T (.dp x i a) s = match dpS x i s with | some s1 => EXB Γ T a s1 | none => none := by
  refine opt_ext (fun r h => ?_) fun r h => ?_
  · obtain ⟨k, hk⟩ := EXB_iff.1 h
    cases k with
    | zero => simp [exB] at hk
    | succ k =>
      rw [exB_dp] at hk
      split at hk
      · rename_i s1 hs; try rw [hs]
        exact le_EXB Γ T k _ _ _ hk
      · cases hk
  · split at h
    · rename_i s1 hs
      obtain ⟨k, hk⟩ := EXB_iff.1 h
      exact EXB_iff.2 ⟨k + 1, by rw [exB_dp, hs]; exact hk⟩
    · cases h

/-- The call of a function on trees. -/
noncomputable def CALLB (Γ : Env) (T : Nat → Option FB) (f : Nat) (ms : List M) (args : List V) : Option (V × List V) := isoB Γ T (EXB Γ T) f ms args

theorem CALLB_ok {P : Program} {Γ : Env} {T : Nat → Option FB} (hΓ : EnvOK P Γ) (hB : EnvB Γ T) {f : Nat} {ms : List M} (hmd : Γ.md f = some ms) {args : List V} (hp : PurL args) {res : V} {us : List V} (h : CALLB Γ T f ms args = some (res, us)) : IsoOK P f ms args res us := by
  obtain ⟨k, hk⟩ := isoB_fin h
  have := (iso_simB hB (exB_sim hB k) f ms args res us hk hp).1
  exact CALL_ok hΓ hmd this

end Go.Am
