/- The A-machine, part 20: all code; the machine is sound. -/
import Derived.Test.YthpaolkonlhjfaaAm19
set_option linter.all false
namespace Go.Am
variable {P : Program} {St Mine : Nat → Prop} {w : World}

theorem At.of {φ : Phi} {s : S} {a : Act} (q : WR φ St Mine w s.H s.nx) (env : EnvR φ St w s.e a.tmps) : At φ φ St St Mine w w s s a a := ⟨Goes.refl q, env, rfl, rfl⟩

/-- What comes of code that starts where other code has come. -/
theorem At.chain {φ0 φ : Phi} {St0 : Nat → Prop} {w0 : World} {s0 s : S} {a0 a : Act} (h : At φ0 φ St0 St Mine w0 w s0 s a0 a) {r : R} {e : Exit} {a' : Act} {w' : World} (p : Post φ St Mine w s a r e a' w') : Post φ0 St0 Mine w0 s0 a0 r e a' w' := by
  unfold Post at p ⊢
  split
  · obtain ⟨φ', St', g, h1, h2, h3⟩ := p
    exact ⟨φ', St', h.g.trans g, h1, h2.trans h.sz, h3.trans h.df⟩
  · obtain ⟨φ', St', g, h1, h2, h3⟩ := p
    exact ⟨φ', St', h.g.trans g, h1, h2.trans h.sz, h3.trans h.df⟩
  · obtain ⟨hi, φ', St', g, h1, h2, h3⟩ := p
    exact ⟨hi, φ', St', h.g.trans g, h1, h2.trans h.sz, h3.trans h.df⟩
  · split at p <;> first | exact p.elim | simp_all

theorem Post.at {φ : Phi} {s s' : S} {a a' : Act} {w' : World} (p : Post φ St Mine w s a (.n s') .normal a' w') : ∃ φ' St', At φ φ' St St' Mine w w' s s' a a' := by
  obtain ⟨φ', St', g, h1, h2, h3⟩ := p
  exact ⟨φ', St', g, h1, h2, h3⟩

theorem Post.normal {φ : Phi} {s s' : S} {a a' : Act} {w' : World} {e : Exit} (p : Post φ St Mine w s a (.n s') e a' w') : e = .normal := by
  cases e <;> first | rfl | exact p.elim

/-- The loop, by rounds. -/
def LpOK (P : Program) (Γ : Env) (k : Nat) : Prop :=
  ∀ (c : Code) (s : S) (r : R) (φ : Phi) (St Mine : Nat → Prop) (w : World) (a : Act), ex Γ k (.lp (compC P Γ.md c)) s = some r → dstsOk a.tmps.size (compC P Γ.md c) = true →
    WR φ St Mine w s.H s.nx → EnvR φ St w s.e a.tmps → Code.rounds P c (Post φ St Mine w s a r) k a w

theorem rounds_mono {c : Code} {Q Q' : Exit → Act → World → Prop} (h : ∀ e a w, Q e a w → Q' e a w) : ∀ (n : Nat) (a : Act) (w : World), Code.rounds P c Q n a w → Code.rounds P c Q' n a w
  | 0, _, _, hh => hh
  | n + 1, a, w, hh => by
    rw [rounds_succ] at hh ⊢
    refine wp_mono hh fun e a w he => ?_
    cases e with
    | normal => exact rounds_mono h n a w he
    | _ => exact h _ _ _ he

theorem filterMap_range' {α : Type} : ∀ (l pre : List α), (List.range' pre.length l.length).filterMap ((pre ++ l)[·]?) = l
  | [], _ => rfl
  | x :: l, pre => by
    have := filterMap_range' l (pre ++ [x])
    simp only [List.append_assoc, List.singleton_append, List.length_append, List.length_singleton] at this
    rw [List.length_cons, List.range'_succ, List.filterMap_cons]
    simp only [List.getElem?_append_right (Nat.le_refl _), Nat.sub_self, List.getElem?_cons_zero]
    rw [this]
theorem filterMap_range {α : Type} (l : List α) : (List.range l.length).filterMap (l[·]?) = l := by
  rw [List.range_eq_range']
  exact filterMap_range' l []

theorem ex_sound {Γ : Env} (hΓ : EnvOK P Γ) : ∀ k, ExOK P Γ k ∧ LpOK P Γ k
  | 0 => ⟨by intro c s r φ St Mine w a h; simp [ex] at h, by intro c s r φ St Mine w a h; simp [ex] at h⟩
  | k + 1 => by
    obtain ⟨ih, ihl⟩ := ex_sound hΓ k
    have lp : LpOK P Γ (k + 1) := by
      intro c s r φ St Mine w a h hd q env
      simp only [ex] at h
      rw [rounds_succ]
      split at h
      · rename_i s1 h1
        refine wp_mono (ih c s _ φ St Mine w a h1 hd q env) fun e a' w' p => ?_
        obtain rfl := p.normal
        obtain ⟨φ', St', hat⟩ := p.at
        refine rounds_mono (fun e a2 w2 => hat.chain) _ _ _ (ihl c s1 r φ' St' Mine w' a' h (by rw [hat.sz]; exact hd) hat.g.wr hat.env)
      · rename_i hr
        refine wp_mono (ih c s _ φ St Mine w a h hd q env) fun e a' w' p => ?_
        cases e with
        | normal =>
          cases r with
          | n s1 => exact absurd h (hr s1)
          | x i s1 => exact p.elim
          | r s1 => exact p.elim
        | _ => exact p
    refine ⟨fun c s r φ St Mine w a h hd q env => ?_, lp⟩
    cases c with
    | skip =>
      simp only [compC, ex, Option.some.injEq] at h
      subst h
      exact wp_skip (At.of q env).post
    | region id ops draw =>
      simp only [compC] at h hd
      split at h
      case h_2 => cases h
      rename_i is his
      rw [his] at hd
      simp only at hd
      have fin : ∀ c', c' = C.rg is → ex Γ (k + 1) c' s = some r → ∃ s1, r = .n s1 ∧ runI (callV Γ (ex Γ k)) is s = some s1 := by
        rintro c' rfl h
        simp only [ex] at h
        split at h
        · rename_i s1 hr
          exact ⟨s1, (Option.some.inj h).symm, hr⟩
        · cases h
      cases draw with
      | false =>
        simp only [Bool.false_eq_true, if_false] at h hd
        obtain ⟨s1, rfl, hr⟩ := fin _ rfl h
        refine wp_region_list (list_sound hΓ ih _ is s s1 φ St w a his hr (fun i hi d hdd => ?_) (At.of q env))
        have := List.all_eq_true.1 hd i hi
        rw [hdd] at this
        simpa using this
      | true =>
        simp only [if_true] at h hd
        split at h
        case isFalse => cases h
        rename_i heff
        rw [if_pos heff] at hd
        obtain ⟨s1, rfl, hr⟩ := fin _ rfl h
        have hd' : ∀ i ∈ is, ∀ d, i.d = some d → d < a.tmps.size := fun i hi d hdd => by
          have := List.all_eq_true.1 hd i hi
          rw [hdd] at this
          simpa using this
        have hlen : is.length = ops.size := by simpa using (mapM_get his).1
        refine wp_region_any hΓ.mixed (draw_sound hΓ ih his heff hd' ops.size _ (List.range ops.size) s φ St _ a (by simp) (fun j => ?_) List.pairwise_lt_range (by simp) ?_ ?_ ?_)
        · rw [List.mem_range]
          constructor
          · intro hj; refine ⟨hj, ?_⟩
            simp [hj]
          · exact fun h => h.1
        · intro j i b _ hj hl
          exfalso
          simp [hj] at hl
        · have := filterMap_range is
          rw [hlen] at this
          rw [this]; exact hr
        · exact ⟨⟨q.drawn, Ext.refl _ _, Nat.le_refl _, fun _ h => h, stp_drawn, fun h => h, fun _ _ h => h⟩, fun t => (env t).drawn, rfl, rfl⟩
    | seq x y =>
      simp only [compC, ex] at h
      simp only [compC, dstsOk, Bool.and_eq_true] at hd
      split at h
      · rename_i s1 h1
        refine wp_seq (wp_mono (ih x s _ φ St Mine w a h1 hd.1 q env) fun e a' w' p => ?_)
        obtain rfl := p.normal
        obtain ⟨φ', St', hat⟩ := p.at
        exact wp_mono (ih y s1 r φ' St' Mine w' a' h (by rw [hat.sz]; exact hd.2) hat.g.wr hat.env) fun e a2 w2 => hat.chain
      · rename_i hr
        refine wp_seq (wp_mono (ih x s _ φ St Mine w a h hd.1 q env) fun e a' w' p => ?_)
        cases e with
        | normal =>
          cases r with
          | n s1 => exact absurd h (hr s1)
          | x i s1 => exact p.elim
          | r s1 => exact p.elim
        | _ => exact p
    | cond o x y =>
      simp only [compC] at h hd
      split at h
      case h_2 => cases h
      rename_i o' ho
      rw [ho] at hd
      simp only [dstsOk, Bool.and_eq_true] at hd
      simp only [ex] at h
      have hro := rep_toO env ho
      split at h
      · rename_i hv
        rw [hv] at hro
        simp only [Rep] at hro
        exact wp_cond_true hro (ih x s r φ St Mine w a h hd.1 q env)
      · rename_i hv
        rw [hv] at hro
        simp only [Rep] at hro
        exact wp_cond_false hro (ih y s r φ St Mine w a h hd.2 q env)
      · cases h
    | block id x =>
      simp only [compC, ex] at h
      simp only [compC, dstsOk] at hd
      refine wp_block ?_
      split at h
      · rename_i j s1 h1
        refine wp_mono (ih x s _ φ St Mine w a h1 hd q env) fun e a' w' p => ?_
        cases e with
        | exit i =>
          obtain ⟨rfl, φ', St', p⟩ := p
          simp only [Exit.inBlock]
          split at h
          · rename_i hj
            obtain rfl := Option.some.inj h
            rw [if_pos hj]; exact ⟨φ', St', p⟩
          · rename_i hj
            obtain rfl := Option.some.inj h
            rw [if_neg hj]; exact ⟨rfl, φ', St', p⟩
        | _ => exact p.elim
      · rename_i hr
        refine wp_mono (ih x s _ φ St Mine w a h hd q env) fun e a' w' p => ?_
        cases e with
        | exit i =>
          cases r with
          | x j s1 => exact absurd h (hr j s1)
          | n s1 => exact p.elim
          | r s1 => exact p.elim
        | _ => exact p
    | loop x =>
      simp only [compC] at h
      simp only [compC, dstsOk] at hd
      exact wp_loop_rounds (k + 1) (lp x s r φ St Mine w a h hd q env)
    | exit id =>
      simp only [compC, ex, Option.some.injEq] at h
      subst h
      exact wp_exit ⟨rfl, φ, St, Goes.refl q, env, rfl, rfl⟩
    | ret =>
      simp only [compC, ex, Option.some.injEq] at h
      subst h
      exact wp_ret ⟨φ, St, Goes.refl q, env, rfl, rfl⟩
    | _ => simp only [compC, ex] at h; cases h

/-- What a call comes to on trees, it comes to in the machine. -/
theorem iso_ok {Γ : Env} (hΓ : EnvOK P Γ) {k f : Nat} {ms : List M} (hmd : Γ.md f = some ms) {args : List V} {res : V} {us : List V} (h : isoCall Γ (ex Γ k) f ms args = some (res, us)) : IsoOK P f ms args res us :=
  (iso_sound hΓ (ex_sound hΓ k).1 hmd h).1

end Go.Am
