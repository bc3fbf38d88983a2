/-
  Contracts of functions that the law reaches.
-/
import Derived.Test.YthpaolkonlhjfaaFnExactDropClashesP1
set_option linter.all false
set_option maxHeartbeats 1000000
set_option synthInstance.maxSize 1000
namespace Go.Am
attribute [local irreducible] snapB roT giveB okD free packB
theorem runA_size {l : List (List Int)} {n : Int} (h : areRows l n = true) : (runA l n).2.2.length ≤ 20 ∧ (runA l n).2.1.length ≤ 5 ∧ (runA l n).1.length ≤ 5 ∧ ∀ s ∈ (runA l n).1, s.length ≤ 5 := by
  obtain ⟨h1, h2, h3⟩ := areRows_n h
  have h4 : (rng n.toNat).length ≤ 5 := by rw [rng_len]; omega
  obtain ⟨g1, g2, g3, g4⟩ := runD_size l (rng n.toNat).length (rng n.toNat) (rng l.length) [] 5 h4
  have g5 := rng_len l.length
  exact ⟨by unfold runA runL; omega, by unfold runA runL; omega, by unfold runA runL; simp at g3; omega, fun s hs => by rcases g4 s hs with h | h; · simp at h
                                                                                                                        · exact h⟩
theorem stuckL_ok (l : List (List Int)) (n : Int) : (stuckL l n).length ≤ 20 := by
  unfold stuckL
  split
  · rename_i h; exact (runA_size h.1).1
  · simp
theorem law_FnExactDropClashes (l : List (List Int)) (n : Int) (hl : Bnd.wf l) (_hn : Bnd.wf n) : CALLB Γ T 9 [] [eL eR l, .i n] = some (.b true, []) := by
  obtain ⟨t0, hk0, m0, rfl, h0⟩ := sz_RowS l 1048576 (by omega) (by omega) hl
  apply call_ro' rfl rfl rfl rfl
  (try refine st ?_)
  refine c0 (hk0) ?_
  repeat' (first|refine st ?_|refine u0 ?_|refine u1 ?_|refine u2 ?_|refine u3 ?_|refine u4 ?_|refine u5 ?_|refine u6 ?_|refine u7 ?_|refine u8 ?_|refine u9 ?_|(refine Br.mk ?_ ?_<;>intro hc)|(refine An.mk ?_;intro x hx))
  · rfl
  have h := (h0.resolve_left (by omega)).1
  have hk1 := k_sDropClashes l n h
  have hk2 := k_DropClashes l n h
  by_cases hg : areRows l n = true
  · have hS : Bnd.ok (dropCl l n) := ok_ints (by
      have h1 := areRows_n hg
      have h2 := dcG_len (l := l) (n := n) (m := l.length) (i := 0) (o := [])
      rw [dropCl, if_pos hg]
      simp at h2; omega)
    rw [if_pos hg] at hk2
    generalize dropCl l n = s at *
    have hQ_l := cn_RowS h
    have hQ_s := ok_len hS
    have hM_s := (mk_len (1) s.length).symm
    repeat' (first|refine st ?_|refine u0 ?_|refine u1 ?_|refine u2 ?_|refine u3 ?_|refine u4 ?_|refine u5 ?_|refine u6 ?_|refine u7 ?_|refine u8 ?_|refine u9 ?_|(apply i_ca;first|(apply i_f 27;refine c0 (hk1) ?_)|(apply i_f 25;refine c0 (hk2) ?_)|(apply i_f 33;refine c0 (to_RowS l h) ?_)|(apply i_f 34;refine c0 (eq_RowS l l h) ?_)|(apply i_f 46;refine ci (mark_RowS l (1) h (by omega)) ?_ ?_)|(apply i_f 45;refine c0 (eq_IntS s s hS) ?_)|(apply i_f 47;refine ci (mark_IntS s (1) (by omega) (by omega)) ?_ ?_)|(apply i_f 48;refine c0 (held_IntS s.length (1) (by omega) (by omega)) ?_))|(refine Br.mk ?_ ?_<;>intro hc)|(refine An.mk ?_;intro x hx))
    all_goals first | rfl | exact mkS_len _ _ | exact mk_len _ _ | exact absurd rfl hc | exact absurd hc (by decide)
  · rw [if_neg hg] at hk2
    have hs : dropCl l n = [] := by rw [dropCl, if_neg hg]
    rw [hs] at hk1
    have hQ_l := cn_RowS h
    have heN0 := eq_IntS [] [] ok_nilL
    have hhN0 := held_IntS 0 (1) (by omega) (by omega)
    repeat' (first|refine st ?_|refine u0 ?_|refine u1 ?_|refine u2 ?_|refine u3 ?_|refine u4 ?_|refine u5 ?_|refine u6 ?_|refine u7 ?_|refine u8 ?_|refine u9 ?_|(apply i_ca;first|(apply i_f 27;refine c0 (hk1) ?_)|(apply i_f 25;refine c0 (hk2) ?_)|(apply i_f 33;refine c0 (to_RowS l h) ?_)|(apply i_f 34;refine c0 (eq_RowS l l h) ?_)|(apply i_f 46;refine ci (mark_RowS l (1) h (by omega)) ?_ ?_)|(apply i_f 45;refine c0 (heN0) ?_)|(apply i_f 48;refine c0 (hhN0) ?_)|(apply i_f 47;refine ci0 (markN_IntS (1)) ?_))|(refine Br.mk ?_ ?_<;>intro hc)|(refine An.mk ?_;intro x hx))
    all_goals first | rfl | exact mkS_len _ _ | exact mk_len _ _ | exact absurd rfl hc | exact absurd hc (by decide)
end Go.Am
