/-
  Contracts of functions that the law reaches.
-/
import Derived.Test.YthpaolkonlhjfaaFnExactLargestConsistentP1
set_option linter.all false
set_option maxHeartbeats 1000000
set_option synthInstance.maxSize 1000
namespace Go.Am
attribute [local irreducible] snapB roT giveB okD free packB
theorem k_sLargestConsistent (l : List (List Int)) (n : Int) (hl : Bnd.ok l) : CALLB Γ T 28 [] [eL eR l, .i n] = some (oI (largeL l n), []) := by
  have hle := ok_len hl
  by_cases hg : areRows l n = true ∧ l.length ≤ 8
  · have hR : lcG l n (2 ^ l.length) 0 [] = largeL l n := by rw [largeL, if_pos hg]
    have ha := k_sAreRows l n hl
    rw [hg.1] at ha
    have hl8 := hg.2
    have h28 : 2 ^ l.length ≤ 2 ^ 8 := Nat.pow_le_pow_right (by decide) hl8
    apply call_ro' rfl rfl rfl rfl
    repeat' (first|refine st ?_|refine u0 ?_|refine u1 ?_|refine u2 ?_|refine u3 ?_|refine u4 ?_|refine u5 ?_|refine u6 ?_|refine u7 ?_|refine u8 ?_|refine u9 ?_|refine u10 ?_|refine u11 ?_|refine v0 ?_|refine v2 ?_|refine v3 ?_|(apply i_ca;first|(apply i_f 21;refine c0 (ha) ?_))|(refine Br.mk ?_ ?_<;>intro hc<;>try contradiction)|(refine An.mk ?_;intro x hx))
    refine wp_while (fun (x : Nat × List Int) => ⟨envA [(0, eL eR l), (1, .i n), (5, .hs 0 0 (x.2).length (x.2).length), (6, .i (x.1 : Nat))], heapA [some ⟨1, (x.2).map V.i, false⟩], 1, false⟩) (fun (x : Nat × List Int) => LcI l n (largeL l n) x.1 x.2) (fun (x : Nat × List Int) => 2 ^ l.length - x.1) ((0, [])) nm ?_ ?_
    · exact ⟨Nat.zero_le _, hR, by simp⟩
    · rintro ⟨m, b⟩ hI
      have h1 := hI.hm
      have h2 := hI.len
      dsimp only at h1 h2 ⊢
      by_cases hlt : m < 2 ^ l.length
      · have hmu : 2 ^ l.length - (m + 1) < 2 ^ l.length - m := by omega
        repeat' (first|refine st ?_|refine u0 ?_|refine u1 ?_|refine u2 ?_|refine u3 ?_|refine u4 ?_|refine u5 ?_|refine u6 ?_|refine u7 ?_|refine u8 ?_|refine u9 ?_|refine u10 ?_|refine u11 ?_|refine v0 ?_|refine v2 ?_|refine v3 ?_|(refine Br.mk ?_ ?_<;>intro hc<;>try contradiction)|(refine An.mk ?_;intro x hx))
        refine wp_while (fun (x : Nat × List Int) => ⟨envA [(0, eL eR l), (1, .i n), (5, .hs 0 0 (b).length (b).length), (6, .i (m : Nat)), (7, .hs 1 0 (x.2).length (x.2).length), (8, .i (x.1 : Nat))], heapA [some ⟨1, (b).map V.i, false⟩, some ⟨1, (x.2).map V.i, false⟩], 2, false⟩) (fun (x : Nat × List Int) => SgI l m x.1 x.2) (fun (x : Nat × List Int) => l.length - x.1) ((0, [])) nm ?_ ?_
        · exact ⟨Nat.zero_le _, rfl, by simp, by simp⟩
        · rintro ⟨i, s⟩ hS
          have h3 := hS.hi
          have h4 := hS.len
          dsimp only at h3 h4 ⊢
          by_cases hlt2 : i < l.length
          · have hmu2 : l.length - (i + 1) < l.length - i := by omega
            repeat' (first|refine st ?_|refine u0 ?_|refine u1 ?_|refine u2 ?_|refine u3 ?_|refine u4 ?_|refine u5 ?_|refine u6 ?_|refine u7 ?_|refine u8 ?_|refine u9 ?_|refine u10 ?_|refine u11 ?_|refine v0 ?_|refine v2 ?_|refine v3 ?_|(refine Br.mk ?_ ?_<;>intro hc<;>try contradiction)|(refine An.mk ?_;intro x hx))
            · exact lp_n (i + 1, s ++ [(i : Int)]) hmu2 (by have := hS.step hlt2 (b := true) (decide_eq_true hc); exact this) nm
            · exact lp_n (i + 1, s) hmu2 (by have := hS.step hlt2 (b := false) (decide_eq_false hc); exact this) nm
          · have hs : s = setM l m := by
              have := hS.F
              rw [show l.length - i = 0 by omega] at this
              exact this
            have hmem := hS.mem
            have hok : Bnd.ok s := ok_ints (by omega)
            have hk2 := k_sIsConsistent (pickD l s) n (pickD_ok hl hok hmem)
            repeat' (first|refine st ?_|refine u0 ?_|refine u1 ?_|refine u2 ?_|refine u3 ?_|refine u4 ?_|refine u5 ?_|refine u6 ?_|refine u7 ?_|refine u8 ?_|refine u9 ?_|refine u10 ?_|refine u11 ?_|refine v0 ?_|refine v2 ?_|refine v3 ?_|(apply i_ca;first|(apply i_f 69;refine c0 (k_l17Some l s hl hok hmem) ?_)|(apply i_f 22;refine c0 (hk2) ?_))|(refine Br.mk ?_ ?_<;>intro hc<;>try contradiction)|(refine An.mk ?_;intro x hx))
            · have := hI.step hlt (X := s) (by rw [if_pos ⟨by rw [← hs]; dsimp only; omega, by rw [← hs]; exact hc⟩, hs])
              exact lp_n (m + 1, s) hmu this nm
            · have := hI.step hlt (X := b) (by rw [if_neg]; rintro ⟨_, h6⟩; rw [← hs, hc] at h6; exact absurd h6 (by decide))
              exact lp_n (m + 1, b) hmu this nm
            · have := hI.step hlt (X := b) (by rw [if_neg]; rintro ⟨h6, _⟩; rw [← hs] at h6; dsimp only at h6; omega)
              exact lp_n (m + 1, b) hmu this nm
      · have hF := hI.F
        rw [show 2 ^ l.length - m = 0 by omega] at hF
        repeat' (first|refine st ?_|refine u0 ?_|refine u1 ?_|refine u2 ?_|refine u3 ?_|refine u4 ?_|refine u5 ?_|refine u6 ?_|refine u7 ?_|refine u8 ?_|refine u9 ?_|refine u10 ?_|refine u11 ?_|refine v0 ?_|refine v2 ?_|refine v3 ?_|(refine Br.mk ?_ ?_<;>intro hc<;>try contradiction)|(refine An.mk ?_;intro x hx))
        exact hF
  · have hR : largeL l n = [] := by rw [largeL, if_neg hg]
    rw [hR]
    apply call_ro' rfl rfl rfl rfl
    by_cases hg1 : areRows l n = true
    · have hg2 : ¬ l.length ≤ 8 := fun h => hg ⟨hg1, h⟩
      have ha := k_sAreRows l n hl
      rw [hg1] at ha
      repeat' (first|refine st ?_|refine u0 ?_|refine u1 ?_|refine u2 ?_|refine u3 ?_|refine u4 ?_|refine u5 ?_|refine u6 ?_|refine u7 ?_|refine u8 ?_|refine u9 ?_|refine u10 ?_|refine u11 ?_|refine v0 ?_|refine v2 ?_|refine v3 ?_|(apply i_ca;first|(apply i_f 21;refine c0 (ha) ?_))|(refine Br.mk ?_ ?_<;>intro hc<;>try contradiction)|(refine An.mk ?_;intro x hx))
      all_goals first | rfl | exact fin (P := ([] : List Int) = []) rfl (g := fun p => gv_hs (l' := []) (f := V.i) p rfl rfl (fun _ => okA))
    · have hg2 : areRows l n = false := by simpa using hg1
      have ha := k_sAreRows l n hl
      rw [hg2] at ha
      repeat' (first|refine st ?_|refine u0 ?_|refine u1 ?_|refine u2 ?_|refine u3 ?_|refine u4 ?_|refine u5 ?_|refine u6 ?_|refine u7 ?_|refine u8 ?_|refine u9 ?_|refine u10 ?_|refine u11 ?_|refine v0 ?_|refine v2 ?_|refine v3 ?_|(apply i_ca;first|(apply i_f 21;refine c0 (ha) ?_))|(refine Br.mk ?_ ?_<;>intro hc<;>try contradiction)|(refine An.mk ?_;intro x hx))
      all_goals first | rfl | exact fin (P := ([] : List Int) = []) rfl (g := fun p => gv_hs (l' := []) (f := V.i) p rfl rfl (fun _ => okA))
theorem law_FnExactLargestConsistent (l : List (List Int)) (n : Int) (hl : Bnd.wf l) (_hn : Bnd.wf n) : CALLB Γ T 11 [] [eL eR l, .i n] = some (.b true, []) := by
  obtain ⟨t0, hk0, m0, rfl, h0⟩ := sz_RowS l 1048576 (by omega) (by omega) hl
  apply call_ro' rfl rfl rfl rfl
  (try refine st ?_)
  refine c0 (hk0) ?_
  repeat' (first|refine st ?_|refine u0 ?_|refine u1 ?_|refine u2 ?_|refine u3 ?_|refine u4 ?_|refine u5 ?_|refine u6 ?_|refine u7 ?_|refine u8 ?_|refine u9 ?_|(refine Br.mk ?_ ?_<;>intro hc)|(refine An.mk ?_;intro x hx))
  · rfl
  have h := (h0.resolve_left (by omega)).1
  have hk1 := k_sLargestConsistent l n h
  have hk2 := k_LargestConsistent l n h
  by_cases hg : areRows l n = true ∧ l.length ≤ 8
  · have hS : Bnd.ok (largeL l n) := ok_ints (by
      have h2 := lcG_len (l := l) (n := n) (k := 2 ^ l.length) (m := 0) (b := []) (by simp)
      rw [largeL, if_pos hg]
      omega)
    rw [if_pos hg] at hk2
    generalize largeL l n = s at *
    have hQ_l := cn_RowS h
    have hQ_s := ok_len hS
    have hM_s := (mk_len (1) s.length).symm
    repeat' (first|refine st ?_|refine u0 ?_|refine u1 ?_|refine u2 ?_|refine u3 ?_|refine u4 ?_|refine u5 ?_|refine u6 ?_|refine u7 ?_|refine u8 ?_|refine u9 ?_|(apply i_ca;first|(apply i_f 28;refine c0 (hk1) ?_)|(apply i_f 26;refine c0 (hk2) ?_)|(apply i_f 33;refine c0 (to_RowS l h) ?_)|(apply i_f 34;refine c0 (eq_RowS l l h) ?_)|(apply i_f 46;refine ci (mark_RowS l (1) h (by omega)) ?_ ?_)|(apply i_f 45;refine c0 (eq_IntS s s hS) ?_)|(apply i_f 47;refine ci (mark_IntS s (1) (by omega) (by omega)) ?_ ?_)|(apply i_f 48;refine c0 (held_IntS s.length (1) (by omega) (by omega)) ?_))|(refine Br.mk ?_ ?_<;>intro hc)|(refine An.mk ?_;intro x hx))
    all_goals first | rfl | exact mkS_len _ _ | exact mk_len _ _ | exact absurd rfl hc | exact absurd hc (by decide)
  · rw [if_neg hg] at hk2
    have hs : largeL l n = [] := by rw [largeL, if_neg hg]
    rw [hs] at hk1
    have hQ_l := cn_RowS h
    have heN0 := eq_IntS [] [] ok_nilL
    have hhN0 := held_IntS 0 (1) (by omega) (by omega)
    repeat' (first|refine st ?_|refine u0 ?_|refine u1 ?_|refine u2 ?_|refine u3 ?_|refine u4 ?_|refine u5 ?_|refine u6 ?_|refine u7 ?_|refine u8 ?_|refine u9 ?_|(apply i_ca;first|(apply i_f 28;refine c0 (hk1) ?_)|(apply i_f 26;refine c0 (hk2) ?_)|(apply i_f 33;refine c0 (to_RowS l h) ?_)|(apply i_f 34;refine c0 (eq_RowS l l h) ?_)|(apply i_f 46;refine ci (mark_RowS l (1) h (by omega)) ?_ ?_)|(apply i_f 45;refine c0 (heN0) ?_)|(apply i_f 48;refine c0 (hhN0) ?_)|(apply i_f 47;refine ci0 (markN_IntS (1)) ?_))|(refine Br.mk ?_ ?_<;>intro hc)|(refine An.mk ?_;intro x hx))
    all_goals first | rfl | exact mkS_len _ _ | exact mk_len _ _ | exact absurd rfl hc | exact absurd hc (by decide)
end Go.Am
