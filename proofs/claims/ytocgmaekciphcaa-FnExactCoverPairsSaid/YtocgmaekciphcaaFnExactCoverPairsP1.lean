/-
  Contracts of functions that the law reaches.
-/
import Derived.Test.YtocgmaekciphcaaFnExactCoverPairsP0
set_option linter.all false
set_option maxHeartbeats 1000000
set_option synthInstance.maxSize 1000
namespace Go.Am
attribute [local irreducible] snapB roT giveB okD free packB
theorem k_sCoverPairs (n : Int) (a : List (List Bool)) (ha : Bnd.ok a) : CALLB Γ T 29 [] [eO n a] = some (oL 1 oI (coverL n a), []) := by
  have hO := k_sIsOrder n a ha
  by_cases ho : isOrder n a = true
  · rw [ho] at hO
    obtain ⟨hn1, hn5, hal, har⟩ := isOrder_n ho
    have hR : covAll a (List.range a.length) = coverL n a := by rw [coverL, if_pos ho]
    apply call_ro' rfl rfl rfl rfl
    repeat' (first|refine st ?_|refine u0 ?_|refine u1 ?_|refine u2 ?_|refine u3 ?_|refine u4 ?_|refine u5 ?_|refine u6 ?_|refine u7 ?_|refine u8 ?_|refine u9 ?_|refine u10 ?_|refine u11 ?_|refine v0 ?_|refine v2 ?_|refine v3 ?_|refine v4 ?_|(refine Br.mk ?_ ?_<;>intro hc<;>try contradiction)|(refine An.mk ?_;intro x hx))
    refine wp_upto (a.length) (fun r g => g ++ covAll a r) (fun i (g : List (List Int)) => ⟨envA [(1, .hp 0 0), (3, .hs 1 0 (g).length (g).length), (4, .i (i : Nat))], heapA [some ⟨2, [.st [.i n, eL eB a]], false⟩, some ⟨1, (g).map oI, false⟩], 2, false⟩) ([]) (coverL n a) nm ?_ ?_ ?_
    · rw [← hR]; rfl
    · intro i g hi hF
      repeat' (first|refine st ?_|refine u0 ?_|refine u1 ?_|refine u2 ?_|refine u3 ?_|refine u4 ?_|refine u5 ?_|refine u6 ?_|refine u7 ?_|refine u8 ?_|refine u9 ?_|refine u10 ?_|refine u11 ?_|refine v0 ?_|refine v2 ?_|refine v3 ?_|refine v4 ?_|(apply i_ca;first|(apply i_f 14;refine c0 (hO) ?_))|(refine Br.mk ?_ ?_<;>intro hc<;>try contradiction)|(refine An.mk ?_;intro x hx))
      refine wp_upto (a.length) (fun r g => g ++ covRow a i r ++ covAll a ((List.range a.length).drop (i + 1))) (fun k (g : List (List Int)) => ⟨envA [(1, .hp 0 0), (3, .hs 1 0 (g).length (g).length), (4, .i (i : Nat)), (5, .i (k : Nat))], heapA [some ⟨2, [.st [.i n, eL eB a]], false⟩, some ⟨1, (g).map oI, false⟩], 2, false⟩) (g) (coverL n a) nm ?_ ?_ ?_
      · rw [← hF]; simp [covAll]
      · intro k g hk hF
        obtain ⟨ri, hri, _, hli⟩ := row_of har hi
        obtain ⟨b1, hb1⟩ := cell_of (r := ri) (j := k) (by omega)
        repeat' (first|refine st ?_|refine u0 ?_|refine u1 ?_|refine u2 ?_|refine u3 ?_|refine u4 ?_|refine u5 ?_|refine u6 ?_|refine u7 ?_|refine u8 ?_|refine u9 ?_|refine u10 ?_|refine u11 ?_|refine v0 ?_|refine v2 ?_|refine v3 ?_|refine v4 ?_|(refine Br.mk ?_ ?_<;>intro hc<;>try contradiction)|(refine An.mk ?_;intro x hx))
        refine wp_upto (a.length) (fun r c => c && r.all (fun m => !(at2 a i m && at2 a m k))) (fun m (c : Bool) => ⟨envA [(1, .hp 0 0), (3, .hs 1 0 (g).length (g).length), (4, .i (i : Nat)), (5, .i (k : Nat)), (6, .b c), (7, .i (m : Nat))], heapA [some ⟨2, [.st [.i n, eL eB a]], false⟩, some ⟨1, (g).map oI, false⟩], 2, false⟩) (b1) (covB a i k) nm ?_ ?_ ?_
        · rw [covB, at2_of hri hb1]
        · intro m c hm hF
          obtain ⟨rm, hrm, _, hlm⟩ := row_of har hm
          obtain ⟨b2, hb2⟩ := cell_of (r := ri) (j := m) (by omega)
          obtain ⟨b3, hb3⟩ := cell_of (r := rm) (j := k) (by omega)
          simp only [List.all_cons, at2_of hri hb2, at2_of hrm hb3] at hF
          repeat' (first|refine st ?_|refine u0 ?_|refine u1 ?_|refine u2 ?_|refine u3 ?_|refine u4 ?_|refine u5 ?_|refine u6 ?_|refine u7 ?_|refine u8 ?_|refine u9 ?_|refine u10 ?_|refine u11 ?_|refine v0 ?_|refine v2 ?_|refine v3 ?_|refine v4 ?_|(refine Br.mk ?_ ?_<;>intro hc<;>try contradiction)|(refine An.mk ?_;intro x hx))
          all_goals first | exact ea_n (!b3) (by rw [← hF]; simp [*]) nm | exact ea_n true (by rw [← hF]; simp [*]) nm | exact ea_n false (by rw [← hF]; simp [*]) nm
        · intro c hF2
          have hcb : covB a i k = c := by rw [← hF2]; simp
          have hgl : g.length ≤ 25 := by
            have h1 := congrArg List.length hF
            have h2 := covAll_len (a := a) (r := List.range a.length)
            rw [hR] at h2
            rw [List.length_range] at h2
            have h3 : a.length * a.length ≤ 5 * 5 := Nat.mul_le_mul (by omega) (by omega)
            simp only [List.length_append] at h1
            omega
          repeat' (first|refine st ?_|refine u0 ?_|refine u1 ?_|refine u2 ?_|refine u3 ?_|refine u4 ?_|refine u5 ?_|refine u6 ?_|refine u7 ?_|refine u8 ?_|refine u9 ?_|refine u10 ?_|refine u11 ?_|refine v0 ?_|refine v2 ?_|refine v3 ?_|refine v4 ?_|(refine Br.mk ?_ ?_<;>intro hc<;>try contradiction)|(refine An.mk ?_;intro x hx))
          · exact ea_n (g ++ [[(i : Int), (k : Int)]]) (by rw [← hF]; simp [covRow, hcb, hc]) nm
          · exact ea_n g (by rw [← hF]; simp [covRow, hcb, hc]) nm
      · intro g hF
        repeat' (first|refine st ?_|refine u0 ?_|refine u1 ?_|refine u2 ?_|refine u3 ?_|refine u4 ?_|refine u5 ?_|refine u6 ?_|refine u7 ?_|refine u8 ?_|refine u9 ?_|refine u10 ?_|refine u11 ?_|refine v0 ?_|refine v2 ?_|refine v3 ?_|refine v4 ?_|(refine Br.mk ?_ ?_<;>intro hc<;>try contradiction)|(refine An.mk ?_;intro x hx))
        exact ea_n g (by rw [← hF]; simp [covRow]) nm
    · intro g hF
      repeat' (first|refine st ?_|refine u0 ?_|refine u1 ?_|refine u2 ?_|refine u3 ?_|refine u4 ?_|refine u5 ?_|refine u6 ?_|refine u7 ?_|refine u8 ?_|refine u9 ?_|refine u10 ?_|refine u11 ?_|refine v0 ?_|refine v2 ?_|refine v3 ?_|refine v4 ?_|(refine Br.mk ?_ ?_<;>intro hc<;>try contradiction)|(refine An.mk ?_;intro x hx))
      rw [← hF]; simp [covAll]
  · have ho' : isOrder n a = false := by simpa using ho
    rw [ho'] at hO
    have hR : coverL n a = [] := by rw [coverL, if_neg ho]
    rw [hR]
    apply call_ro' rfl rfl rfl rfl
    repeat' (first|refine st ?_|refine u0 ?_|refine u1 ?_|refine u2 ?_|refine u3 ?_|refine u4 ?_|refine u5 ?_|refine u6 ?_|refine u7 ?_|refine u8 ?_|refine u9 ?_|refine u10 ?_|refine u11 ?_|refine v0 ?_|refine v2 ?_|refine v3 ?_|refine v4 ?_|(refine Br.mk ?_ ?_<;>intro hc<;>try contradiction)|(refine An.mk ?_;intro x hx))
    refine wp_while (fun (_ : Unit) => ⟨envA [(1, .hp 0 0), (3, .hs 1 0 (([] : List (List Int))).length (([] : List (List Int))).length), (4, .i 0)], heapA [some ⟨2, [.st [.i n, eL eB a]], false⟩, some ⟨1, (([] : List (List Int))).map oI, false⟩], 2, false⟩) (fun (_ : Unit) => True) (fun (_ : Unit) => 0) (()) nm ?_ ?_
    · trivial
    · intro _ _
      repeat' (first|refine st ?_|refine u0 ?_|refine u1 ?_|refine u2 ?_|refine u3 ?_|refine u4 ?_|refine u5 ?_|refine u6 ?_|refine u7 ?_|refine u8 ?_|refine u9 ?_|refine u10 ?_|refine u11 ?_|refine v0 ?_|refine v2 ?_|refine v3 ?_|refine v4 ?_|(apply i_ca;first|(apply i_f 14;refine c0 (hO) ?_))|(refine Br.mk ?_ ?_<;>intro hc<;>try contradiction)|(refine An.mk ?_;intro x hx))
      all_goals rfl
theorem law_FnExactCoverPairs (a : Int × List (List Bool)) (ha : Bnd.wf a) : CALLB Γ T 7 [] [eOrder a] = some (.b true, []) := by
  obtain ⟨t0, hk0, m0, rfl, h0⟩ := sz_Order a 1048576 (by omega) (by omega) ha
  apply call_ro' rfl rfl rfl rfl
  (try refine st ?_)
  refine c0 (hk0) ?_
  repeat' (first|refine st ?_|refine u0 ?_|refine u1 ?_|refine u2 ?_|refine u3 ?_|refine u4 ?_|refine u5 ?_|refine u6 ?_|refine u7 ?_|refine u8 ?_|refine u9 ?_|(refine Br.mk ?_ ?_<;>intro hc)|(refine An.mk ?_;intro x hx))
  · rfl
  have h := (h0.resolve_left (by omega)).1
  have hk1 := k_sCoverPairs a.1 a.2 h.2
  have hk2 := k_CoverPairs a.1 a.2 h.2
  by_cases hg : isOrder a.1 a.2 = true
  · have hS : Bnd.ok (coverL a.1 a.2) := by
      obtain ⟨hn1, hn5, hal, har⟩ := isOrder_n hg
      rw [coverL, if_pos hg]
      have h2 := covAll_len (a := a.2) (r := List.range a.2.length)
      rw [List.length_range] at h2
      have h3 : a.2.length * a.2.length ≤ 5 * 5 := Nat.mul_le_mul (by omega) (by omega)
      refine ⟨by omega, fun x hx => ?_⟩
      obtain ⟨i, _, hx⟩ := List.mem_flatMap.1 hx
      obtain ⟨k, _, rfl⟩ := List.mem_map.1 hx
      exact ok_ints (by simp)
    rw [if_pos hg] at hk2
    generalize coverL a.1 a.2 = s at *
    have hQ_a := cn_BoolSS h.2
    have hQ_s := cn_IntSS hS
    have hM_s : s.length = (mkIntSS (1) s).length := (mkS_len _ _).symm
    repeat' (first|refine st ?_|refine u0 ?_|refine u1 ?_|refine u2 ?_|refine u3 ?_|refine u4 ?_|refine u5 ?_|refine u6 ?_|refine u7 ?_|refine u8 ?_|refine u9 ?_|(apply i_ca;first|(apply i_f 29;refine c0 (hk1) ?_)|(apply i_f 30;refine c0 (hk2) ?_)|(apply i_f 11;refine c0 (to_Order a h) ?_)|(apply i_f 13;refine c0 (eq_Order a a h) ?_)|(apply i_f 32;refine ciO (mark_Order a.1 a.2 (1) h.2 (by omega)) ?_ ?_)|(apply i_f 31;refine c0 (eq_IntSS s s hS) ?_)|(apply i_f 33;refine ci (mark_IntSS s (1) hS (by omega)) ?_ ?_)|(apply i_f 34;refine c0 (held_IntSS s (1) hS (by omega)) ?_))|(refine Br.mk ?_ ?_<;>intro hc)|(refine An.mk ?_;intro x hx))
    all_goals first | rfl | exact mkS_len _ _ | exact mk_len _ _ | exact absurd rfl hc | exact absurd hc (by decide)
  · rw [if_neg hg] at hk2
    have hs : coverL a.1 a.2 = [] := by rw [coverL, if_neg hg]
    rw [hs] at hk1
    have hQ_a := cn_BoolSS h.2
    have heN0 := eq_IntSS [] [] ok_nilL
    have hhN0 := held_IntSS [] (1) ok_nilL (by omega)
    repeat' (first|refine st ?_|refine u0 ?_|refine u1 ?_|refine u2 ?_|refine u3 ?_|refine u4 ?_|refine u5 ?_|refine u6 ?_|refine u7 ?_|refine u8 ?_|refine u9 ?_|(apply i_ca;first|(apply i_f 29;refine c0 (hk1) ?_)|(apply i_f 30;refine c0 (hk2) ?_)|(apply i_f 11;refine c0 (to_Order a h) ?_)|(apply i_f 13;refine c0 (eq_Order a a h) ?_)|(apply i_f 32;refine ciO (mark_Order a.1 a.2 (1) h.2 (by omega)) ?_ ?_)|(apply i_f 31;refine c0 (heN0) ?_)|(apply i_f 34;refine c0 (hhN0) ?_)|(apply i_f 33;refine ci0 (markN_IntSS (1)) ?_))|(refine Br.mk ?_ ?_<;>intro hc)|(refine An.mk ?_;intro x hx))
    all_goals first | rfl | exact mkS_len _ _ | exact mk_len _ _ | exact absurd rfl hc | exact absurd hc (by decide)
end Go.Am
