/-
  Contracts of functions that the law reaches.
-/
import Derived.Test.YtocgmaekciphcaaFnExactOrderOfP0
set_option linter.all false
set_option maxHeartbeats 1000000
set_option synthInstance.maxSize 1000
namespace Go.Am
attribute [local irreducible] snapB roT giveB okD free packB
theorem k_OrderOf (n : Int) (ps : List (List Int)) (h : Bnd.ok ps) : CALLB Γ T 38 [] [.i n, eL eI ps] = some (ordV (orderOf n ps), []) := by
  have hle := ok_len h
  generalize hW : ordV (orderOf n ps) = W
  by_cases hn : 1 ≤ n ∧ n ≤ 5
  · obtain ⟨m, rfl⟩ : ∃ m : Nat, n = (m : Nat) := ⟨n.toNat, by omega⟩
    have hm : 1 ≤ m ∧ m ≤ 5 := by omega
    have hw0 : CALLB Γ T 47 [] [.i (m : Nat), .i 1, .i 5] = some (.b true, []) := by rw [k_within]; simp [hn]
    generalize hR : addP m (noOrd m) ps = R
    have hW0 : R = none → W = .tu [.st [.i 0, .e0], .b false] := by intro hr; rw [← hW, orderOf, if_pos hn, Int.toNat_natCast, hR, hr]; rfl
    have hW1 : ∀ g, R = some g → isOrder m (clK m g (List.range m)) = true → W = .tu [oOrder ((m : Int), clK m g (List.range m)), .b true] := by
      intro g hr ho; rw [← hW, orderOf, if_pos hn, Int.toNat_natCast, hR, hr, Option.bind_some, if_pos ho]
    have hW2 : ∀ g, R = some g → isOrder m (clK m g (List.range m)) = false → W = .tu [.st [.i 0, .e0], .b false] := by
      intro g hr ho; rw [← hW, orderOf, if_pos hn, Int.toNat_natCast, hR, hr, Option.bind_some, if_neg (by simp [ho])]
    clear hW
    apply call_ro' rfl rfl rfl rfl
    repeat' (first|refine st ?_|refine u0 ?_|refine u1 ?_|refine u2 ?_|refine u3 ?_|refine u4 ?_|refine u5 ?_|refine u6 ?_|refine u7 ?_|refine u8 ?_|refine u9 ?_|refine u10 ?_|refine u11 ?_|refine v0 ?_|refine v2 ?_|refine v3 ?_|refine v4 ?_|refine x1 ?_|refine x2 ?_|(apply i_ca;first|(apply i_f 47;refine c0 (hw0) ?_)|(apply i_f 67;refine c0 (k_noOrder m hm) ?_))|(refine Br.mk ?_ ?_<;>intro hc<;>try contradiction)|(refine An.mk ?_;intro x hx))
    refine wp_while (fun (x : Nat × List (List Bool)) => ⟨envA [(0, .i (m : Nat)), (4, .hp 0 0), (6, .hp 1 0), (18, eL eI ps), (19, .i ps.length), (20, .i (x.1 : Nat))], heapA [some ⟨2, [.st [.i 0, .e0]], false⟩, some ⟨2, [.st [.i (m : Nat), oL 1 oB x.2]], false⟩], 2, false⟩) (fun (x : Nat × List (List Bool)) => x.1 ≤ ps.length ∧ Sh m x.2 ∧ addP m x.2 (ps.drop x.1) = R) (fun (x : Nat × List (List Bool)) => ps.length - x.1) ((0, noOrd m)) nm ?_ ?_
    · exact ⟨Nat.zero_le _, sh_no m, hR⟩
    · rintro ⟨i, g⟩ ⟨h1, h2, h3⟩
      dsimp only at h1 h2 h3 ⊢
      have hgl : g.length = m := h2.1
      by_cases hi : i < ps.length
      · obtain ⟨p, hp⟩ : ∃ p, ps[i]? = some p := ⟨_, List.getElem?_eq_getElem hi⟩
        have hd : ps.drop i = p :: ps.drop (i + 1) := by
          rw [List.drop_eq_getElem_cons hi]; congr 1; exact (List.getElem?_eq_some_iff.1 hp).2
        rw [hd] at h3
        have hpl := ok_len (ok_mem h (List.mem_of_getElem? hp))
        by_cases hl : p.length = 2
        · obtain ⟨a, b, rfl⟩ := pr_two hl
          have e0 : ([a, b] : List Int)[(0 : Int).toNat]? = some a := rfl
          have e1 : ([a, b] : List Int)[(1 : Int).toNat]? = some b := rfl
          by_cases ha : 0 ≤ a ∧ a ≤ (m : Int) - 1
          · have hwa : CALLB Γ T 47 [] [.i a, .i 0, .i ((m : Int) - 1)] = some (.b true, []) := by rw [k_within]; simp [ha]
            by_cases hb : 0 ≤ b ∧ b ≤ (m : Int) - 1
            · have hwb : CALLB Γ T 47 [] [.i b, .i 0, .i ((m : Int) - 1)] = some (.b true, []) := by rw [k_within]; simp [hb]
              have h4 : addP m (setBit g a.toNat b.toNat) (ps.drop (i + 1)) = R := by simpa only [addP, prG, if_pos ha, if_pos hb] using h3
              obtain ⟨a, rfl⟩ : ∃ x : Nat, a = (x : Nat) := ⟨a.toNat, by omega⟩
              obtain ⟨b, rfl⟩ : ∃ x : Nat, b = (x : Nat) := ⟨b.toNat, by omega⟩
              simp only [Int.toNat_natCast] at h4
              have ha' : a < m := by omega
              have hb' : b < m := by omega
              obtain ⟨ra, hra, hral⟩ := sh_row h2 ha'
              rw [setBit_of hra] at h4
              repeat' (first|refine st ?_|refine u0 ?_|refine u1 ?_|refine u2 ?_|refine u3 ?_|refine u4 ?_|refine u5 ?_|refine u6 ?_|refine u7 ?_|refine u8 ?_|refine u9 ?_|refine u10 ?_|refine u11 ?_|refine v0 ?_|refine v2 ?_|refine v3 ?_|refine v4 ?_|refine x1 ?_|refine x2 ?_|(apply i_ca;first|(apply i_f 47;refine c0 (hwa) ?_)|(apply i_f 47;refine c0 (hwb) ?_))|(refine Br.mk ?_ ?_<;>intro hc<;>try contradiction)|(refine An.mk ?_;intro x hx))
              exact lp_n (i + 1, g.set a (ra.set b true)) (by show ps.length - (i + 1) < ps.length - i; omega) ⟨hi, sh_set h2 (by simpa using hral), h4⟩ nmx
            · have hwb : CALLB Γ T 47 [] [.i b, .i 0, .i ((m : Int) - 1)] = some (.b false, []) := by rw [k_within]; simp only [hb, decide_false]
              have hr := hW0 (add_no h3 (by simp only [prG, if_neg hb]; split <;> rfl))
              subst hr
              repeat' (first|refine st ?_|refine u0 ?_|refine u1 ?_|refine u2 ?_|refine u3 ?_|refine u4 ?_|refine u5 ?_|refine u6 ?_|refine u7 ?_|refine u8 ?_|refine u9 ?_|refine u10 ?_|refine u11 ?_|refine v0 ?_|refine v2 ?_|refine v3 ?_|refine v4 ?_|refine x1 ?_|refine x2 ?_|(apply i_ca;first|(apply i_f 47;refine c0 (hwa) ?_)|(apply i_f 47;refine c0 (hwb) ?_))|(refine Br.mk ?_ ?_<;>intro hc<;>try contradiction)|(refine An.mk ?_;intro x hx))
              exact ⟨⟨rfl, trivial, trivial⟩, rfl, trivial⟩
          · have hwa : CALLB Γ T 47 [] [.i a, .i 0, .i ((m : Int) - 1)] = some (.b false, []) := by rw [k_within]; simp only [ha, decide_false]
            have hr := hW0 (add_no h3 (by simp only [prG, if_neg ha]))
            subst hr
            repeat' (first|refine st ?_|refine u0 ?_|refine u1 ?_|refine u2 ?_|refine u3 ?_|refine u4 ?_|refine u5 ?_|refine u6 ?_|refine u7 ?_|refine u8 ?_|refine u9 ?_|refine u10 ?_|refine u11 ?_|refine v0 ?_|refine v2 ?_|refine v3 ?_|refine v4 ?_|refine x1 ?_|refine x2 ?_|(apply i_ca;first|(apply i_f 47;refine c0 (hwa) ?_))|(refine Br.mk ?_ ?_<;>intro hc<;>try contradiction)|(refine An.mk ?_;intro x hx))
            exact ⟨⟨rfl, trivial, trivial⟩, rfl, trivial⟩
        · have hr := hW0 (add_no h3 (pr_len hl))
          subst hr
          have hl2 : ((p.length : Nat) : Int) ≠ 2 := by omega
          repeat' (first|refine st ?_|refine u0 ?_|refine u1 ?_|refine u2 ?_|refine u3 ?_|refine u4 ?_|refine u5 ?_|refine u6 ?_|refine u7 ?_|refine u8 ?_|refine u9 ?_|refine u10 ?_|refine u11 ?_|refine v0 ?_|refine v2 ?_|refine v3 ?_|refine v4 ?_|refine x1 ?_|refine x2 ?_|(refine Br.mk ?_ ?_<;>intro hc<;>try contradiction)|(refine An.mk ?_;intro x hx))
          all_goals first | exact ⟨⟨rfl, trivial, trivial⟩, rfl, trivial⟩ | exact ⟨⟨rfl, rfl, trivial⟩, rfl, trivial⟩
      · have hz : i = ps.length := by omega
        subst hz
        rw [List.drop_length] at h3
        have hRg : R = some g := h3.symm
        have hW1' := hW1 g hRg
        have hW2' := hW2 g hRg
        clear hW0 hW1 hW2 h3 hR hRg
        generalize hR1 : clK m g (List.range m) = R1 at hW1' hW2'
        repeat' (first|refine st ?_|refine u0 ?_|refine u1 ?_|refine u2 ?_|refine u3 ?_|refine u4 ?_|refine u5 ?_|refine u6 ?_|refine u7 ?_|refine u8 ?_|refine u9 ?_|refine u10 ?_|refine u11 ?_|refine v0 ?_|refine v2 ?_|refine v3 ?_|refine v4 ?_|refine x1 ?_|refine x2 ?_|(refine Br.mk ?_ ?_<;>intro hc<;>try contradiction)|(refine An.mk ?_;intro x hx))
        refine wp_while (fun (x : Nat × List (List Bool)) => ⟨envA [(0, .i (m : Nat)), (4, .hp 0 0), (6, .hp 1 0), (58, .i (m : Nat)), (59, .i (x.1 : Nat))], heapA [some ⟨2, [.st [.i 0, .e0]], false⟩, some ⟨2, [.st [.i (m : Nat), oL 1 oB x.2]], false⟩], 2, false⟩) (fun (x : Nat × List (List Bool)) => x.1 ≤ m ∧ Sh m x.2 ∧ clK m x.2 ((List.range m).drop x.1) = R1) (fun (x : Nat × List (List Bool)) => m - x.1) ((0, g)) nm ?_ ?_
        · exact ⟨Nat.zero_le _, h2, hR1⟩
        · clear hR1
          rintro ⟨k, g⟩ ⟨h1, h2, h3⟩
          dsimp only at h1 h2 h3 ⊢
          have hgl : g.length = m := h2.1
          by_cases hk : k < m
          · have h4 := nx_K hk h3
            generalize hR2 : clI m k g (List.range m) = R2 at h4
            repeat' (first|refine st ?_|refine u0 ?_|refine u1 ?_|refine u2 ?_|refine u3 ?_|refine u4 ?_|refine u5 ?_|refine u6 ?_|refine u7 ?_|refine u8 ?_|refine u9 ?_|refine u10 ?_|refine u11 ?_|refine v0 ?_|refine v2 ?_|refine v3 ?_|refine v4 ?_|refine x1 ?_|refine x2 ?_|(refine Br.mk ?_ ?_<;>intro hc<;>try contradiction)|(refine An.mk ?_;intro x hx))
            refine wp_while (fun (x : Nat × List (List Bool)) => ⟨envA [(0, .i (m : Nat)), (4, .hp 0 0), (6, .hp 1 0), (9, .i (k : Nat)), (58, .i (m : Nat)), (59, .i (k : Nat)), (62, .i (m : Nat)), (63, .i (x.1 : Nat))], heapA [some ⟨2, [.st [.i 0, .e0]], false⟩, some ⟨2, [.st [.i (m : Nat), oL 1 oB x.2]], false⟩], 2, false⟩) (fun (x : Nat × List (List Bool)) => x.1 ≤ m ∧ Sh m x.2 ∧ clI m k x.2 ((List.range m).drop x.1) = R2) (fun (x : Nat × List (List Bool)) => m - x.1) ((0, g)) nm ?_ ?_
            · exact ⟨Nat.zero_le _, h2, hR2⟩
            · clear hR2 h3 h2 hgl
              rintro ⟨i, g⟩ ⟨h1, h2, h3⟩
              dsimp only at h1 h2 h3 ⊢
              have hgl : g.length = m := h2.1
              by_cases hi : i < m
              · have h5 := nx_I hi h3
                generalize hR3 : clJ k i g (List.range m) = R3 at h5
                repeat' (first|refine st ?_|refine u0 ?_|refine u1 ?_|refine u2 ?_|refine u3 ?_|refine u4 ?_|refine u5 ?_|refine u6 ?_|refine u7 ?_|refine u8 ?_|refine u9 ?_|refine u10 ?_|refine u11 ?_|refine v0 ?_|refine v2 ?_|refine v3 ?_|refine v4 ?_|refine x1 ?_|refine x2 ?_|(refine Br.mk ?_ ?_<;>intro hc<;>try contradiction)|(refine An.mk ?_;intro x hx))
                refine wp_while (fun (x : Nat × List (List Bool)) => ⟨envA [(0, .i (m : Nat)), (4, .hp 0 0), (6, .hp 1 0), (9, .i (k : Nat)), (10, .i (i : Nat)), (58, .i (m : Nat)), (59, .i (k : Nat)), (62, .i (m : Nat)), (63, .i (i : Nat)), (66, .i (m : Nat)), (67, .i (x.1 : Nat))], heapA [some ⟨2, [.st [.i 0, .e0]], false⟩, some ⟨2, [.st [.i (m : Nat), oL 1 oB x.2]], false⟩], 2, false⟩) (fun (x : Nat × List (List Bool)) => x.1 ≤ m ∧ Sh m x.2 ∧ clJ k i x.2 ((List.range m).drop x.1) = R3) (fun (x : Nat × List (List Bool)) => m - x.1) ((0, g)) nm ?_ ?_
                · exact ⟨Nat.zero_le _, h2, hR3⟩
                · clear hR3 h3 h2 hgl
                  rintro ⟨j, g⟩ ⟨h1, h2, h3⟩
                  dsimp only at h1 h2 h3 ⊢
                  have hgl : g.length = m := h2.1
                  by_cases hj : j < m
                  · obtain ⟨ri, hri, hrl⟩ := sh_row h2 hi
                    obtain ⟨b1, hb1⟩ := sh_cell hrl hj
                    obtain ⟨b2, hb2⟩ := sh_cell hrl hk
                    have e1 : at2 g i k = b2 := at2_of hri hb2
                    have e3 : setBit g i j = g.set i (ri.set j true) := setBit_of hri
                    have e4 : g.set i ri = g := set_same hri
                    have e5 : ri.set j b1 = ri := set_same hb1
                    have hme : m - (j + 1) < m - j := by omega
                    by_cases hik : i = k
                    · subst hik
                      have e2 : at2 g i j = b1 := at2_of hri hb1
                      cases b1 <;> cases b2
                      all_goals repeat' (first|refine st ?_|refine u0 ?_|refine u1 ?_|refine u2 ?_|refine u3 ?_|refine u4 ?_|refine u5 ?_|refine u6 ?_|refine u7 ?_|refine u8 ?_|refine u9 ?_|refine u10 ?_|refine u11 ?_|refine v0 ?_|refine v2 ?_|refine v3 ?_|refine v4 ?_|refine x1 ?_|refine x2 ?_|(refine Br.mk ?_ ?_<;>intro hc<;>try contradiction)|(refine An.mk ?_;intro x hx))
                      all_goals first | exact lp_n (j + 1, g.set i (ri.set j true)) hme (inv_J (by simp only [stG, e1, e2, e3, e4, e5, Bool.and_true, Bool.and_false, Bool.and_self, if_true, if_false, Bool.false_eq_true, reduceIte]) h2 hi hj h3) nmx | exact lp_n (j + 1, g.set i (ri.set j false)) hme (inv_J (by simp only [stG, e1, e2, e3, e4, e5, Bool.and_true, Bool.and_false, Bool.and_self, if_true, if_false, Bool.false_eq_true, reduceIte]) h2 hi hj h3) nmx
                    · obtain ⟨rk, hrk, hrkl⟩ := sh_row h2 hk
                      obtain ⟨b3, hb3⟩ := sh_cell hrkl hj
                      have e2 : at2 g k j = b3 := at2_of hrk hb3
                      have e6 : ∀ r, (g.set i r).set k rk = g.set i r := fun r => set_same2 hrk hik
                      have e7 : g.set k rk = g := set_same hrk
                      have hlt : i < k ∨ k < i := by omega
                      rcases hlt with hlt | hlt
                      all_goals (cases b1 <;> cases b2 <;> cases b3)
                      all_goals repeat' (first|refine st ?_|refine u0 ?_|refine u1 ?_|refine u2 ?_|refine u3 ?_|refine u4 ?_|refine u5 ?_|refine u6 ?_|refine u7 ?_|refine u8 ?_|refine u9 ?_|refine u10 ?_|refine u11 ?_|refine v0 ?_|refine v2 ?_|refine v3 ?_|refine v4 ?_|refine x1 ?_|refine x2 ?_|(refine Br.mk ?_ ?_<;>intro hc<;>try contradiction)|(refine An.mk ?_;intro x hx))
                      all_goals first | exact lp_n (j + 1, g.set i (ri.set j true)) hme (inv_J (by simp only [stG, e1, e2, e3, e4, e5, e6, e7, Bool.and_true, Bool.and_false, Bool.and_self, if_true, if_false, Bool.false_eq_true, reduceIte]) h2 hi hj h3) nmx | exact lp_n (j + 1, g.set i (ri.set j false)) hme (inv_J (by simp only [stG, e1, e2, e3, e4, e5, e6, e7, Bool.and_true, Bool.and_false, Bool.and_self, if_true, if_false, Bool.false_eq_true, reduceIte]) h2 hi hj h3) nmx | exact lp_n (j + 1, (g.set i (ri.set j true)).set k rk) hme (inv_J (by simp only [stG, e1, e2, e3, e4, e5, e6, e7, Bool.and_true, Bool.and_false, Bool.and_self, if_true, if_false, Bool.false_eq_true, reduceIte]) h2 hi hj h3) nmx | exact lp_n (j + 1, (g.set i (ri.set j false)).set k rk) hme (inv_J (by simp only [stG, e1, e2, e3, e4, e5, e6, e7, Bool.and_true, Bool.and_false, Bool.and_self, if_true, if_false, Bool.false_eq_true, reduceIte]) h2 hi hj h3) nmx
                  · have hg := end_J hj h3
                    subst hg
                    repeat' (first|refine st ?_|refine u0 ?_|refine u1 ?_|refine u2 ?_|refine u3 ?_|refine u4 ?_|refine u5 ?_|refine u6 ?_|refine u7 ?_|refine u8 ?_|refine u9 ?_|refine u10 ?_|refine u11 ?_|refine v0 ?_|refine v2 ?_|refine v3 ?_|refine v4 ?_|refine x1 ?_|refine x2 ?_|(refine Br.mk ?_ ?_<;>intro hc<;>try contradiction)|(refine An.mk ?_;intro x hx))
                    exact lp_n (i + 1, g) (by show m - (i + 1) < m - i; omega) ⟨hi, h2, h5⟩ nmx
              · have hg := end_I hi h3
                subst hg
                repeat' (first|refine st ?_|refine u0 ?_|refine u1 ?_|refine u2 ?_|refine u3 ?_|refine u4 ?_|refine u5 ?_|refine u6 ?_|refine u7 ?_|refine u8 ?_|refine u9 ?_|refine u10 ?_|refine u11 ?_|refine v0 ?_|refine v2 ?_|refine v3 ?_|refine v4 ?_|refine x1 ?_|refine x2 ?_|(refine Br.mk ?_ ?_<;>intro hc<;>try contradiction)|(refine An.mk ?_;intro x hx))
                exact lp_n (k + 1, g) (by show m - (k + 1) < m - k; omega) ⟨hk, h2, h4⟩ nmx
          · have hg := end_K hk h3
            subst hg
            have hO := k_IsOrder m g (sh_ok h2 hm.2)
            by_cases ho : isOrder m g = true
            · rw [ho] at hO
              have hw := hW1' ho
              subst hw
              repeat' (first|refine st ?_|refine u0 ?_|refine u1 ?_|refine u2 ?_|refine u3 ?_|refine u4 ?_|refine u5 ?_|refine u6 ?_|refine u7 ?_|refine u8 ?_|refine u9 ?_|refine u10 ?_|refine u11 ?_|refine v0 ?_|refine v2 ?_|refine v3 ?_|refine v4 ?_|refine x1 ?_|refine x2 ?_|(apply i_ca;first|(apply i_f 15;refine c0 (hO) ?_))|(refine Br.mk ?_ ?_<;>intro hc<;>try contradiction)|(refine An.mk ?_;intro x hx))
              all_goals first | exact ⟨⟨rfl, trivial, trivial⟩, rfl, trivial⟩ | exact ⟨⟨rfl, rfl, trivial⟩, rfl, trivial⟩
            · have ho' : isOrder m g = false := by simpa using ho
              rw [ho'] at hO
              have hw := hW2' ho'
              subst hw
              repeat' (first|refine st ?_|refine u0 ?_|refine u1 ?_|refine u2 ?_|refine u3 ?_|refine u4 ?_|refine u5 ?_|refine u6 ?_|refine u7 ?_|refine u8 ?_|refine u9 ?_|refine u10 ?_|refine u11 ?_|refine v0 ?_|refine v2 ?_|refine v3 ?_|refine v4 ?_|refine x1 ?_|refine x2 ?_|(apply i_ca;first|(apply i_f 15;refine c0 (hO) ?_))|(refine Br.mk ?_ ?_<;>intro hc<;>try contradiction)|(refine An.mk ?_;intro x hx))
              exact ⟨⟨rfl, trivial, trivial⟩, rfl, trivial⟩
  · have hw0 : CALLB Γ T 47 [] [.i n, .i 1, .i 5] = some (.b false, []) := by rw [k_within]; simp only [hn, decide_false]
    have hr : W = .tu [.st [.i 0, .e0], .b false] := by rw [← hW, orderOf, if_neg hn]
    subst hr
    apply call_ro' rfl rfl rfl rfl
    repeat' (first|refine st ?_|refine u0 ?_|refine u1 ?_|refine u2 ?_|refine u3 ?_|refine u4 ?_|refine u5 ?_|refine u6 ?_|refine u7 ?_|refine u8 ?_|refine u9 ?_|refine u10 ?_|refine u11 ?_|refine v0 ?_|refine v2 ?_|refine v3 ?_|refine v4 ?_|refine x1 ?_|refine x2 ?_|(apply i_ca;first|(apply i_f 47;refine c0 (hw0) ?_))|(refine Br.mk ?_ ?_<;>intro hc<;>try contradiction)|(refine An.mk ?_;intro x hx))
    exact ⟨⟨rfl, trivial, trivial⟩, rfl, trivial⟩
theorem k_sOrderOf (n : Int) (ps : List (List Int)) (h : Bnd.ok ps) : CALLB Γ T 36 [] [.i n, eL eI ps] = some (ordV (orderOf n ps), []) := by
  have hle := ok_len h
  generalize hW : ordV (orderOf n ps) = W
  by_cases hn : 1 ≤ n ∧ n ≤ 5
  · obtain ⟨m, rfl⟩ : ∃ m : Nat, n = (m : Nat) := ⟨n.toNat, by omega⟩
    have hm : 1 ≤ m ∧ m ≤ 5 := by omega
    have hw0 : CALLB Γ T 46 [] [.i (m : Nat), .i 1, .i 5] = some (.b true, []) := by rw [k_l1In]; simp [hn]
    generalize hR : addP m (noOrd m) ps = R
    have hW0 : R = none → W = .tu [.st [.i 0, .e0], .b false] := by intro hr; rw [← hW, orderOf, if_pos hn, Int.toNat_natCast, hR, hr]; rfl
    have hW1 : ∀ g, R = some g → isOrder m (clK m g (List.range m)) = true → W = .tu [oOrder ((m : Int), clK m g (List.range m)), .b true] := by
      intro g hr ho; rw [← hW, orderOf, if_pos hn, Int.toNat_natCast, hR, hr, Option.bind_some, if_pos ho]
    have hW2 : ∀ g, R = some g → isOrder m (clK m g (List.range m)) = false → W = .tu [.st [.i 0, .e0], .b false] := by
      intro g hr ho; rw [← hW, orderOf, if_pos hn, Int.toNat_natCast, hR, hr, Option.bind_some, if_neg (by simp [ho])]
    clear hW
    apply call_ro' rfl rfl rfl rfl
    repeat' (first|refine st ?_|refine u0 ?_|refine u1 ?_|refine u2 ?_|refine u3 ?_|refine u4 ?_|refine u5 ?_|refine u6 ?_|refine u7 ?_|refine u8 ?_|refine u9 ?_|refine u10 ?_|refine u11 ?_|refine v0 ?_|refine v2 ?_|refine v3 ?_|refine v4 ?_|refine x1 ?_|refine x2 ?_|(apply i_ca;first|(apply i_f 46;refine c0 (hw0) ?_))|(refine Br.mk ?_ ?_<;>intro hc<;>try contradiction)|(refine An.mk ?_;intro x hx))
    refine wp_lp (wp_nm (s1 := ⟨envA [(0, .i (m : Nat)), (1, eL eI ps), (4, .hp 0 0), (6, .hp 1 0), (7, .i 0)], heapA [some ⟨2, [.st [.i 0, .e0]], false⟩, some ⟨2, [.st [.i (m : Nat), .e0]], false⟩], 2, false⟩) nm ?_)
    repeat' (first|refine st ?_|refine u0 ?_|refine u1 ?_|refine u2 ?_|refine u3 ?_|refine u4 ?_|refine u5 ?_|refine u6 ?_|refine u7 ?_|refine u8 ?_|refine u9 ?_|refine u10 ?_|refine u11 ?_|refine v0 ?_|refine v2 ?_|refine v3 ?_|refine v4 ?_|refine x1 ?_|refine x2 ?_|(refine Br.mk ?_ ?_<;>intro hc<;>try contradiction)|(refine An.mk ?_;intro x hx))
    have hrep : List.replicate m (V.im (Value.bool false)) = (List.replicate m false).map V.b := by rw [List.map_replicate]
    simp only [hrep]
    have hrl : m = (List.replicate m false).length := by simp
    refine wp_while (fun (x : Nat × List (List Bool)) => ⟨envA [(0, .i (m : Nat)), (1, eL eI ps), (4, .hp 0 0), (6, .hp 1 0), (7, .i (x.1 : Nat))], heapA [some ⟨2, [.st [.i 0, .e0]], false⟩, some ⟨2, [.st [.i (m : Nat), oL 1 oB x.2]], false⟩], 2, false⟩) (fun (x : Nat × List (List Bool)) => x.1 ≤ m ∧ x.2 = List.replicate x.1 (List.replicate m false)) (fun (x : Nat × List (List Bool)) => m - x.1) ((1, [List.replicate m false])) nm ?_ ?_
    · exact ⟨hm.1, rfl⟩
    · rintro ⟨i, g⟩ ⟨h1, h2⟩
      dsimp only at h1 h2 ⊢
      have hgl : g.length ≤ 5 := by rw [h2]; simp; omega
      by_cases hi : i < m
      · repeat' (first|refine st ?_|refine u0 ?_|refine u1 ?_|refine u2 ?_|refine u3 ?_|refine u4 ?_|refine u5 ?_|refine u6 ?_|refine u7 ?_|refine u8 ?_|refine u9 ?_|refine u10 ?_|refine u11 ?_|refine v0 ?_|refine v2 ?_|refine v3 ?_|refine v4 ?_|refine x1 ?_|refine x2 ?_|(refine Br.mk ?_ ?_<;>intro hc<;>try contradiction)|(refine An.mk ?_;intro x hx))
        simp only [hrep]
        exact lp_n (i + 1, g ++ [List.replicate m false]) (by show m - (i + 1) < m - i; omega) ⟨by show i + 1 ≤ m; omega, by show g ++ _ = _; rw [h2]; exact List.replicate_succ'.symm⟩ nm
      · have hg : g = noOrd m := by rw [h2, show i = m by omega]
        have hgs : Sh m g := by rw [hg]; exact sh_no m
        have hR' : addP m g ps = R := by rw [hg]; exact hR
        clear hR h2 hg hgl hrep hrl
        repeat' (first|refine st ?_|refine u0 ?_|refine u1 ?_|refine u2 ?_|refine u3 ?_|refine u4 ?_|refine u5 ?_|refine u6 ?_|refine u7 ?_|refine u8 ?_|refine u9 ?_|refine u10 ?_|refine u11 ?_|refine v0 ?_|refine v2 ?_|refine v3 ?_|refine v4 ?_|refine x1 ?_|refine x2 ?_|(refine Br.mk ?_ ?_<;>intro hc<;>try contradiction)|(refine An.mk ?_;intro x hx))
        refine wp_while (fun (x : Nat × List (List Bool)) => ⟨envA [(0, .i (m : Nat)), (1, eL eI ps), (4, .hp 0 0), (6, .hp 1 0), (8, .i (x.1 : Nat))], heapA [some ⟨2, [.st [.i 0, .e0]], false⟩, some ⟨2, [.st [.i (m : Nat), oL 1 oB x.2]], false⟩], 2, false⟩) (fun (x : Nat × List (List Bool)) => x.1 ≤ ps.length ∧ Sh m x.2 ∧ addP m x.2 (ps.drop x.1) = R) (fun (x : Nat × List (List Bool)) => ps.length - x.1) ((0, g)) nm ?_ ?_
        · exact ⟨Nat.zero_le _, hgs, hR'⟩
        · clear hR' hgs h1
          rintro ⟨i, g⟩ ⟨h1, h2, h3⟩
          dsimp only at h1 h2 h3 ⊢
          have hgl : g.length = m := h2.1
          by_cases hi : i < ps.length
          · obtain ⟨p, hp⟩ : ∃ p, ps[i]? = some p := ⟨_, List.getElem?_eq_getElem hi⟩
            have hd : ps.drop i = p :: ps.drop (i + 1) := by
              rw [List.drop_eq_getElem_cons hi]; congr 1; exact (List.getElem?_eq_some_iff.1 hp).2
            rw [hd] at h3
            have hpl := ok_len (ok_mem h (List.mem_of_getElem? hp))
            by_cases hl : p.length = 2
            · obtain ⟨a, b, rfl⟩ := pr_two hl
              have e0 : ([a, b] : List Int)[(0 : Int).toNat]? = some a := rfl
              have e1 : ([a, b] : List Int)[(1 : Int).toNat]? = some b := rfl
              by_cases ha : 0 ≤ a ∧ a ≤ (m : Int) - 1
              · have hwa : CALLB Γ T 46 [] [.i a, .i 0, .i ((m : Int) - 1)] = some (.b true, []) := by rw [k_l1In]; simp [ha]
                by_cases hb : 0 ≤ b ∧ b ≤ (m : Int) - 1
                · have hwb : CALLB Γ T 46 [] [.i b, .i 0, .i ((m : Int) - 1)] = some (.b true, []) := by rw [k_l1In]; simp [hb]
                  have h4 : addP m (setBit g a.toNat b.toNat) (ps.drop (i + 1)) = R := by simpa only [addP, prG, if_pos ha, if_pos hb] using h3
                  obtain ⟨a, rfl⟩ : ∃ x : Nat, a = (x : Nat) := ⟨a.toNat, by omega⟩
                  obtain ⟨b, rfl⟩ : ∃ x : Nat, b = (x : Nat) := ⟨b.toNat, by omega⟩
                  simp only [Int.toNat_natCast] at h4
                  have ha' : a < m := by omega
                  have hb' : b < m := by omega
                  obtain ⟨ra, hra, hral⟩ := sh_row h2 ha'
                  rw [setBit_of hra] at h4
                  repeat' (first|refine st ?_|refine u0 ?_|refine u1 ?_|refine u2 ?_|refine u3 ?_|refine u4 ?_|refine u5 ?_|refine u6 ?_|refine u7 ?_|refine u8 ?_|refine u9 ?_|refine u10 ?_|refine u11 ?_|refine v0 ?_|refine v2 ?_|refine v3 ?_|refine v4 ?_|refine x1 ?_|refine x2 ?_|(apply i_ca;first|(apply i_f 46;refine c0 (hwa) ?_)|(apply i_f 46;refine c0 (hwb) ?_))|(refine Br.mk ?_ ?_<;>intro hc<;>try contradiction)|(refine An.mk ?_;intro x hx))
                  exact lp_n (i + 1, g.set a (ra.set b true)) (by show ps.length - (i + 1) < ps.length - i; omega) ⟨hi, sh_set h2 (by simpa using hral), h4⟩ nmx
                · have hwb : CALLB Γ T 46 [] [.i b, .i 0, .i ((m : Int) - 1)] = some (.b false, []) := by rw [k_l1In]; simp only [hb, decide_false]
                  have hr := hW0 (add_no h3 (by simp only [prG, if_neg hb]; split <;> rfl))
                  subst hr
                  repeat' (first|refine st ?_|refine u0 ?_|refine u1 ?_|refine u2 ?_|refine u3 ?_|refine u4 ?_|refine u5 ?_|refine u6 ?_|refine u7 ?_|refine u8 ?_|refine u9 ?_|refine u10 ?_|refine u11 ?_|refine v0 ?_|refine v2 ?_|refine v3 ?_|refine v4 ?_|refine x1 ?_|refine x2 ?_|(apply i_ca;first|(apply i_f 46;refine c0 (hwa) ?_)|(apply i_f 46;refine c0 (hwb) ?_))|(refine Br.mk ?_ ?_<;>intro hc<;>try contradiction)|(refine An.mk ?_;intro x hx))
                  exact ⟨⟨rfl, trivial, trivial⟩, rfl, trivial⟩
              · have hwa : CALLB Γ T 46 [] [.i a, .i 0, .i ((m : Int) - 1)] = some (.b false, []) := by rw [k_l1In]; simp only [ha, decide_false]
                have hr := hW0 (add_no h3 (by simp only [prG, if_neg ha]))
                subst hr
                repeat' (first|refine st ?_|refine u0 ?_|refine u1 ?_|refine u2 ?_|refine u3 ?_|refine u4 ?_|refine u5 ?_|refine u6 ?_|refine u7 ?_|refine u8 ?_|refine u9 ?_|refine u10 ?_|refine u11 ?_|refine v0 ?_|refine v2 ?_|refine v3 ?_|refine v4 ?_|refine x1 ?_|refine x2 ?_|(apply i_ca;first|(apply i_f 46;refine c0 (hwa) ?_))|(refine Br.mk ?_ ?_<;>intro hc<;>try contradiction)|(refine An.mk ?_;intro x hx))
                exact ⟨⟨rfl, trivial, trivial⟩, rfl, trivial⟩
            · have hr := hW0 (add_no h3 (pr_len hl))
              subst hr
              have hl2 : ((p.length : Nat) : Int) ≠ 2 := by omega
              repeat' (first|refine st ?_|refine u0 ?_|refine u1 ?_|refine u2 ?_|refine u3 ?_|refine u4 ?_|refine u5 ?_|refine u6 ?_|refine u7 ?_|refine u8 ?_|refine u9 ?_|refine u10 ?_|refine u11 ?_|refine v0 ?_|refine v2 ?_|refine v3 ?_|refine v4 ?_|refine x1 ?_|refine x2 ?_|(refine Br.mk ?_ ?_<;>intro hc<;>try contradiction)|(refine An.mk ?_;intro x hx))
              all_goals first | exact ⟨⟨rfl, trivial, trivial⟩, rfl, trivial⟩ | exact ⟨⟨rfl, rfl, trivial⟩, rfl, trivial⟩
          · have hz : i = ps.length := by omega
            subst hz
            rw [List.drop_length] at h3
            have hRg : R = some g := h3.symm
            have hW1' := hW1 g hRg
            have hW2' := hW2 g hRg
            clear hW0 hW1 hW2 h3 hRg
            generalize hR1 : clK m g (List.range m) = R1 at hW1' hW2'
            repeat' (first|refine st ?_|refine u0 ?_|refine u1 ?_|refine u2 ?_|refine u3 ?_|refine u4 ?_|refine u5 ?_|refine u6 ?_|refine u7 ?_|refine u8 ?_|refine u9 ?_|refine u10 ?_|refine u11 ?_|refine v0 ?_|refine v2 ?_|refine v3 ?_|refine v4 ?_|refine x1 ?_|refine x2 ?_|(refine Br.mk ?_ ?_<;>intro hc<;>try contradiction)|(refine An.mk ?_;intro x hx))
            refine wp_while (fun (x : Nat × List (List Bool)) => ⟨envA [(0, .i (m : Nat)), (4, .hp 0 0), (6, .hp 1 0), (9, .i (x.1 : Nat))], heapA [some ⟨2, [.st [.i 0, .e0]], false⟩, some ⟨2, [.st [.i (m : Nat), oL 1 oB x.2]], false⟩], 2, false⟩) (fun (x : Nat × List (List Bool)) => x.1 ≤ m ∧ Sh m x.2 ∧ clK m x.2 ((List.range m).drop x.1) = R1) (fun (x : Nat × List (List Bool)) => m - x.1) ((0, g)) nm ?_ ?_
            · exact ⟨Nat.zero_le _, h2, hR1⟩
            · clear hR1
              rintro ⟨k, g⟩ ⟨h1, h2, h3⟩
              dsimp only at h1 h2 h3 ⊢
              have hgl : g.length = m := h2.1
              by_cases hk : k < m
              · have h4 := nx_K hk h3
                generalize hR2 : clI m k g (List.range m) = R2 at h4
                repeat' (first|refine st ?_|refine u0 ?_|refine u1 ?_|refine u2 ?_|refine u3 ?_|refine u4 ?_|refine u5 ?_|refine u6 ?_|refine u7 ?_|refine u8 ?_|refine u9 ?_|refine u10 ?_|refine u11 ?_|refine v0 ?_|refine v2 ?_|refine v3 ?_|refine v4 ?_|refine x1 ?_|refine x2 ?_|(refine Br.mk ?_ ?_<;>intro hc<;>try contradiction)|(refine An.mk ?_;intro x hx))
                refine wp_while (fun (x : Nat × List (List Bool)) => ⟨envA [(0, .i (m : Nat)), (4, .hp 0 0), (6, .hp 1 0), (9, .i (k : Nat)), (10, .i (x.1 : Nat))], heapA [some ⟨2, [.st [.i 0, .e0]], false⟩, some ⟨2, [.st [.i (m : Nat), oL 1 oB x.2]], false⟩], 2, false⟩) (fun (x : Nat × List (List Bool)) => x.1 ≤ m ∧ Sh m x.2 ∧ clI m k x.2 ((List.range m).drop x.1) = R2) (fun (x : Nat × List (List Bool)) => m - x.1) ((0, g)) nm ?_ ?_
                · exact ⟨Nat.zero_le _, h2, hR2⟩
                · clear hR2 h3 h2 hgl
                  rintro ⟨i, g⟩ ⟨h1, h2, h3⟩
                  dsimp only at h1 h2 h3 ⊢
                  have hgl : g.length = m := h2.1
                  by_cases hi : i < m
                  · have h5 := nx_I hi h3
                    generalize hR3 : clJ k i g (List.range m) = R3 at h5
                    repeat' (first|refine st ?_|refine u0 ?_|refine u1 ?_|refine u2 ?_|refine u3 ?_|refine u4 ?_|refine u5 ?_|refine u6 ?_|refine u7 ?_|refine u8 ?_|refine u9 ?_|refine u10 ?_|refine u11 ?_|refine v0 ?_|refine v2 ?_|refine v3 ?_|refine v4 ?_|refine x1 ?_|refine x2 ?_|(refine Br.mk ?_ ?_<;>intro hc<;>try contradiction)|(refine An.mk ?_;intro x hx))
                    refine wp_while (fun (x : Nat × List (List Bool)) => ⟨envA [(0, .i (m : Nat)), (4, .hp 0 0), (6, .hp 1 0), (9, .i (k : Nat)), (10, .i (i : Nat)), (11, .i (x.1 : Nat))], heapA [some ⟨2, [.st [.i 0, .e0]], false⟩, some ⟨2, [.st [.i (m : Nat), oL 1 oB x.2]], false⟩], 2, false⟩) (fun (x : Nat × List (List Bool)) => x.1 ≤ m ∧ Sh m x.2 ∧ clJ k i x.2 ((List.range m).drop x.1) = R3) (fun (x : Nat × List (List Bool)) => m - x.1) ((0, g)) nm ?_ ?_
                    · exact ⟨Nat.zero_le _, h2, hR3⟩
                    · clear hR3 h3 h2 hgl
                      rintro ⟨j, g⟩ ⟨h1, h2, h3⟩
                      dsimp only at h1 h2 h3 ⊢
                      have hgl : g.length = m := h2.1
                      by_cases hj : j < m
                      · obtain ⟨ri, hri, hrl⟩ := sh_row h2 hi
                        obtain ⟨b1, hb1⟩ := sh_cell hrl hj
                        obtain ⟨b2, hb2⟩ := sh_cell hrl hk
                        have e1 : at2 g i k = b2 := at2_of hri hb2
                        have e3 : setBit g i j = g.set i (ri.set j true) := setBit_of hri
                        have e4 : g.set i ri = g := set_same hri
                        have hme : m - (j + 1) < m - j := by omega
                        by_cases hik : i = k
                        · subst hik
                          have e2 : at2 g i j = b1 := at2_of hri hb1
                          cases b1 <;> cases b2
                          all_goals repeat' (first|refine st ?_|refine u0 ?_|refine u1 ?_|refine u2 ?_|refine u3 ?_|refine u4 ?_|refine u5 ?_|refine u6 ?_|refine u7 ?_|refine u8 ?_|refine u9 ?_|refine u10 ?_|refine u11 ?_|refine v0 ?_|refine v2 ?_|refine v3 ?_|refine v4 ?_|refine x1 ?_|refine x2 ?_|(refine Br.mk ?_ ?_<;>intro hc<;>try contradiction)|(refine An.mk ?_;intro x hx))
                          all_goals first | exact lp_n (j + 1, g.set i (ri.set j true)) hme (inv_J (by simp only [stG, e1, e2, e3, e4, Bool.and_true, Bool.and_false, Bool.and_self, if_true, if_false, Bool.false_eq_true, reduceIte]) h2 hi hj h3) nmx | exact lp_n (j + 1, g.set i ri) hme (inv_J (by simp only [stG, e1, e2, e3, e4, Bool.and_true, Bool.and_false, Bool.and_self, if_true, if_false, Bool.false_eq_true, reduceIte]) h2 hi hj h3) nmx
                        · obtain ⟨rk, hrk, hrkl⟩ := sh_row h2 hk
                          obtain ⟨b3, hb3⟩ := sh_cell hrkl hj
                          have e2 : at2 g k j = b3 := at2_of hrk hb3
                          have e6 : ∀ r, (g.set i r).set k rk = g.set i r := fun r => set_same2 hrk hik
                          have e7 : g.set k rk = g := set_same hrk
                          have hlt : i < k ∨ k < i := by omega
                          rcases hlt with hlt | hlt
                          all_goals (cases b2 <;> cases b3)
                          all_goals repeat' (first|refine st ?_|refine u0 ?_|refine u1 ?_|refine u2 ?_|refine u3 ?_|refine u4 ?_|refine u5 ?_|refine u6 ?_|refine u7 ?_|refine u8 ?_|refine u9 ?_|refine u10 ?_|refine u11 ?_|refine v0 ?_|refine v2 ?_|refine v3 ?_|refine v4 ?_|refine x1 ?_|refine x2 ?_|(refine Br.mk ?_ ?_<;>intro hc<;>try contradiction)|(refine An.mk ?_;intro x hx))
                          all_goals first | exact lp_n (j + 1, g.set i ri) hme (inv_J (by simp only [stG, e1, e2, e3, e4, e6, e7, Bool.and_true, Bool.and_false, Bool.and_self, if_true, if_false, Bool.false_eq_true, reduceIte]) h2 hi hj h3) nmx | exact lp_n (j + 1, (g.set i ri).set k rk) hme (inv_J (by simp only [stG, e1, e2, e3, e4, e6, e7, Bool.and_true, Bool.and_false, Bool.and_self, if_true, if_false, Bool.false_eq_true, reduceIte]) h2 hi hj h3) nmx | exact lp_n (j + 1, (g.set i (ri.set j true)).set k rk) hme (inv_J (by simp only [stG, e1, e2, e3, e4, e6, e7, Bool.and_true, Bool.and_false, Bool.and_self, if_true, if_false, Bool.false_eq_true, reduceIte]) h2 hi hj h3) nmx
                      · have hg := end_J hj h3
                        subst hg
                        repeat' (first|refine st ?_|refine u0 ?_|refine u1 ?_|refine u2 ?_|refine u3 ?_|refine u4 ?_|refine u5 ?_|refine u6 ?_|refine u7 ?_|refine u8 ?_|refine u9 ?_|refine u10 ?_|refine u11 ?_|refine v0 ?_|refine v2 ?_|refine v3 ?_|refine v4 ?_|refine x1 ?_|refine x2 ?_|(refine Br.mk ?_ ?_<;>intro hc<;>try contradiction)|(refine An.mk ?_;intro x hx))
                        exact lp_n (i + 1, g) (by show m - (i + 1) < m - i; omega) ⟨hi, h2, h5⟩ nmx
                  · have hg := end_I hi h3
                    subst hg
                    repeat' (first|refine st ?_|refine u0 ?_|refine u1 ?_|refine u2 ?_|refine u3 ?_|refine u4 ?_|refine u5 ?_|refine u6 ?_|refine u7 ?_|refine u8 ?_|refine u9 ?_|refine u10 ?_|refine u11 ?_|refine v0 ?_|refine v2 ?_|refine v3 ?_|refine v4 ?_|refine x1 ?_|refine x2 ?_|(refine Br.mk ?_ ?_<;>intro hc<;>try contradiction)|(refine An.mk ?_;intro x hx))
                    exact lp_n (k + 1, g) (by show m - (k + 1) < m - k; omega) ⟨hk, h2, h4⟩ nmx
              · have hg := end_K hk h3
                subst hg
                have hO := k_sIsOrder m g (sh_ok h2 hm.2)
                by_cases ho : isOrder m g = true
                · rw [ho] at hO
                  have hw := hW1' ho
                  subst hw
                  repeat' (first|refine st ?_|refine u0 ?_|refine u1 ?_|refine u2 ?_|refine u3 ?_|refine u4 ?_|refine u5 ?_|refine u6 ?_|refine u7 ?_|refine u8 ?_|refine u9 ?_|refine u10 ?_|refine u11 ?_|refine v0 ?_|refine v2 ?_|refine v3 ?_|refine v4 ?_|refine x1 ?_|refine x2 ?_|(apply i_ca;first|(apply i_f 14;refine c0 (hO) ?_))|(refine Br.mk ?_ ?_<;>intro hc<;>try contradiction)|(refine An.mk ?_;intro x hx))
                  all_goals first | exact ⟨⟨rfl, trivial, trivial⟩, rfl, trivial⟩ | exact ⟨⟨rfl, rfl, trivial⟩, rfl, trivial⟩
                · have ho' : isOrder m g = false := by simpa using ho
                  rw [ho'] at hO
                  have hw := hW2' ho'
                  subst hw
                  repeat' (first|refine st ?_|refine u0 ?_|refine u1 ?_|refine u2 ?_|refine u3 ?_|refine u4 ?_|refine u5 ?_|refine u6 ?_|refine u7 ?_|refine u8 ?_|refine u9 ?_|refine u10 ?_|refine u11 ?_|refine v0 ?_|refine v2 ?_|refine v3 ?_|refine v4 ?_|refine x1 ?_|refine x2 ?_|(apply i_ca;first|(apply i_f 14;refine c0 (hO) ?_))|(refine Br.mk ?_ ?_<;>intro hc<;>try contradiction)|(refine An.mk ?_;intro x hx))
                  all_goals first | exact ⟨⟨rfl, trivial, trivial⟩, rfl, trivial⟩ | exact ⟨⟨rfl, rfl, trivial⟩, rfl, trivial⟩
  · have hw0 : CALLB Γ T 46 [] [.i n, .i 1, .i 5] = some (.b false, []) := by rw [k_l1In]; simp only [hn, decide_false]
    have hr : W = .tu [.st [.i 0, .e0], .b false] := by rw [← hW, orderOf, if_neg hn]
    subst hr
    apply call_ro' rfl rfl rfl rfl
    repeat' (first|refine st ?_|refine u0 ?_|refine u1 ?_|refine u2 ?_|refine u3 ?_|refine u4 ?_|refine u5 ?_|refine u6 ?_|refine u7 ?_|refine u8 ?_|refine u9 ?_|refine u10 ?_|refine u11 ?_|refine v0 ?_|refine v2 ?_|refine v3 ?_|refine v4 ?_|refine x1 ?_|refine x2 ?_|(apply i_ca;first|(apply i_f 46;refine c0 (hw0) ?_))|(refine Br.mk ?_ ?_<;>intro hc<;>try contradiction)|(refine An.mk ?_;intro x hx))
    exact ⟨⟨rfl, trivial, trivial⟩, rfl, trivial⟩
theorem orderOf_ok {n : Int} {ps : List (List Int)} {x : Int × List (List Bool)} (h : orderOf n ps = some x) : Bnd.ok x := by
  have ho : isOrder x.1 x.2 = true := by
    unfold orderOf at h
    split at h
    · obtain ⟨g, _, hg⟩ := Option.bind_eq_some_iff.1 h
      split at hg
      · rename_i hi; cases hg; exact hi
      · cases hg
    · cases h
  obtain ⟨hn1, hn5, hal, har⟩ := isOrder_n ho
  exact ⟨trivial, by show x.2.length ≤ _; omega, fun r hr => ⟨by show r.length ≤ _; have := har r hr; omega, fun _ _ => trivial⟩⟩
theorem law_FnExactOrderOf (n : Int) (ps : List (List Int)) (_hn : Bnd.wf n) (hl : Bnd.wf ps) : CALLB Γ T 8 [] [.i n, eIntSS ps] = some (.b true, []) := by
  obtain ⟨t0, hk0, m0, rfl, h0⟩ := sz_IntSS ps 1048576 (by omega) (by omega) hl
  apply call_ro' rfl rfl rfl rfl
  (try refine st ?_)
  refine c0 (hk0) ?_
  repeat' (first|refine st ?_|refine u0 ?_|refine u1 ?_|refine u2 ?_|refine u3 ?_|refine u4 ?_|refine u5 ?_|refine u6 ?_|refine u7 ?_|refine u8 ?_|refine u9 ?_|(refine Br.mk ?_ ?_<;>intro hc)|(refine An.mk ?_;intro x hx))
  · rfl
  have h := (h0.resolve_left (by omega)).1
  have hk1 := k_sOrderOf n ps h
  have hk2 := k_OrderOf n ps h
  cases ho : orderOf n ps with
  | none =>
    rw [ho] at hk1 hk2
    have hQ_ps := cn_IntSS h
    have heN0 := eq_Order ((0 : Int), ([] : List (List Bool))) (0, []) ⟨trivial, ok_nilL⟩
    have hhN0 := held_Order 0 [] (1) ok_nilL (by omega)
    repeat' (first|refine st ?_|refine u0 ?_|refine u1 ?_|refine u2 ?_|refine u3 ?_|refine u4 ?_|refine u5 ?_|refine u6 ?_|refine u7 ?_|refine u8 ?_|refine u9 ?_|(apply i_ca;first|(apply i_f 36;refine c0 (hk1) ?_)|(apply i_f 38;refine c0 (hk2) ?_)|(apply i_f 37;refine c0 (to_IntSS ps h) ?_)|(apply i_f 31;refine c0 (eq_IntSS ps ps h) ?_)|(apply i_f 33;refine ci (mark_IntSS ps (1) h (by omega)) ?_ ?_)|(apply i_f 13;refine c0 (heN0) ?_)|(apply i_f 39;refine c0 (hhN0) ?_)|(apply i_f 32;refine ciO0 (markN_Order 0 (1)) ?_))|(refine Br.mk ?_ ?_<;>intro hc)|(refine An.mk ?_;intro x hx))
    all_goals first | rfl | exact mkS_len _ _ | exact mk_len _ _ | exact absurd rfl hc | exact absurd hc (by decide)
  | some x =>
    rw [ho] at hk1 hk2
    have hx := orderOf_ok ho
    have hQ_ps := cn_IntSS h
    have hQ_x := cn_BoolSS hx.2
    have hM_x : x.2.length = (mkBoolSS (1) x.2).length := (mkS_len _ _).symm
    repeat' (first|refine st ?_|refine u0 ?_|refine u1 ?_|refine u2 ?_|refine u3 ?_|refine u4 ?_|refine u5 ?_|refine u6 ?_|refine u7 ?_|refine u8 ?_|refine u9 ?_|(apply i_ca;first|(apply i_f 36;refine c0 (hk1) ?_)|(apply i_f 38;refine c0 (hk2) ?_)|(apply i_f 37;refine c0 (to_IntSS ps h) ?_)|(apply i_f 31;refine c0 (eq_IntSS ps ps h) ?_)|(apply i_f 33;refine ci (mark_IntSS ps (1) h (by omega)) ?_ ?_)|(apply i_f 13;refine c0 (eq_Order x x hx) ?_)|(apply i_f 32;refine ciO (mark_Order x.1 x.2 (1) hx.2 (by omega)) ?_ ?_)|(apply i_f 39;refine c0 (held_Order x.1 x.2 (1) hx.2 (by omega)) ?_))|(refine Br.mk ?_ ?_<;>intro hc)|(refine An.mk ?_;intro x hx))
    all_goals first | rfl | exact mkS_len _ _ | exact mk_len _ _ | exact absurd rfl hc | exact absurd hc (by decide)
end Go.Am
