/-
  Contracts of functions that the law reaches.
-/
import Derived.Test.YthpaolkonlhjfaaFnExactLargestConsistentP0
set_option linter.all false
set_option maxHeartbeats 1000000
set_option synthInstance.maxSize 1000
namespace Go.Am
attribute [local irreducible] snapB roT giveB okD free packB
theorem k_demote (l : List (List Int)) (n : Int) (h : InD l n (rng n.toNat) (rng l.length)) : CALLB Γ T 83 [] [eL eR l, .i n, .cl 84 []] = some (.tu [oL 1 oI (runL l (rng n.toNat) (rng l.length) []).1, if (runL l (rng n.toNat) (rng l.length) []).2.1 = [] then .e0 else oI (runL l (rng n.toNat) (rng l.length) []).2.2], []) := by
  have hle := h.ll
  have hn := h.nl
  have hn0 := h.n0
  have okl := h.ok
  apply call_ro' rfl rfl rfl rfl
  repeat' (first|refine st ?_|refine u0 ?_|refine u1 ?_|refine u2 ?_|refine u3 ?_|refine u4 ?_|refine u5 ?_|refine u6 ?_|refine u7 ?_|refine u8 ?_|refine u9 ?_|(refine Br.mk ?_ ?_<;>intro hc)|(refine An.mk ?_;intro x hx))
  refine wp_upto (n.toNat) (fun _ g => ()) (fun i (_ : Unit) => ⟨envA [(2, .cl 84 []), (3, .hp 0 0), (8, .hs 1 0 (([] : List (List Int))).length (([] : List (List Int))).length), (9, .hs 2 0 ((rng i)).length ((rng i)).length), (10, .hs 3 0 (([] : List Int)).length (([] : List Int)).length), (22, .i n), (23, .i (i : Nat))], heapA [some ⟨1, [eL eR l], false⟩, some ⟨1, (([] : List (List Int))).map oI, false⟩, some ⟨1, ((rng i)).map V.i, false⟩, some ⟨1, (([] : List Int)).map V.i, false⟩], 4, false⟩) (()) (()) nm ?_ ?_ ?_
  · rfl
  · intro i g hi _
    have hrl := rng_len i
    repeat' (first|refine st ?_|refine u0 ?_|refine u1 ?_|refine u2 ?_|refine u3 ?_|refine u4 ?_|refine u5 ?_|refine u6 ?_|refine u7 ?_|refine u8 ?_|refine u9 ?_|(refine Br.mk ?_ ?_<;>intro hc)|(refine An.mk ?_;intro x hx))
    exact ea_n () rfl (by rw [rng_succ]; exact nm)
  · intro g _
    repeat' (first|refine st ?_|refine u0 ?_|refine u1 ?_|refine u2 ?_|refine u3 ?_|refine u4 ?_|refine u5 ?_|refine u6 ?_|refine u7 ?_|refine u8 ?_|refine u9 ?_|(refine Br.mk ?_ ?_<;>intro hc)|(refine An.mk ?_;intro x hx))
    refine wp_upto (l.length) (fun _ g => ()) (fun i (_ : Unit) => ⟨envA [(2, .cl 84 []), (3, .hp 0 0), (8, .hs 1 0 (([] : List (List Int))).length (([] : List (List Int))).length), (9, .hs 2 0 ((rng n.toNat)).length ((rng n.toNat)).length), (10, .hs 3 0 ((rng i)).length ((rng i)).length), (32, .i l.length), (33, .i (i : Nat))], heapA [some ⟨1, [eL eR l], false⟩, some ⟨1, (([] : List (List Int))).map oI, false⟩, some ⟨1, ((rng n.toNat)).map V.i, false⟩, some ⟨1, ((rng i)).map V.i, false⟩], 4, false⟩) (()) (()) nm ?_ ?_ ?_
    · rfl
    · intro i g hi _
      have hrl := rng_len i
      repeat' (first|refine st ?_|refine u0 ?_|refine u1 ?_|refine u2 ?_|refine u3 ?_|refine u4 ?_|refine u5 ?_|refine u6 ?_|refine u7 ?_|refine u8 ?_|refine u9 ?_|(refine Br.mk ?_ ?_<;>intro hc)|(refine An.mk ?_;intro x hx))
      exact ea_n () rfl (by rw [rng_succ]; exact nm)
    · intro g _
      repeat' (first|refine st ?_|refine u0 ?_|refine u1 ?_|refine u2 ?_|refine u3 ?_|refine u4 ?_|refine u5 ?_|refine u6 ?_|refine u7 ?_|refine u8 ?_|refine u9 ?_|(refine Br.mk ?_ ?_<;>intro hc)|(refine An.mk ?_;intro x hx))
      refine wp_while (fun (x : Nat × List (List Int) × List Int × List Int) => ⟨envA [(2, .cl 84 []), (3, .hp 0 0), (8, .hs 1 0 x.1 x.1), (9, .hs 2 0 (x.2.2.1).length (x.2.2.1).length), (10, .hs 3 0 (x.2.2.2).length (x.2.2.2).length)], heapA [some ⟨1, [eL eR l], false⟩, some ⟨1, (x.2.1.map oI), false⟩, some ⟨1, (x.2.2.1).map V.i, false⟩, some ⟨1, (x.2.2.2).map V.i, false⟩], 4, false⟩) (fun (x : Nat × List (List Int) × List Int × List Int) => x.1 = x.2.1.length ∧ runL l x.2.2.1 x.2.2.2 x.2.1 = runL l (rng n.toNat) (rng l.length) [] ∧ InD l n x.2.2.1 x.2.2.2 ∧ x.2.1.length + x.2.2.1.length ≤ 2 ^ 20 ∧ x.2.2.2.length ≤ 2 ^ 20) (fun (x : Nat × List (List Int) × List Int × List Int) => x.2.2.1.length) ((0, [], rng n.toNat, rng l.length)) nm ?_ ?_
      · refine ⟨rfl, rfl, h, ?_, ?_⟩
        · show 0 + (rng n.toNat).length ≤ _; rw [rng_len]; omega
        · show (rng l.length).length ≤ _; rw [rng_len]; omega
      · rintro ⟨m, sa, left, rows⟩ ⟨hm, hF, hD, hb1, hb2⟩
        simp only at hm hF hD hb1 hb2
        subst hm
        dsimp only
        have ok1 : Bnd.ok left := ok_ints (by omega)
        have ok2 : Bnd.ok rows := ok_ints (by omega)
        have hcl : (canD l rows left).length ≤ left.length := List.length_filter_le _ _
        repeat' (first|refine st ?_|refine u0 ?_|refine u1 ?_|refine u2 ?_|refine u3 ?_|refine u4 ?_|refine u5 ?_|refine u6 ?_|refine u7 ?_|refine u8 ?_|refine u9 ?_|(refine Br.mk ?_ ?_<;>intro hc)|(refine An.mk ?_;intro x hx))
        · have hl0 : left ≠ [] := by rintro rfl; simp at hc
          have okp : Bnd.ok (pickD l rows) := ⟨by simp [pickD]; omega, fun x hx => by
            obtain ⟨y, hy, rfl⟩ := List.mem_map.1 hx
            have h6 := hD.rw_ y hy
            rw [List.getD_eq_getElem?_getD, List.getElem?_eq_getElem (by omega)]
            exact ok_mem okl (List.getElem_mem _)⟩
          refine wp_eachI (rows) (fun r acc => acc ++ pickD l r) (fun i (acc : List (List Int)) => ⟨envA [(2, .cl 84 []), (3, .hp 0 0), (8, .hs 1 0 sa.length sa.length), (9, .hs 2 0 (left).length (left).length), (10, .hs 4 0 (rows).length (rows).length), (13, .hs 3 0 (acc).length (acc).length), (45, .hs 4 0 (rows).length (rows).length), (46, .i (rows).length), (47, .i (i : Nat))], heapA [some ⟨1, [eL eR l], false⟩, some ⟨1, (sa.map oI), false⟩, some ⟨1, (left).map V.i, false⟩, some ⟨1, (acc).map eR, false⟩, some ⟨1, (rows).map V.i, false⟩], 5, false⟩) ([]) (pickD l rows) (fun i (acc : List (List Int)) => acc.length ≤ i) nm ?_ ?_ ?_ ?_
          · rfl
          · simp
          · intro i acc y hi hx hm hF2 hI
            have h6 := hD.rw_ y hm
            have hly : l[y.toNat]? = some (l.getD y.toNat []) := by rw [List.getD_eq_getElem?_getD, List.getElem?_eq_getElem (by omega)]; rfl
            repeat' (first|refine st ?_|refine u0 ?_|refine u1 ?_|refine u2 ?_|refine u3 ?_|refine u4 ?_|refine u5 ?_|refine u6 ?_|refine u7 ?_|refine u8 ?_|refine u9 ?_|(refine Br.mk ?_ ?_<;>intro hc)|(refine An.mk ?_;intro x hx))
            exact ei_n (acc ++ [l.getD y.toNat []]) (by simpa [pickD] using hF2) (by simp; omega) nm
          · intro acc hF2 hI
            have hacc : acc = pickD l rows := by simpa [pickD] using hF2
            subst hacc
            repeat' (first|refine st ?_|refine u0 ?_|refine u1 ?_|refine u2 ?_|refine u3 ?_|refine u4 ?_|refine u5 ?_|refine u6 ?_|refine u7 ?_|refine u8 ?_|refine u9 ?_|(refine Br.mk ?_ ?_<;>intro hc)|(refine An.mk ?_;intro x hx))
            refine wp_eachI (left) (fun r acc => acc ++ r.filter (fineD l rows)) (fun i (acc : List Int) => ⟨envA [(2, .cl 84 []), (3, .hp 0 0), (8, .hs 1 0 sa.length sa.length), (9, .hs 5 0 (left).length (left).length), (10, .hs 2 0 (rows).length (rows).length), (13, .hs 3 0 ((pickD l rows)).length ((pickD l rows)).length), (16, .hp 4 0), (60, .hs 5 0 (left).length (left).length), (61, .i (left).length), (62, .i (i : Nat))], heapA [some ⟨1, [eL eR l], false⟩, some ⟨1, (sa.map oI), false⟩, some ⟨1, (rows).map V.i, false⟩, some ⟨1, ((pickD l rows)).map eR, false⟩, some ⟨1, [(oI acc)], false⟩, some ⟨1, (left).map V.i, false⟩], 6, false⟩) ([]) (canD l rows left) (fun i (acc : List Int) => acc.length ≤ i) nm ?_ ?_ ?_ ?_
            · rfl
            · simp
            · intro i acc k hi hx hm hF3 hI3
              have h7 := hD.lf k hm
              have hcl1 : ∀ x ∈ pickD l rows, CALLB Γ T 102 [] [eR x, .rp (.i k)] = some (.b (decide (x.getD k.toNat 0 = -1)), []) := by
                intro x hxm
                obtain ⟨y, hy, rfl⟩ := List.mem_map.1 hxm
                obtain ⟨r, m, g1, g2, _, _, g5⟩ := hD.cell hy h7
                have e1 : l.getD y.toNat [] = r := by rw [List.getD_eq_getElem?_getD, g1]; rfl
                rw [e1]
                exact k_demote1 r k _ h7.1 (by rw [List.getD_eq_getElem?_getD, g2]; rfl)
              repeat' (first|refine st ?_|refine u0 ?_|refine u1 ?_|refine u2 ?_|refine u3 ?_|refine u4 ?_|refine u5 ?_|refine u6 ?_|refine u7 ?_|refine u8 ?_|refine u9 ?_|(apply i_ca;first|(apply i_f 101;refine c0 (k_ContainsFuncR 102 (.i k) _ (pickD l rows) rfl okp hcl1) ?_))|(refine Br.mk ?_ ?_<;>intro hc)|(refine An.mk ?_;intro x hx))
              · have hf : fineD l rows k = true := by have h8 := pickD_any (l := l) (k := k) (rows := rows); rw [hc] at h8; simpa using h8
                refine g_ldU rfl rfl ?_ rfl
                repeat' (first|refine st ?_|refine u0 ?_|refine u1 ?_|refine u2 ?_|refine u3 ?_|refine u4 ?_|refine u5 ?_|refine u6 ?_|refine u7 ?_|refine u8 ?_|refine u9 ?_|(refine Br.mk ?_ ?_<;>intro hc)|(refine An.mk ?_;intro x hx))
                exact ei_n (acc ++ [k]) (by simpa [hf] using hF3) (by simp; omega) nm
              · have hf : fineD l rows k = false := by have h8 := pickD_any (l := l) (k := k) (rows := rows); rw [hc] at h8; simpa using h8
                exact ei_n acc (by simpa [hf] using hF3) (by omega) nm
            · intro acc hF3 hI3
              have hacc : acc = canD l rows left := by simpa using hF3
              subst hacc
              (try refine st ?_)
              refine g_ldU rfl rfl ?_ rfl
              repeat' (first|refine st ?_|refine u0 ?_|refine u1 ?_|refine u2 ?_|refine u3 ?_|refine u4 ?_|refine u5 ?_|refine u6 ?_|refine u7 ?_|refine u8 ?_|refine u9 ?_|(refine Br.mk ?_ ?_<;>intro hc)|(refine An.mk ?_;intro x hx))
              · have hc0 : canD l rows left = [] := List.length_eq_zero_iff.1 (by omega)
                rw [runL_stuck hl0 hc0] at hF
                rw [← hF, if_neg hl0]
                refine fin ?_
                exact ⟨rfl, rfl, trivial⟩
              · have ok3 : Bnd.ok (canD l rows left) := ok_ints (by omega)
                have hc0 : canD l rows left ≠ [] := fun hh => by rw [hh] at hc; exact hc rfl
                have hlt := restD_lt hc0
                rw [runL_step hl0 hc0] at hF
                have hD2 := hD.sub (left' := canD l rows left) (rows' := rows) canD_sub fun _ h => h
                have hD3 := hD.sub (left' := restD (canD l rows left) left) (rows' := keepD l (canD l rows left) rows) restD_sub keepD_sub
                have hkl : (keepD l (canD l rows left) rows).length ≤ rows.length := List.length_filter_le _ _
                generalize hcv : canD l rows left = c at *
                refine ct (k_all c (pickD l rows)) ?_
                repeat' (first|refine st ?_|refine u0 ?_|refine u1 ?_|refine u2 ?_|refine u3 ?_|refine u4 ?_|refine u5 ?_|refine u6 ?_|refine u7 ?_|refine u8 ?_|refine u9 ?_|(refine Br.mk ?_ ?_<;>intro hc)|(refine An.mk ?_;intro x hx))
                refine ct (k_DeleteFunc 104 (eI c) (fun k => decide (k ∈ c)) left rfl ok1 fun x _ => k_demote2 c x ok3) ?_
                repeat' (first|refine st ?_|refine u0 ?_|refine u1 ?_|refine u2 ?_|refine u3 ?_|refine u4 ?_|refine u5 ?_|refine u6 ?_|refine u7 ?_|refine u8 ?_|refine u9 ?_|(refine Br.mk ?_ ?_<;>intro hc)|(refine An.mk ?_;intro x hx))
                refine ct (k_DeleteFunc2 105 (eI c) (eL eR l) (wonD l c) rows rfl ok2 fun x hx => k_demote3 l n c rows x ok3 hD2 hx) ?_
                repeat' (first|refine st ?_|refine u0 ?_|refine u1 ?_|refine u2 ?_|refine u3 ?_|refine u4 ?_|refine u5 ?_|refine u6 ?_|refine u7 ?_|refine u8 ?_|refine u9 ?_|(refine Br.mk ?_ ?_<;>intro hc)|(refine An.mk ?_;intro x hx))
                exact lp_n (sa.length + 1, sa ++ [c], restD c left, keepD l c rows) hlt ⟨by simp, hF, hD3, by simp; omega, by simp; omega⟩ nm
        · have hl0 : left = [] := List.length_eq_zero_iff.1 (by omega)
          subst hl0
          rw [runL_end] at hF
          rw [← hF, if_pos rfl]
          refine fin ?_
          exact ⟨rfl, trivial, trivial⟩
theorem areRows_ind {l : List (List Int)} {n : Int} (h : areRows l n = true) : InD l n (rng n.toNat) (rng l.length) := by
  simp only [areRows, Bool.and_eq_true, List.all_eq_true, decide_eq_true_eq] at h
  obtain ⟨h1, h2, h3⟩ := h
  refine ⟨fun r hr => ?_, by omega, by omega, by omega, fun k hk => ?_, fun i hi => ?_⟩
  · have := h1 r hr
    simp only [isRow, Bool.and_eq_true, decide_eq_true_eq] at this
    exact this.2.2
  · have := mem_rng.1 hk; omega
  · have := mem_rng.1 hi; omega
/-- The run over rows. -/
def runA (l : List (List Int)) (n : Int) : List (List Int) × List Int × List Int := runL l (rng n.toNat) (rng l.length) []
def isCons (l : List (List Int)) (n : Int) : Bool := areRows l n && decide ((runA l n).2.1 = [])
/-- Where constraints are left, rows are left. -/
theorem run_rows (l : List (List Int)) : ∀ (n : Nat) (left rows : List Int) (sa : List (List Int)), (runD l n left rows sa).2.1 ≠ [] → left.length ≤ n → (runD l n left rows sa).2.2 ≠ []
  | 0, left, rows, sa, h, hl => by
    obtain rfl := List.length_eq_zero_iff.1 (Nat.le_zero.1 hl)
    exact absurd rfl h
  | n + 1, left, rows, sa, h, hl => by
    simp only [runD] at h ⊢
    split at h
    · rename_i h0; exact absurd h0 h
    · rename_i h0
      rw [if_neg h0]
      split at h
      · rename_i hc
        rw [if_pos hc]
        rintro rfl
        apply h0
        have hc' : ∀ a, a ∉ left := by simpa [canD, fineD] using hc
        exact List.eq_nil_iff_forall_not_mem.2 hc'
      · rename_i hc
        rw [if_neg hc]
        exact run_rows l n _ _ _ h (by have := restD_lt hc; omega)
theorem k_StrataOf (l : List (List Int)) (n : Int) (hl : Bnd.ok l) : CALLB Γ T 50 [] [eL eR l, .i n] = some (.tu [if isCons l n then oL 1 oI (runA l n).1 else .e0, .b (isCons l n)], []) := by
  apply call_ro' rfl rfl rfl rfl
  by_cases ha : areRows l n = true
  · have hi := areRows_ind ha
    have hd := k_demote l n hi
    by_cases h0 : (runA l n).2.1 = []
    · have hc0 : isCons l n = true := by simp [isCons, ha, h0]
      rw [show runL l (rng n.toNat) (rng l.length) [] = runA l n from rfl, if_pos h0] at hd
      rw [hc0, if_pos rfl]
      repeat' (first|refine st ?_|refine u0 ?_|refine u1 ?_|refine u2 ?_|refine u3 ?_|refine u4 ?_|refine u5 ?_|refine u6 ?_|refine u7 ?_|refine u8 ?_|refine u9 ?_|(apply i_ca;first|(apply i_f 64;refine c0 (k_AreRows _ _ hl) ?_)|(apply i_f 83;refine c0 (hd) ?_))|(refine Br.mk ?_ ?_<;>intro hc)|(refine An.mk ?_;intro x hx))
      all_goals first | exact absurd (ha.symm.trans hc) (by decide) | exact ⟨rfl, rfl, trivial⟩
    · have hc0 : isCons l n = false := by simp [isCons, h0]
      have hr0 : (runA l n).2.2 ≠ [] := run_rows l _ _ _ _ h0 (Nat.le_refl _)
      have hr1 := List.length_pos_iff.2 hr0
      rw [show runL l (rng n.toNat) (rng l.length) [] = runA l n from rfl, if_neg h0] at hd
      rw [hc0, if_neg (by simp)]
      repeat' (first|refine st ?_|refine u0 ?_|refine u1 ?_|refine u2 ?_|refine u3 ?_|refine u4 ?_|refine u5 ?_|refine u6 ?_|refine u7 ?_|refine u8 ?_|refine u9 ?_|(apply i_ca;first|(apply i_f 64;refine c0 (k_AreRows _ _ hl) ?_)|(apply i_f 83;refine c0 (hd) ?_))|(refine Br.mk ?_ ?_<;>intro hc)|(refine An.mk ?_;intro x hx))
      all_goals first | exact absurd (ha.symm.trans hc) (by decide) | exact ⟨trivial, rfl, trivial⟩
  · have hc0 : isCons l n = false := by simp [isCons, ha]
    rw [hc0, if_neg (by simp)]
    repeat' (first|refine st ?_|refine u0 ?_|refine u1 ?_|refine u2 ?_|refine u3 ?_|refine u4 ?_|refine u5 ?_|refine u6 ?_|refine u7 ?_|refine u8 ?_|refine u9 ?_|(apply i_ca;first|(apply i_f 64;refine c0 (k_AreRows _ _ hl) ?_))|(refine Br.mk ?_ ?_<;>intro hc)|(refine An.mk ?_;intro x hx))
    all_goals first | exact absurd hc ha | exact ⟨trivial, rfl, trivial⟩
theorem k_sStrataOf (l : List (List Int)) (n : Int) (hl : Bnd.ok l) : CALLB Γ T 49 [] [eL eR l, .i n] = some (.tu [oL 1 oI (if isCons l n then (runA l n).1 else []), .b (isCons l n)], []) := by
  apply call_ro' rfl rfl rfl rfl
  by_cases ha : areRows l n = true
  · have hi := areRows_ind ha
    have hd := k_l15Run l n hi
    rw [show runL l (rng n.toNat) (rng l.length) [] = runA l n from rfl] at hd
    by_cases h0 : (runA l n).2.1 = []
    · have hc0 : isCons l n = true := by simp [isCons, ha, h0]
      rw [hc0, if_pos rfl]
      repeat' (first|refine st ?_|refine u0 ?_|refine u1 ?_|refine u2 ?_|refine u3 ?_|refine u4 ?_|refine u5 ?_|refine u6 ?_|refine u7 ?_|refine u8 ?_|refine u9 ?_|(apply i_ca;first|(apply i_f 21;refine c0 (k_sAreRows _ _ hl) ?_)|refine c0 (hd) ?_)|(refine Br.mk ?_ ?_<;>intro hc)|(refine An.mk ?_;intro x hx))
      all_goals first | exact absurd (ha.symm.trans hc) (by decide) | exact ⟨rfl, rfl, trivial⟩ | (simp [h0] at hc; done)
    · have hc0 : isCons l n = false := by simp [isCons, h0]
      rw [hc0, if_neg (by simp)]
      repeat' (first|refine st ?_|refine u0 ?_|refine u1 ?_|refine u2 ?_|refine u3 ?_|refine u4 ?_|refine u5 ?_|refine u6 ?_|refine u7 ?_|refine u8 ?_|refine u9 ?_|(apply i_ca;first|(apply i_f 21;refine c0 (k_sAreRows _ _ hl) ?_)|refine c0 (hd) ?_)|(refine Br.mk ?_ ?_<;>intro hc)|(refine An.mk ?_;intro x hx))
      all_goals first | exact absurd (ha.symm.trans hc) (by decide) | exact fin (P := (([] : List (List Int)) = []) ∧ (false = false) ∧ True) ⟨rfl, rfl, trivial⟩ (g := fun p => gv_tu (gv_cons p (fun p => gv_hs (l' := []) (f := oI) p rfl rfl (fun _ => okA)) fun p => gv_cons p (fun p => gv_b p) fun p => gv_nil p)) | (exact absurd (List.length_eq_zero_iff.1 (by simp at hc; omega)) h0) | (simp [h0] at hc; done)
  · have hc0 : isCons l n = false := by simp [isCons, ha]
    rw [hc0, if_neg (by simp)]
    repeat' (first|refine st ?_|refine u0 ?_|refine u1 ?_|refine u2 ?_|refine u3 ?_|refine u4 ?_|refine u5 ?_|refine u6 ?_|refine u7 ?_|refine u8 ?_|refine u9 ?_|(apply i_ca;first|(apply i_f 21;refine c0 (k_sAreRows _ _ hl) ?_))|(refine Br.mk ?_ ?_<;>intro hc)|(refine An.mk ?_;intro x hx))
    all_goals first | exact absurd hc ha | exact fin (P := (([] : List (List Int)) = []) ∧ (false = false) ∧ True) ⟨rfl, rfl, trivial⟩ (g := fun p => gv_tu (gv_cons p (fun p => gv_hs (l' := []) (f := oI) p rfl rfl (fun _ => okA)) fun p => gv_cons p (fun p => gv_b p) fun p => gv_nil p))
theorem k_sIsConsistent (l : List (List Int)) (n : Int) (hl : Bnd.ok l) : CALLB Γ T 22 [] [eL eR l, .i n] = some (.b (isCons l n), []) := by
  apply call_ro' rfl rfl rfl rfl
  repeat' (first|refine st ?_|refine u0 ?_|refine u1 ?_|refine u2 ?_|refine u3 ?_|refine u4 ?_|refine u5 ?_|refine u6 ?_|refine u7 ?_|refine u8 ?_|refine u9 ?_|(apply i_ca;first|(apply i_f 49;refine c0 (k_sStrataOf l n hl) ?_))|(refine Br.mk ?_ ?_<;>intro hc)|(refine An.mk ?_;intro x hx))
  all_goals rfl
theorem k_IsConsistent (l : List (List Int)) (n : Int) (hl : Bnd.ok l) : CALLB Γ T 29 [] [eL eR l, .i n] = some (.b (isCons l n), []) := by
  have hd := k_StrataOf l n hl
  by_cases hi : isCons l n = true
  · rw [hi, if_pos rfl] at hd
    rw [hi]
    apply call_ro' rfl rfl rfl rfl
    repeat' (first|refine st ?_|refine u0 ?_|refine u1 ?_|refine u2 ?_|refine u3 ?_|refine u4 ?_|refine u5 ?_|refine u6 ?_|refine u7 ?_|refine u8 ?_|refine u9 ?_|(apply i_ca;first|refine c0 (hd) ?_)|(refine Br.mk ?_ ?_<;>intro hc)|(refine An.mk ?_;intro x hx))
    all_goals rfl
  · have hi' : isCons l n = false := by simpa using hi
    rw [hi', if_neg (by simp)] at hd
    rw [hi']
    apply call_ro' rfl rfl rfl rfl
    repeat' (first|refine st ?_|refine u0 ?_|refine u1 ?_|refine u2 ?_|refine u3 ?_|refine u4 ?_|refine u5 ?_|refine u6 ?_|refine u7 ?_|refine u8 ?_|refine u9 ?_|(apply i_ca;first|refine c0 (hd) ?_)|(refine Br.mk ?_ ?_<;>intro hc)|(refine An.mk ?_;intro x hx))
    all_goals rfl
def mk (k : Int) (n : Nat) : List Int := (List.range n).map fun j => k + (j : Nat)
theorem mk_succ (k : Int) (n : Nat) : mk k (n + 1) = mk k n ++ [k + (n : Nat)] := by simp [mk, List.range_succ]
theorem mk_len (k : Int) (n : Nat) : (mk k n).length = n := by simp [mk]
theorem mark_IntS (l : List Int) (k : Int) (hl : l.length ≤ 2 ^ 40) (hk : 0 ≤ k ∧ k ≤ 2 ^ 50) : CALLB Γ T 47 [.io, .ro] [ioT 1 V.i l, .i k] = some (.i (k + (l.length : Nat)), [ioT 1 V.i (mk k l.length)]) := by
  by_cases h0 : l = []
  · subst h0
    refine call_io rfl rfl rfl rfl tkLA ?_
    refine st ?_
    refine wp_while (fun (_ : Unit) => ⟨envA [(0, .sl []), (1, .i k), (5, .i 0)], heapA [], 0, false⟩) (fun (_ : Unit) => True) (fun (_ : Unit) => 0) (()) nm ?_ ?_
    · trivial
    · intro _ _
      repeat' (first|refine st ?_|refine u0 ?_|refine u1 ?_|refine u2 ?_|refine u3 ?_|refine u4 ?_|refine u5 ?_|refine u6 ?_|refine u7 ?_|refine u8 ?_|refine u9 ?_|(refine Br.mk ?_ ?_<;>intro hc)|(refine An.mk ?_;intro x hx))
      refine io_r (fioS ?_)
      simp
  · rw [ioT_ne h0, ioT_ne (by intro h; exact h0 (List.length_eq_zero_iff.1 (by rw [← mk_len k l.length, h]; rfl)))]
    refine call_io rfl rfl rfl rfl tkLA ?_
    refine st ?_
    refine wp_eachI (l) (fun _ _ => ()) (fun i (g : List Int × Int) => ⟨envA [(0, .hs 0 0 l.length l.length), (1, .i g.2), (5, .i (i : Nat))], heapA [some ⟨1, g.1.map V.i, false⟩], 1, false⟩) ((l, k)) (()) (fun i (g : List Int × Int) => g.1.length = l.length ∧ g.1.take i = mk k i ∧ g.2 = k + (i : Nat)) nm ?_ ?_ ?_ ?_
    · rfl
    · exact ⟨rfl, rfl, by simp⟩
    · rintro i ⟨g, q⟩ x hi hx hm hF ⟨hg, hgt, rfl⟩
      dsimp only at hg hgt ⊢
      repeat' (first|refine st ?_|refine u0 ?_|refine u1 ?_|refine u2 ?_|refine u3 ?_|refine u4 ?_|refine u5 ?_|refine u6 ?_|refine u7 ?_|refine u8 ?_|refine u9 ?_|(refine Br.mk ?_ ?_<;>intro hc)|(refine An.mk ?_;intro x hx))
      exact ei_n (g.set i (k + (i : Nat)), k + (i : Nat) + 1) rfl ⟨by simpa using hg, by rw [take_set (by omega), hgt, mk_succ], by show k + (i : Nat) + 1 = k + ((i + 1 : Nat) : Int); omega⟩ nm
    · rintro ⟨g, q⟩ hF ⟨hg, hgt, rfl⟩
      dsimp only at hg hgt ⊢
      repeat' (first|refine st ?_|refine u0 ?_|refine u1 ?_|refine u2 ?_|refine u3 ?_|refine u4 ?_|refine u5 ?_|refine u6 ?_|refine u7 ?_|refine u8 ?_|refine u9 ?_|(refine Br.mk ?_ ?_<;>intro hc)|(refine An.mk ?_;intro x hx))
      have hm : g = mk k l.length := by rw [← hgt, ← hg, List.take_length]
      exact io_r (fioN rfl rfl (gv_hs ⟨hm⟩ rfl hg.symm (fun _ => okA)))
theorem ok_nilL {α : Type} [Bnd α] : Bnd.ok ([] : List α) := ⟨by simp, by simp⟩
/-- A list, marked from k on: 'f': an element marked; 'c': how many marks. -/
def mkS {α : Type} (f : Int → α → α) (c : α → Nat) : Int → List α → List α
  | _, [] => []
  | k, a :: l => f k a :: mkS f c (k + (c a : Nat)) l
def cnS {α : Type} (c : α → Nat) (l : List α) : Nat := (l.map c).sum
section
variable {α : Type} {f : Int → α → α} {c : α → Nat}
theorem mkS_len : ∀ (k : Int) (l : List α), (mkS f c k l).length = l.length
  | _, [] => rfl
  | k, a :: l => by simp [mkS, mkS_len]
theorem mkS_get : ∀ (k : Int) (l : List α) (i : Nat) (a : α), l[i]? = some a → (mkS f c k l)[i]? = some (f (k + (cnS c (l.take i) : Nat)) a)
  | _, [], _, _, h => by simp at h
  | k, b :: l, 0, a, h => by
    obtain rfl : b = a := by simpa using h
    simp [mkS, cnS]
  | k, b :: l, i + 1, a, h => by
    have := mkS_get (k + (c b : Nat)) l i a (by simpa using h)
    simp only [mkS, List.getElem?_cons_succ, this, cnS, List.take_succ_cons, List.map_cons, List.sum_cons]
    rw [show k + (c b : Nat) + (((l.take i).map c).sum : Nat) = k + ((c b + ((l.take i).map c).sum : Nat) : Int) by push_cast; omega]
theorem cnS_succ {l : List α} {i : Nat} {a : α} (h : l[i]? = some a) : cnS c (l.take (i + 1)) = cnS c (l.take i) + c a := by
  rw [List.take_add_one, h]; simp [cnS]
theorem cnS_all {l : List α} : cnS c (l.take l.length) = cnS c l := by rw [List.take_length]
theorem cnS_le {l : List α} {b : Nat} (h : ∀ a ∈ l, c a ≤ b) : cnS c l ≤ l.length * b := by
  induction l with
  | nil => simp [cnS]
  | cons a l ih =>
    have h1 := h a (by simp)
    have h2 := ih fun x hx => h x (by simp [hx])
    simp only [cnS, List.map_cons, List.sum_cons, List.length_cons, Nat.add_mul] at h2 ⊢
    omega
theorem cnS_take : ∀ {l : List α} {i : Nat}, cnS c (l.take i) ≤ cnS c l
  | [], i => by simp [cnS]
  | a :: l, 0 => by simp [cnS]
  | a :: l, i + 1 => by
    have := cnS_take (l := l) (i := i)
    simp only [cnS, List.take_succ_cons, List.map_cons, List.sum_cons] at this ⊢
    omega
theorem mkS_ne {k : Int} : ∀ {l : List α}, l ≠ [] → mkS f c k l ≠ []
  | [], h => absurd rfl h
  | _ :: _, _ => by simp [mkS]
end
abbrev mkRowS (k : Int) (l : List (List Int)) : List (List Int) := mkS (fun k r => mk k r.length) List.length k l
theorem cn_RowS {l : List (List Int)} (h : Bnd.ok l) : cnS List.length l ≤ 2 ^ 40 := by
  have h1 := cnS_le (c := List.length) (l := l) (b := 2 ^ 20) fun a ha => ok_len (ok_mem h ha)
  have h2 := ok_len h
  have : l.length * 2 ^ 20 ≤ 2 ^ 20 * 2 ^ 20 := Nat.mul_le_mul_right _ h2
  omega
theorem mark_RowS (l : List (List Int)) (k : Int) (hl : Bnd.ok l) (hk : 0 ≤ k ∧ k ≤ 2 ^ 45) : CALLB Γ T 46 [.io, .ro] [ioT 1 oRow l, .i k] = some (.i (k + (cnS List.length l : Nat)), [ioT 1 oRow (mkRowS k l)]) := by
  have hle := ok_len hl
  have hcn := cn_RowS hl
  by_cases h0 : l = []
  · subst h0
    refine call_io rfl rfl rfl rfl tkLA ?_
    refine st ?_
    refine wp_while (fun (_ : Unit) => ⟨envA [(0, .sl []), (1, .i k), (5, .i 0)], heapA [], 0, false⟩) (fun (_ : Unit) => True) (fun (_ : Unit) => 0) (()) nm ?_ ?_
    · trivial
    · intro _ _
      repeat' (first|refine st ?_|refine u0 ?_|refine u1 ?_|refine u2 ?_|refine u3 ?_|refine u4 ?_|refine u5 ?_|refine u6 ?_|refine u7 ?_|refine u8 ?_|refine u9 ?_|(refine Br.mk ?_ ?_<;>intro hc)|(refine An.mk ?_;intro x hx))
      refine io_r (fioS ?_)
      simp [cnS]
  · rw [ioT_ne h0, ioT_ne (mkS_ne h0)]
    refine call_io rfl rfl rfl rfl tkLA ?_
    refine st ?_
    refine wp_eachI (l) (fun _ _ => ()) (fun i (g : List (List Int) × Int) => ⟨envA [(0, .hs 0 0 l.length l.length), (1, .i g.2), (5, .i (i : Nat))], heapA [some ⟨1, g.1.map oRow, false⟩], 1, false⟩) ((l, k)) (()) (fun i (g : List (List Int) × Int) => g.1 = mx i (mkRowS k l) l ∧ g.2 = k + (cnS List.length (l.take i) : Nat)) nm ?_ ?_ ?_ ?_
    · rfl
    · exact ⟨mx_0.symm, by simp [cnS]⟩
    · rintro i ⟨g, q⟩ x hi hx hm hF ⟨hg, rfl⟩
      dsimp only at hg ⊢
      have hA : (mkRowS k l).length = l.length := mkS_len _ _
      have hgi : g[i]? = some x := by rw [hg, mx_get hA hi]; exact hx
      have hgl : l.length = g.length := by rw [hg, mx_len hA]
      have hxl := ok_len (ok_mem hl hm)
      have hct := cnS_take (c := List.length) (l := l) (i := i)
      have hmk : x.length = (mk (k + (cnS List.length (l.take i) : Nat)) x.length).length := (mk_len _ _).symm
      repeat' (first|refine st ?_|refine u0 ?_|refine u1 ?_|refine u2 ?_|refine u3 ?_|refine u4 ?_|refine u5 ?_|refine u6 ?_|refine u7 ?_|refine u8 ?_|refine u9 ?_|(apply i_ca;first|(apply i_f 47;refine ci (mark_IntS x (k + (cnS List.length (l.take i) : Nat)) (by omega) (by omega)) ?_ ?_))|(refine Br.mk ?_ ?_<;>intro hc)|(refine An.mk ?_;intro x hx))
      · exact mk_len _ _
      repeat' (first|refine st ?_|refine u0 ?_|refine u1 ?_|refine u2 ?_|refine u3 ?_|refine u4 ?_|refine u5 ?_|refine u6 ?_|refine u7 ?_|refine u8 ?_|refine u9 ?_|(refine Br.mk ?_ ?_<;>intro hc)|(refine An.mk ?_;intro x hx))
      refine ei_n (g.set i (mk (k + (cnS List.length (l.take i) : Nat)) x.length), k + (cnS List.length (l.take i) : Nat) + (x.length : Nat)) rfl ⟨?_, ?_⟩ nm
      · rw [hg]; exact mx_set hA (mkS_get k l i x hx)
      · rw [cnS_succ hx]; push_cast; omega
    · rintro ⟨g, q⟩ hF ⟨hg, rfl⟩
      dsimp only at hg ⊢
      have hA : (mkRowS k l).length = l.length := mkS_len _ _
      rw [mx_end hA] at hg
      have hgl : l.length = g.length := by rw [hg, hA]
      repeat' (first|refine st ?_|refine u0 ?_|refine u1 ?_|refine u2 ?_|refine u3 ?_|refine u4 ?_|refine u5 ?_|refine u6 ?_|refine u7 ?_|refine u8 ?_|refine u9 ?_|(refine Br.mk ?_ ?_<;>intro hc)|(refine An.mk ?_;intro x hx))
      refine io_r (fioN ?_ rfl (gv_hs ⟨hg⟩ rfl hgl (fun _ => okA)))
      rw [cnS_all]
def heldI : List Int → Int → Int
  | [], k => k
  | x :: l, k => if x = k then heldI l (k + 1) else -1
theorem held_IntS' (l : List Int) (k : Int) (hl : l.length ≤ 2 ^ 40) (hk : 0 ≤ k ∧ k ≤ 2 ^ 50) : CALLB Γ T 48 [] [eI l, .i k] = some (.i (heldI l k), []) := by
  apply call_ro' rfl rfl rfl rfl
  repeat' (first|refine st ?_|refine u0 ?_|refine u1 ?_|refine u2 ?_|refine u3 ?_|refine u4 ?_|refine u5 ?_|refine u6 ?_|refine u7 ?_|refine u8 ?_|refine u9 ?_|(refine Br.mk ?_ ?_<;>intro hc)|(refine An.mk ?_;intro x hx))
  refine wp_eachI (l) (fun r g => heldI r g) (fun i (g : Int) => ⟨envA [(0, eI l), (1, .i g), (5, .i (i : Nat))], heapA [], 0, false⟩) (k) (heldI l k) (fun i (g : Int) => g = k + (i : Nat)) nm ?_ ?_ ?_ ?_
  · rfl
  · simp
  · intro i g x hi hx hm hF hI
    repeat' (first|refine st ?_|refine u0 ?_|refine u1 ?_|refine u2 ?_|refine u3 ?_|refine u4 ?_|refine u5 ?_|refine u6 ?_|refine u7 ?_|refine u8 ?_|refine u9 ?_|(refine Br.mk ?_ ?_<;>intro hc)|(refine An.mk ?_;intro x hx))
    · rw [← hF]; simp [heldI, hc]
    · exact ei_n (g + 1) (by rw [← hF]; simp_all [heldI]) (by omega) nm
  · intro g hF hI
    repeat' (first|refine st ?_|refine u0 ?_|refine u1 ?_|refine u2 ?_|refine u3 ?_|refine u4 ?_|refine u5 ?_|refine u6 ?_|refine u7 ?_|refine u8 ?_|refine u9 ?_|(refine Br.mk ?_ ?_<;>intro hc)|(refine An.mk ?_;intro x hx))
    all_goals first | (rw [← hF]; rfl) | trace_state
theorem heldI_mk (n : Nat) : ∀ k : Int, heldI (mk k n) k = k + (n : Nat) := by
  induction n with
  | zero => intro k; simp [mk, heldI]
  | succ n ih =>
    intro k
    have : mk k (n + 1) = k :: mk (k + 1) n := by
      simp only [mk, List.range_succ_eq_map, List.map_cons, List.map_map]
      refine congr (congrArg _ (by simp)) (List.map_congr_left fun a _ => ?_)
      simp only [Function.comp]; omega
    rw [this, heldI, if_pos rfl, ih]; omega
theorem held_IntS (n : Nat) (k : Int) (hl : n ≤ 2 ^ 40) (hk : 0 ≤ k ∧ k ≤ 2 ^ 50) : CALLB Γ T 48 [] [eI (mk k n), .i k] = some (.i (k + (n : Nat)), []) := by
  rw [← heldI_mk n k]
  exact held_IntS' _ _ (by rw [mk_len]; exact hl) hk
theorem markN_IntS (k : Int) : CALLB Γ T 47 [.io, .ro] [.e0, .i k] = some (.i k, [.e0]) := by
  refine call_io rfl rfl rfl rfl tkLA ?_
  refine st ?_
  refine wp_while (fun (_ : Unit) => ⟨envA [(0, .e0), (1, .i k), (5, .i 0)], heapA [], 0, false⟩) (fun (_ : Unit) => True) (fun (_ : Unit) => 0) (()) nm ?_ ?_
  · trivial
  · intro _ _
    repeat' (first|refine st ?_|refine u0 ?_|refine u1 ?_|refine u2 ?_|refine u3 ?_|refine u4 ?_|refine u5 ?_|refine u6 ?_|refine u7 ?_|refine u8 ?_|refine u9 ?_|(refine Br.mk ?_ ?_<;>intro hc)|(refine An.mk ?_;intro x hx))
    all_goals first | (exfalso; simp at hc; done) | skip
    exact io_r (fioN rfl rfl (gv_e0 ⟨trivial⟩))
theorem pickD_app (l : List (List Int)) (r : List (List Int)) (i : Int) (s : List Int) (x : List Int) (h : l[i.toNat]? = some x) : r ++ pickD l (i :: s) = (r ++ [x]) ++ pickD l s := by
  simp [pickD, List.getD_eq_getElem?_getD, h]
theorem k_pick (l : List (List Int)) (set : List Int) (hs : Bnd.ok set) (hin : ∀ i ∈ set, 0 ≤ i ∧ i < l.length) : CALLB Γ T 66 [.ro, .io] [eL eR l, ioT 1 V.i set] = some (oL 1 eR (pickD l set), [ioT 1 V.i set]) := by
  have hle := ok_len hs
  by_cases h0 : set = []
  · subst h0
    refine call_io rfl rfl rfl rfl tkLA ?_
    repeat' (first|refine st ?_|refine u0 ?_|refine u1 ?_|refine u2 ?_|refine u3 ?_|refine u4 ?_|refine u5 ?_|refine u6 ?_|refine u7 ?_|refine u8 ?_|refine u9 ?_|(refine Br.mk ?_ ?_<;>intro hc)|(refine An.mk ?_;intro x hx))
    refine wp_while (fun (_ : Unit) => ⟨envA [(0, eL eR l), (1, .sl []), (5, .hs 0 0 (([] : List (List Int))).length (([] : List (List Int))).length), (9, .sl []), (10, .i 0), (11, .i 0)], heapA [some ⟨1, (([] : List (List Int))).map eR, false⟩], 1, false⟩) (fun (_ : Unit) => True) (fun (_ : Unit) => 0) (()) nm ?_ ?_
    · trivial
    · intro _ _
      repeat' (first|refine st ?_|refine u0 ?_|refine u1 ?_|refine u2 ?_|refine u3 ?_|refine u4 ?_|refine u5 ?_|refine u6 ?_|refine u7 ?_|refine u8 ?_|refine u9 ?_|(refine Br.mk ?_ ?_<;>intro hc)|(refine An.mk ?_;intro x hx))
      exact io_r (fioV (gv_hs (f := eR) (l := pickD l []) (l' := []) ⟨rfl⟩ rfl rfl (fun _ => okA)) gv_sl)
  · rw [ioT_ne h0]
    refine call_io rfl rfl rfl rfl tkLA ?_
    repeat' (first|refine st ?_|refine u0 ?_|refine u1 ?_|refine u2 ?_|refine u3 ?_|refine u4 ?_|refine u5 ?_|refine u6 ?_|refine u7 ?_|refine u8 ?_|refine u9 ?_|(refine Br.mk ?_ ?_<;>intro hc)|(refine An.mk ?_;intro x hx))
    refine wp_eachI (set) (fun r g => g ++ pickD l r) (fun i (g : List (List Int)) => ⟨envA [(0, eL eR l), (1, .hs 1 0 set.length set.length), (5, .hs 0 0 (g).length (g).length), (9, .hs 1 0 set.length set.length), (10, .i (set.length : Nat)), (11, .i (i : Nat))], heapA [some ⟨1, (g).map eR, false⟩, some ⟨1, set.map V.i, false⟩], 2, false⟩) ([]) (pickD l set) (fun i (g : List (List Int)) => g.length = i) nm ?_ ?_ ?_ ?_
    · simp
    · rfl
    · intro i g x hi hx hm hF hI
      obtain ⟨hx0, hx1⟩ := hin x hm
      obtain ⟨r, hr⟩ : ∃ r, l[x.toNat]? = some r := ⟨_, List.getElem?_eq_getElem (by omega)⟩
      repeat' (first|refine st ?_|refine u0 ?_|refine u1 ?_|refine u2 ?_|refine u3 ?_|refine u4 ?_|refine u5 ?_|refine u6 ?_|refine u7 ?_|refine u8 ?_|refine u9 ?_|(refine Br.mk ?_ ?_<;>intro hc)|(refine An.mk ?_;intro x hx))
      exact ei_n (g ++ [r]) (by rw [← hF, pickD_app l g x _ r hr]) (by simp [hI]) nm
    · intro g hF hI
      repeat' (first|refine st ?_|refine u0 ?_|refine u1 ?_|refine u2 ?_|refine u3 ?_|refine u4 ?_|refine u5 ?_|refine u6 ?_|refine u7 ?_|refine u8 ?_|refine u9 ?_|(refine Br.mk ?_ ?_<;>intro hc)|(refine An.mk ?_;intro x hx))
      exact io_r (fioV (gv_hs ⟨by simpa [pickD] using hF⟩ rfl rfl (fun _ => okA)) (gv_hs ⟨rfl⟩ rfl rfl (fun _ => okA)))
theorem k_pick' (l : List (List Int)) (set : List Int) (hs : Bnd.ok set) (hin : ∀ i ∈ set, 0 ≤ i ∧ i < l.length) : CALLB Γ T 66 [.ro, .io] [eL eR l, eI set] = some (oL 1 eR (pickD l set), [eI set]) := by
  have hle := ok_len hs
  refine call_io rfl rfl rfl rfl tkLA ?_
  repeat' (first|refine st ?_|refine u0 ?_|refine u1 ?_|refine u2 ?_|refine u3 ?_|refine u4 ?_|refine u5 ?_|refine u6 ?_|refine u7 ?_|refine u8 ?_|refine u9 ?_|(refine Br.mk ?_ ?_<;>intro hc)|(refine An.mk ?_;intro x hx))
  refine wp_eachI (set) (fun r g => g ++ pickD l r) (fun i (g : List (List Int)) => ⟨envA [(0, eL eR l), (1, eI set), (5, .hs 0 0 (g).length (g).length), (9, eI set), (10, .i set.length), (11, .i (i : Nat))], heapA [some ⟨1, (g).map eR, false⟩], 1, false⟩) ([]) (pickD l set) (fun i (g : List (List Int)) => g.length = i) nm ?_ ?_ ?_ ?_
  · simp
  · rfl
  · intro i g x hi hx hm hF hI
    obtain ⟨hx0, hx1⟩ := hin x hm
    obtain ⟨r, hr⟩ : ∃ r, l[x.toNat]? = some r := ⟨_, List.getElem?_eq_getElem (by omega)⟩
    repeat' (first|refine st ?_|refine u0 ?_|refine u1 ?_|refine u2 ?_|refine u3 ?_|refine u4 ?_|refine u5 ?_|refine u6 ?_|refine u7 ?_|refine u8 ?_|refine u9 ?_|(refine Br.mk ?_ ?_<;>intro hc)|(refine An.mk ?_;intro x hx))
    exact ei_n (g ++ [r]) (by rw [← hF, pickD_app l g x _ r hr]) (by simp [hI]) nm
  · intro g hF hI
    repeat' (first|refine st ?_|refine u0 ?_|refine u1 ?_|refine u2 ?_|refine u3 ?_|refine u4 ?_|refine u5 ?_|refine u6 ?_|refine u7 ?_|refine u8 ?_|refine u9 ?_|(refine Br.mk ?_ ?_<;>intro hc)|(refine An.mk ?_;intro x hx))
    exact io_r (fioV (gv_hs ⟨by simpa [pickD] using hF⟩ rfl rfl (fun _ => okA)) gv_sl)
def dropL (l : List Int) (k : Nat) : List Int := l.take k ++ l.drop (k + 1)
theorem k_dropped (l : List Int) (k : Nat) (hl : Bnd.ok l) (hk : k < l.length) : CALLB Γ T 65 [] [eI l, .i (k : Nat)] = some (oI (dropL l k), []) := by
  have hle := ok_len hl
  apply call_ro' rfl rfl rfl rfl
  repeat' (first|refine st ?_|refine u0 ?_|refine u1 ?_|refine u2 ?_|refine u3 ?_|refine u4 ?_|refine u5 ?_|refine u6 ?_|refine u7 ?_|refine u8 ?_|refine u9 ?_|(refine Br.mk ?_ ?_<;>intro hc)|(refine An.mk ?_;intro x hx))
  all_goals first | (simp_all [dropL]; done) | exact fin (P := ([] : List Int) = dropL l k) (by simp_all [dropL]) (g := fun p => gv_hs (l' := []) (f := V.i) p rfl rfl (fun _ => okA))
theorem k_l17Some (l : List (List Int)) (set : List Int) (hl : Bnd.ok l) (hs : Bnd.ok set) (hin : ∀ i ∈ set, 0 ≤ i ∧ i < l.length) : CALLB Γ T 69 [] [eL eR l, eI set] = some (oL 1 oR (pickD l set), []) := by
  have hle := ok_len hs
  have hle2 := ok_len hl
  apply call_ro' rfl rfl rfl rfl
  repeat' (first|refine st ?_|refine u0 ?_|refine u1 ?_|refine u2 ?_|refine u3 ?_|refine u4 ?_|refine u5 ?_|refine u6 ?_|refine u7 ?_|refine u8 ?_|refine u9 ?_|(refine Br.mk ?_ ?_<;>intro hc)|(refine An.mk ?_;intro x hx))
  refine wp_eachI (set) (fun r g => g ++ pickD l r) (fun i (g : List (List Int)) => ⟨envA [(0, eL eR l), (1, eI set), (5, .hs 0 0 i i), (6, .i (i : Nat))], heapA [some ⟨1, g.map oR, false⟩], 1, false⟩) ([]) (pickD l set) (fun i (g : List (List Int)) => i = g.length) nm ?_ ?_ ?_ ?_
  · simp
  · rfl
  · intro i g x hi hx hm hF hI
    subst hI
    obtain ⟨hx0, hx1⟩ := hin x hm
    obtain ⟨r, hr⟩ : ∃ r, l[x.toNat]? = some r := ⟨_, List.getElem?_eq_getElem (by omega)⟩
    have hrl := ok_len (ok_mem hl (List.mem_of_getElem? hr))
    repeat' (first|refine st ?_|refine u0 ?_|refine u1 ?_|refine u2 ?_|refine u3 ?_|refine u4 ?_|refine u5 ?_|refine u6 ?_|refine u7 ?_|refine u8 ?_|refine u9 ?_|(refine Br.mk ?_ ?_<;>intro hc)|(refine An.mk ?_;intro x hx))
    · exact ei_n (g ++ [r]) (by rw [← hF, pickD_app l g x _ r hr]) (by simp) (by subst hc; exact nm)
    · exact ei_n (g ++ [r]) (by rw [← hF, pickD_app l g x _ r hr]) (by simp) nm
  · intro g hF hI
    repeat' (first|refine st ?_|refine u0 ?_|refine u1 ?_|refine u2 ?_|refine u3 ?_|refine u4 ?_|refine u5 ?_|refine u6 ?_|refine u7 ?_|refine u8 ?_|refine u9 ?_|(refine Br.mk ?_ ?_<;>intro hc)|(refine An.mk ?_;intro x hx))
    simpa [pickD] using hF
/-- Strictly ascending behind p, and from 0 to n - 1. -/
def strictF (n : Int) : Option Int → List Int → Bool
  | _, [] => true
  | p, x :: l => decide (0 ≤ x ∧ x < n) && (match p with | some y => decide (y < x) | none => true) && strictF n (some x) l
def strictL (l : List Int) (n : Int) : Bool := strictF n none l
theorem k_isStrict (l : List Int) (n : Int) (hl : Bnd.ok l) (hn : 0 ≤ n ∧ n ≤ 2 ^ 20) : CALLB Γ T 74 [] [eI l, .i n] = some (.b (strictL l n), []) := by
  have hle := ok_len hl
  apply call_ro' rfl rfl rfl rfl
  repeat' (first|refine st ?_|refine u0 ?_|refine u1 ?_|refine u2 ?_|refine u3 ?_|refine u4 ?_|refine u5 ?_|refine u6 ?_|refine u7 ?_|refine u8 ?_|refine u9 ?_|(refine Br.mk ?_ ?_<;>intro hc)|(refine An.mk ?_;intro x hx))
  refine wp_eachI (l) (fun r g => strictF n g r) (fun i (g : Option Int) => ⟨envA [(0, eI l), (1, .i n), (7, eI l), (8, .i l.length), (9, .i (i : Nat))], heapA [], 0, false⟩) (none) (strictL l n) (fun i (g : Option Int) => (i = 0 ∧ g = none) ∨ (0 < i ∧ ∃ y, g = some y ∧ l[((i : Int) - 1).toNat]? = some y)) nm ?_ ?_ ?_ ?_
  · rfl
  · exact .inl ⟨rfl, rfl⟩
  · intro i g x hi hx hm hF hI
    rcases hI with ⟨rfl, rfl⟩ | ⟨hi0, y, rfl, hy⟩
    · repeat' (first|refine st ?_|refine u0 ?_|refine u1 ?_|refine u2 ?_|refine u3 ?_|refine u4 ?_|refine u5 ?_|refine u6 ?_|refine u7 ?_|refine u8 ?_|refine u9 ?_|(apply i_ca;first|(apply i_f 91;refine c0 (k_within x 0 (n - 1)) ?_))|(refine Br.mk ?_ ?_<;>intro hc)|(refine An.mk ?_;intro x hx))
      · rw [← hF, strictF, decide_eq_false (by omega)]; rfl
      · exact ei_n (some x) (by rw [← hF, strictF, decide_eq_true (by omega)]; rfl) (.inr ⟨by omega, x, rfl, by simpa using hx⟩) nm
    · repeat' (first|refine st ?_|refine u0 ?_|refine u1 ?_|refine u2 ?_|refine u3 ?_|refine u4 ?_|refine u5 ?_|refine u6 ?_|refine u7 ?_|refine u8 ?_|refine u9 ?_|(apply i_ca;first|(apply i_f 91;refine c0 (k_within x 0 (n - 1)) ?_))|(refine Br.mk ?_ ?_<;>intro hc)|(refine An.mk ?_;intro x hx))
      · rw [← hF, strictF, decide_eq_false (by omega)]; rfl
      · rw [← hF, strictF, decide_eq_false (show ¬ y < x by omega), Bool.and_false]; rfl
      · exact ei_n (some x) (by rw [← hF, strictF, decide_eq_true (by omega)]; simp only [decide_eq_true (show y < x by omega), Bool.true_and]) (.inr ⟨by omega, x, rfl, by simpa using hx⟩) nm
  · intro g hF hI
    repeat' (first|refine st ?_|refine u0 ?_|refine u1 ?_|refine u2 ?_|refine u3 ?_|refine u4 ?_|refine u5 ?_|refine u6 ?_|refine u7 ?_|refine u8 ?_|refine u9 ?_|(refine Br.mk ?_ ?_<;>intro hc)|(refine An.mk ?_;intro x hx))
    rw [← hF]; rfl
theorem k_l17Set (l : List (List Int)) (set : List Int) (hl : Bnd.ok l) (hs : Bnd.ok set) : CALLB Γ T 76 [] [eL eR l, eI set] = some (.b (strictL set l.length), []) := by
  have hle := ok_len hs
  have hle2 := ok_len hl
  apply call_ro' rfl rfl rfl rfl
  repeat' (first|refine st ?_|refine u0 ?_|refine u1 ?_|refine u2 ?_|refine u3 ?_|refine u4 ?_|refine u5 ?_|refine u6 ?_|refine u7 ?_|refine u8 ?_|refine u9 ?_|(refine Br.mk ?_ ?_<;>intro hc)|(refine An.mk ?_;intro x hx))
  refine wp_eachI (set) (fun r g => strictF l.length g r) (fun i (g : Option Int) => ⟨envA [(0, eL eR l), (1, eI set), (5, .i (i : Nat))], heapA [], 0, false⟩) (none) (strictL set l.length) (fun i (g : Option Int) => (i = 0 ∧ g = none) ∨ (0 < i ∧ ∃ y, g = some y ∧ set[((i : Int) - 1).toNat]? = some y)) nm ?_ ?_ ?_ ?_
  · rfl
  · exact .inl ⟨rfl, rfl⟩
  · intro i g x hi hx hm hF hI
    rcases hI with ⟨rfl, rfl⟩ | ⟨hi0, y, rfl, hy⟩
    · repeat' (first|refine st ?_|refine u0 ?_|refine u1 ?_|refine u2 ?_|refine u3 ?_|refine u4 ?_|refine u5 ?_|refine u6 ?_|refine u7 ?_|refine u8 ?_|refine u9 ?_|(refine Br.mk ?_ ?_<;>intro hc)|(refine An.mk ?_;intro x hx))
      all_goals first | (rw [← hF, strictF, decide_eq_false (by omega)]; rfl) | exact ei_n (some x) (by rw [← hF, strictF, decide_eq_true (by omega)]; rfl) (.inr ⟨by omega, x, rfl, by simpa using hx⟩) nm
    · repeat' (first|refine st ?_|refine u0 ?_|refine u1 ?_|refine u2 ?_|refine u3 ?_|refine u4 ?_|refine u5 ?_|refine u6 ?_|refine u7 ?_|refine u8 ?_|refine u9 ?_|(refine Br.mk ?_ ?_<;>intro hc)|(refine An.mk ?_;intro x hx))
      all_goals first | (rw [← hF, strictF, decide_eq_false (by omega)]; rfl) | (rw [← hF, strictF, decide_eq_false (show ¬ y < x by omega), Bool.and_false]; rfl) | exact ei_n (some x) (by rw [← hF, strictF, decide_eq_true (by omega)]; simp only [decide_eq_true (show y < x by omega), Bool.true_and]) (.inr ⟨by omega, x, rfl, by simpa using hx⟩) nm
  · intro g hF hI
    repeat' (first|refine st ?_|refine u0 ?_|refine u1 ?_|refine u2 ?_|refine u3 ?_|refine u4 ?_|refine u5 ?_|refine u6 ?_|refine u7 ?_|refine u8 ?_|refine u9 ?_|(refine Br.mk ?_ ?_<;>intro hc)|(refine An.mk ?_;intro x hx))
    rw [← hF]; rfl
theorem strictF_mem {n : Int} : ∀ {l : List Int} {p : Option Int}, strictF n p l = true → ∀ x ∈ l, 0 ≤ x ∧ x < n
  | [], _, _ => by simp
  | y :: l, p, h => by
    simp only [strictF, Bool.and_eq_true, decide_eq_true_eq] at h
    intro x hx
    rcases List.mem_cons.1 hx with rfl | hx
    · exact h.1.1
    · exact strictF_mem h.2 x hx
theorem pickD_ok {l : List (List Int)} {set : List Int} (hl : Bnd.ok l) (hs : Bnd.ok set) (hin : ∀ i ∈ set, 0 ≤ i ∧ i < l.length) : Bnd.ok (pickD l set) := by
  refine ⟨by simp only [pickD, List.length_map]; exact hs.1, fun x hx => ?_⟩
  obtain ⟨y, hy, rfl⟩ := List.mem_map.1 hx
  have h6 := hin y hy
  rw [List.getD_eq_getElem?_getD, List.getElem?_eq_getElem (by omega)]
  exact ok_mem hl (List.getElem_mem _)
theorem dropL_mem {l : List Int} {k : Nat} : ∀ x ∈ dropL l k, x ∈ l := fun x hx => by
  rcases List.mem_append.1 hx with h | h
  · exact List.mem_of_mem_take h
  · exact List.mem_of_mem_drop h
theorem dropL_len {l : List Int} {k : Nat} : (dropL l k).length ≤ l.length := by simp [dropL]; omega
def isClashL (l : List (List Int)) (n : Int) (set : List Int) : Bool := areRows l n && (strictL set l.length && (!isCons (pickD l set) n && (List.range set.length).all fun k => isCons (pickD l (dropL set k)) n))
def dcG (l : List (List Int)) (n : Int) : Nat → Nat → List Int → List Int
  | 0, _, o => o
  | m + 1, i, o => dcG l n m (i + 1) (if isCons (pickD l (o ++ [(i : Int)])) n then o ++ [(i : Int)] else o)
def dropCl (l : List (List Int)) (n : Int) : List Int := if areRows l n = true then dcG l n l.length 0 [] else []
theorem dcG_len {l : List (List Int)} {n : Int} : ∀ {m i : Nat} {o : List Int}, (dcG l n m i o).length ≤ o.length + m
  | 0, _, _ => Nat.le_refl _
  | m + 1, i, o => by
    have := dcG_len (l := l) (n := n) (m := m) (i := i + 1) (o := if isCons (pickD l (o ++ [(i : Int)])) n then o ++ [(i : Int)] else o)
    simp only [dcG]
    refine Nat.le_trans this ?_
    split <;> simp <;> omega
/-- What holds of the rows taken up to i. -/
structure DcI (l : List (List Int)) (n : Int) (R : List Int) (i : Nat) (o : List Int) : Prop where
  hi : i ≤ l.length
  F : dcG l n (l.length - i) i o = R
  mem : ∀ x ∈ o, 0 ≤ x ∧ x < l.length
  len : o.length ≤ i
theorem DcI.step {l : List (List Int)} {n : Int} {R : List Int} {i : Nat} {o : List Int} (h : DcI l n R i o) (hi : i < l.length) {b : Bool} (hb : isCons (pickD l (o ++ [(i : Int)])) n = b) : DcI l n R (i + 1) (if b then o ++ [(i : Int)] else o) := by
  subst hb
  have hF := h.F
  rw [show l.length - i = (l.length - (i + 1)) + 1 by omega] at hF
  have h1 := h.len
  refine ⟨hi, hF, fun x hx => ?_, ?_⟩
  · split at hx
    · rcases List.mem_append.1 hx with h2 | h2
      · exact h.mem x h2
      · rw [List.mem_singleton.1 h2]; omega
    · exact h.mem x hx
  · split <;> first | omega | (simp; omega)
theorem app1_in {l : List (List Int)} {i : Nat} {o : List Int} (h : ∀ x ∈ o, 0 ≤ x ∧ x < l.length) (hi : i < l.length) : ∀ x ∈ o ++ [(i : Int)], 0 ≤ x ∧ x < l.length := fun x hx => by
  rcases List.mem_append.1 hx with h2 | h2
  · exact h x h2
  · rw [List.mem_singleton.1 h2]; omega
/-- The rows of a number's bits. -/
def bitM (m : Int) (i : Nat) : Bool := decide (IntKind.i64.wrap ((BitVec.ofInt IntKind.i64.bits (m.fdiv (2 ^ min i 64)) &&& BitVec.ofInt IntKind.i64.bits 1).toNat : Int) = 1)
def setG (m : Int) : Nat → Nat → List Int → List Int
  | 0, _, o => o
  | k + 1, i, o => setG m k (i + 1) (if bitM m i then o ++ [(i : Int)] else o)
def setM (l : List (List Int)) (m : Int) : List Int := setG m l.length 0 []
def lcG (l : List (List Int)) (n : Int) : Nat → Nat → List Int → List Int
  | 0, _, b => b
  | k + 1, m, b => lcG l n k (m + 1) (if b.length < (setM l m).length ∧ isCons (pickD l (setM l m)) n = true then setM l m else b)
def largeL (l : List (List Int)) (n : Int) : List Int := if areRows l n = true ∧ l.length ≤ 8 then lcG l n (2 ^ l.length) 0 [] else []
structure SgI (l : List (List Int)) (m : Int) (i : Nat) (o : List Int) : Prop where
  hi : i ≤ l.length
  F : setG m (l.length - i) i o = setM l m
  mem : ∀ x ∈ o, 0 ≤ x ∧ x < l.length
  len : o.length ≤ i
theorem SgI.step {l : List (List Int)} {m : Int} {i : Nat} {o : List Int} (h : SgI l m i o) (hi : i < l.length) {b : Bool} (hb : bitM m i = b) : SgI l m (i + 1) (if b then o ++ [(i : Int)] else o) := by
  subst hb
  have hF := h.F
  rw [show l.length - i = (l.length - (i + 1)) + 1 by omega] at hF
  have h1 := h.len
  refine ⟨hi, hF, fun x hx => ?_, ?_⟩
  · split at hx
    · exact app1_in h.mem hi x hx
    · exact h.mem x hx
  · split <;> first | omega | (simp; omega)
theorem setG_in {l : List (List Int)} {m : Int} : ∀ {k i : Nat} {o : List Int}, i + k ≤ l.length → (∀ x ∈ o, 0 ≤ x ∧ x < l.length) → o.length ≤ i → (∀ x ∈ setG m k i o, 0 ≤ x ∧ x < l.length) ∧ (setG m k i o).length ≤ i + k
  | 0, _, _, _, h, hl => ⟨h, hl⟩
  | k + 1, i, o, hk, h, hl => by
    have := setG_in (l := l) (m := m) (k := k) (i := i + 1) (o := if bitM m i then o ++ [(i : Int)] else o) (by omega) (by
      split
      · exact app1_in h (by omega)
      · exact h) (by split <;> first | omega | (simp; omega))
    simp only [setG]
    exact ⟨this.1, by omega⟩
theorem setM_in {l : List (List Int)} {m : Int} : (∀ x ∈ setM l m, 0 ≤ x ∧ x < l.length) ∧ (setM l m).length ≤ l.length := by
  have := setG_in (l := l) (m := m) (k := l.length) (i := 0) (o := []) (by omega) (by simp) (by simp)
  simpa [setM] using this
theorem lcG_len {l : List (List Int)} {n : Int} : ∀ {k m : Nat} {b : List Int}, b.length ≤ l.length → (lcG l n k m b).length ≤ l.length
  | 0, _, _, h => h
  | k + 1, m, b, h => by
    simp only [lcG]
    refine lcG_len ?_
    split
    · exact setM_in.2
    · exact h
structure LcI (l : List (List Int)) (n : Int) (R : List Int) (m : Nat) (b : List Int) : Prop where
  hm : m ≤ 2 ^ l.length
  F : lcG l n (2 ^ l.length - m) m b = R
  len : b.length ≤ l.length
theorem LcI.step {l : List (List Int)} {n : Int} {R : List Int} {m : Nat} {b : List Int} (h : LcI l n R m b) (hm : m < 2 ^ l.length) {X : List Int} (hX : (if b.length < (setM l m).length ∧ isCons (pickD l (setM l m)) n = true then setM l m else b) = X) : LcI l n R (m + 1) X := by
  subst hX
  have hF := h.F
  rw [show 2 ^ l.length - m = (2 ^ l.length - (m + 1)) + 1 by omega] at hF
  refine ⟨hm, hF, ?_⟩
  split
  · exact setM_in.2
  · exact h.len
theorem k_LargestConsistent (l : List (List Int)) (n : Int) (hl : Bnd.ok l) : CALLB Γ T 26 [] [eL eR l, .i n] = some (if areRows l n = true ∧ l.length ≤ 8 then oI (largeL l n) else .e0, []) := by
  have hle := ok_len hl
  by_cases hg : areRows l n = true ∧ l.length ≤ 8
  · rw [if_pos hg]
    have hR : lcG l n (2 ^ l.length) 0 [] = largeL l n := by rw [largeL, if_pos hg]
    have ha := k_AreRows l n hl
    rw [hg.1] at ha
    have hl8 := hg.2
    have h28 : 2 ^ l.length ≤ 2 ^ 8 := Nat.pow_le_pow_right (by decide) hl8
    apply call_ro' rfl rfl rfl rfl
    repeat' (first|refine st ?_|refine u0 ?_|refine u1 ?_|refine u2 ?_|refine u3 ?_|refine u4 ?_|refine u5 ?_|refine u6 ?_|refine u7 ?_|refine u8 ?_|refine u9 ?_|refine u10 ?_|refine u11 ?_|refine v0 ?_|refine v2 ?_|refine v3 ?_|(apply i_ca;first|(apply i_f 64;refine c0 (ha) ?_))|(refine Br.mk ?_ ?_<;>intro hc<;>try contradiction)|(refine An.mk ?_;intro x hx))
    refine wp_while (fun (x : Nat × List Int) => ⟨envA [(0, eL eR l), (1, .i n), (5, .hs 0 0 (x.2).length (x.2).length), (21, .i ((2 ^ l.length : Nat) : Int)), (22, .i (x.1 : Nat))], heapA [some ⟨1, (x.2).map V.i, false⟩], 1, false⟩) (fun (x : Nat × List Int) => LcI l n (largeL l n) x.1 x.2) (fun (x : Nat × List Int) => 2 ^ l.length - x.1) ((0, [])) nm ?_ ?_
    · exact ⟨Nat.zero_le _, hR, by simp⟩
    · rintro ⟨m, b⟩ hI
      have h1 := hI.hm
      have h2 := hI.len
      dsimp only at h1 h2 ⊢
      by_cases hlt : m < 2 ^ l.length
      · have hmu : 2 ^ l.length - (m + 1) < 2 ^ l.length - m := by omega
        repeat' (first|refine st ?_|refine u0 ?_|refine u1 ?_|refine u2 ?_|refine u3 ?_|refine u4 ?_|refine u5 ?_|refine u6 ?_|refine u7 ?_|refine u8 ?_|refine u9 ?_|refine u10 ?_|refine u11 ?_|refine v0 ?_|refine v2 ?_|refine v3 ?_|(refine Br.mk ?_ ?_<;>intro hc<;>try contradiction)|(refine An.mk ?_;intro x hx))
        refine wp_while (fun (x : Nat × List Int) => ⟨envA [(0, eL eR l), (1, .i n), (5, .hs 0 0 (b).length (b).length), (6, .i (m : Nat)), (7, .hs 1 0 (x.2).length (x.2).length), (21, .i ((2 ^ l.length : Nat) : Int)), (22, .i (m : Nat)), (27, .i l.length), (28, .i (x.1 : Nat))], heapA [some ⟨1, (b).map V.i, false⟩, some ⟨1, (x.2).map V.i, false⟩], 2, false⟩) (fun (x : Nat × List Int) => SgI l m x.1 x.2) (fun (x : Nat × List Int) => l.length - x.1) ((0, [])) nm ?_ ?_
        · exact ⟨Nat.zero_le _, rfl, by simp, by simp⟩
        · rintro ⟨i, s⟩ hS
          have h3 := hS.hi
          have h4 := hS.len
          dsimp only at h3 h4 ⊢
          by_cases hlt2 : i < l.length
          · have hmu2 : l.length - (i + 1) < l.length - i := by omega
            repeat' (first|refine st ?_|refine u0 ?_|refine u1 ?_|refine u2 ?_|refine u3 ?_|refine u4 ?_|refine u5 ?_|refine u6 ?_|refine u7 ?_|refine u8 ?_|refine u9 ?_|refine u10 ?_|refine u11 ?_|refine v0 ?_|refine v2 ?_|refine v3 ?_|(refine Br.mk ?_ ?_<;>intro hc<;>try contradiction)|(refine An.mk ?_;intro x hx))
            · exact lp_n (i + 1, s ++ [(i : Int)]) hmu2 (by have := hS.step hlt2 (b := true) (decide_eq_true hc); exact this) nm
            · exact lp_n (i + 1, s) hmu2 (by have := hS.step hlt2 (b := false) (decide_eq_false hc); exact this) nm
          · have hs : s = setM l m := by
              have := hS.F
              rw [show l.length - i = 0 by omega] at this
              exact this
            have hmem := hS.mem
            have hok : Bnd.ok s := ok_ints (by omega)
            have hk2 := k_IsConsistent (pickD l s) n (pickD_ok hl hok hmem)
            repeat' (first|refine st ?_|refine u0 ?_|refine u1 ?_|refine u2 ?_|refine u3 ?_|refine u4 ?_|refine u5 ?_|refine u6 ?_|refine u7 ?_|refine u8 ?_|refine u9 ?_|refine u10 ?_|refine u11 ?_|refine v0 ?_|refine v2 ?_|refine v3 ?_|(apply i_ca;first|(apply i_f 66;refine cp (k_pick l s hok hmem) ?_)|(apply i_f 29;refine c0 (hk2) ?_))|(refine Br.mk ?_ ?_<;>intro hc<;>try contradiction)|(refine An.mk ?_;intro x hx))
            · have := hI.step hlt (X := s) (by rw [if_pos ⟨by rw [← hs]; dsimp only; omega, by rw [← hs]; exact hc⟩, hs])
              exact lp_n (m + 1, s) hmu this nm
            · have := hI.step hlt (X := b) (by rw [if_neg]; rintro ⟨_, h6⟩; rw [← hs, hc] at h6; exact absurd h6 (by decide))
              exact lp_n (m + 1, b) hmu this nm
            · have := hI.step hlt (X := b) (by rw [if_neg]; rintro ⟨h6, _⟩; rw [← hs] at h6; dsimp only at h6; omega)
              exact lp_n (m + 1, b) hmu this nm
      · have hF := hI.F
        rw [show 2 ^ l.length - m = 0 by omega] at hF
        repeat' (first|refine st ?_|refine u0 ?_|refine u1 ?_|refine u2 ?_|refine u3 ?_|refine u4 ?_|refine u5 ?_|refine u6 ?_|refine u7 ?_|refine u8 ?_|refine u9 ?_|refine u10 ?_|refine u11 ?_|refine v0 ?_|refine v2 ?_|refine v3 ?_|(refine Br.mk ?_ ?_<;>intro hc<;>try contradiction)|(refine An.mk ?_;intro x hx))
        exact hF
  · rw [if_neg hg]
    apply call_ro' rfl rfl rfl rfl
    by_cases hg1 : areRows l n = true
    · have hg2 : ¬ l.length ≤ 8 := fun h => hg ⟨hg1, h⟩
      repeat' (first|refine st ?_|refine u0 ?_|refine u1 ?_|refine u2 ?_|refine u3 ?_|refine u4 ?_|refine u5 ?_|refine u6 ?_|refine u7 ?_|refine u8 ?_|refine u9 ?_|refine u10 ?_|refine u11 ?_|refine v0 ?_|refine v2 ?_|refine v3 ?_|(apply i_ca;first|(apply i_f 64;refine c0 (k_AreRows l n hl) ?_))|(refine Br.mk ?_ ?_<;>intro hc<;>try contradiction)|(refine An.mk ?_;intro x hx))
      all_goals first | trivial | exact absurd (hg1.symm.trans hc) (by decide) | omega
    · have hg2 : areRows l n = false := by simpa using hg1
      have ha := k_AreRows l n hl
      rw [hg2] at ha
      repeat' (first|refine st ?_|refine u0 ?_|refine u1 ?_|refine u2 ?_|refine u3 ?_|refine u4 ?_|refine u5 ?_|refine u6 ?_|refine u7 ?_|refine u8 ?_|refine u9 ?_|refine u10 ?_|refine u11 ?_|refine v0 ?_|refine v2 ?_|refine v3 ?_|(apply i_ca;first|(apply i_f 64;refine c0 (ha) ?_))|(refine Br.mk ?_ ?_<;>intro hc<;>try contradiction)|(refine An.mk ?_;intro x hx))
      all_goals trivial
end Go.Am
