/-
  Contracts of functions that the law reaches.
-/
import Derived.Test.YthpaolkonlhjfaaFnExactClashOfP1
set_option linter.all false
set_option maxHeartbeats 1000000
set_option synthInstance.maxSize 1000
namespace Go.Am
attribute [local irreducible] snapB roT giveB okD free packB
theorem k_sClashOf (l : List (List Int)) (n : Int) (hl : Bnd.ok l) : CALLB Γ T 20 [] [eL eR l, .i n] = some (oI (clashL l n), []) := by
  have hle := ok_len hl
  by_cases hg : areRows l n = true ∧ isCons l n = false
  · obtain ⟨hg1, hg2⟩ := hg
    have hR : clG l n l.length (rng l.length) = clashL l n := by rw [clashL, if_pos ⟨hg1, hg2⟩]
    have ha := k_sAreRows l n hl
    have hb := k_sIsConsistent l n hl
    rw [hg1] at ha
    rw [hg2] at hb
    apply call_ro' rfl rfl rfl rfl
    repeat' (first|refine st ?_|refine u0 ?_|refine u1 ?_|refine u2 ?_|refine u3 ?_|refine u4 ?_|refine u5 ?_|refine u6 ?_|refine u7 ?_|refine u8 ?_|refine u9 ?_|refine u10 ?_|refine u11 ?_|(apply i_ca;first|(apply i_f 21;refine c0 (ha) ?_)|(apply i_f 22;refine c0 (hb) ?_))|(refine Br.mk ?_ ?_<;>intro hc<;>try contradiction)|(refine An.mk ?_;intro x hx))
    refine wp_upto (l.length) (fun _ g => ()) (fun i (_ : Unit) => ⟨envA [(0, eL eR l), (1, .i n), (5, .hs 0 0 ((rng i)).length ((rng i)).length), (6, .i (i : Nat))], heapA [some ⟨1, ((rng i)).map V.i, false⟩], 1, false⟩) (()) (()) nm ?_ ?_ ?_
    · rfl
    · intro i g hi _
      have hrl := rng_len i
      repeat' (first|refine st ?_|refine u0 ?_|refine u1 ?_|refine u2 ?_|refine u3 ?_|refine u4 ?_|refine u5 ?_|refine u6 ?_|refine u7 ?_|refine u8 ?_|refine u9 ?_|refine u10 ?_|refine u11 ?_|(refine Br.mk ?_ ?_<;>intro hc<;>try contradiction)|(refine An.mk ?_;intro x hx))
      exact ea_n () rfl (by rw [rng_succ]; exact nm)
    · intro g _
      have hrl := rng_len l.length
      repeat' (first|refine st ?_|refine u0 ?_|refine u1 ?_|refine u2 ?_|refine u3 ?_|refine u4 ?_|refine u5 ?_|refine u6 ?_|refine u7 ?_|refine u8 ?_|refine u9 ?_|refine u10 ?_|refine u11 ?_|(refine Br.mk ?_ ?_<;>intro hc<;>try contradiction)|(refine An.mk ?_;intro x hx))
      refine wp_while (fun (x : Int × List Int) => ⟨envA [(0, eL eR l), (1, .i n), (5, .hs 0 0 (x.2).length (x.2).length), (7, .i x.1)], heapA [some ⟨1, (x.2).map V.i, false⟩], 1, false⟩) (fun (x : Int × List Int) => clG l n (x.1 + 1).toNat x.2 = clashL l n ∧ (∀ i ∈ x.2, 0 ≤ i ∧ i < l.length) ∧ -1 ≤ x.1 ∧ x.1 < x.2.length ∧ x.2.length ≤ l.length) (fun (x : Int × List Int) => (x.1 + 1).toNat) (((rng l.length).length - 1, rng l.length)) nm ?_ ?_
      · refine ⟨?_, fun i hi => mem_rng.1 hi, by dsimp only; omega, by dsimp only; omega, by dsimp only; omega⟩
        rw [← hR]
        congr 1
        show (((rng l.length).length : Int) - 1 + 1).toNat = _
        omega
      · rintro ⟨q, s⟩ ⟨h1, h2, h3, h4, h5⟩
        dsimp only at h1 h2 h3 h4 h5 ⊢
        by_cases hq : 0 ≤ q
        · obtain ⟨k, rfl⟩ : ∃ k : Nat, q = k := ⟨q.toNat, by omega⟩
          have hks : k < s.length := by omega
          have hs : Bnd.ok s := ok_ints (by omega)
          have hdl := dropL_lenE hks
          have hds : Bnd.ok (dropL s k) := ok_ints (by omega)
          have hdi : ∀ i ∈ dropL s k, 0 ≤ i ∧ i < l.length := fun i hi => h2 i (dropL_mem i hi)
          have h1' : clG l n k (if isCons (pickD l (dropL s k)) n then s else dropL s k) = clashL l n := by
            rw [← h1, show ((k : Int) + 1).toNat = k + 1 by omega]; rfl
          have hX : ∀ X, X = dropL s k → CALLB Γ T 69 [] [eL eR l, eI X] = some (oL 1 oR (pickD l X), []) ∧ CALLB Γ T 22 [] [eL eR (pickD l X), .i n] = some (.b (isCons (pickD l (dropL s k)) n), []) := by
            rintro X rfl
            exact ⟨k_l17Some l _ hl hds hdi, k_sIsConsistent _ n (pickD_ok hl hds hdi)⟩
          have fin1 : ∀ X, X = dropL s k → isCons (pickD l (dropL s k)) n = false → clG l n ((k : Int) - 1 + 1).toNat X = clashL l n ∧ (∀ i ∈ X, 0 ≤ i ∧ i < l.length) ∧ -1 ≤ (k : Int) - 1 ∧ (k : Int) - 1 < X.length ∧ X.length ≤ l.length := by
            rintro X rfl hc
            rw [hc] at h1'
            exact ⟨by rw [← h1', show ((k : Int) - 1 + 1).toNat = k by omega]; rfl, hdi, by omega, by omega, by omega⟩
          have fin2 : isCons (pickD l (dropL s k)) n = true → clG l n ((k : Int) - 1 + 1).toNat s = clashL l n ∧ (∀ i ∈ s, 0 ≤ i ∧ i < l.length) ∧ -1 ≤ (k : Int) - 1 ∧ (k : Int) - 1 < s.length ∧ s.length ≤ l.length := by
            rintro hc
            rw [hc] at h1'
            exact ⟨by rw [← h1', show ((k : Int) - 1 + 1).toNat = k by omega]; rfl, h2, by omega, by omega, h5⟩
          have hmu : ((k : Int) - 1 + 1).toNat < ((k : Int) + 1).toNat := by omega
          by_cases g1 : s.take k = [] <;> by_cases g2 : s.drop (k + 1) = []
          · have hXe : [] = dropL s k := by rw [dropL, g1, g2]; rfl
            obtain ⟨hX1, hX2⟩ := hX [] hXe
            repeat' (first|refine st ?_|refine u0 ?_|refine u1 ?_|refine u2 ?_|refine u3 ?_|refine u4 ?_|refine u5 ?_|refine u6 ?_|refine u7 ?_|refine u8 ?_|refine u9 ?_|refine u10 ?_|refine u11 ?_|(apply i_ca;first|(apply i_f 69;refine c0 (hX1) ?_)|(apply i_f 22;refine c0 (hX2) ?_))|(refine Br.mk ?_ ?_<;>intro hc<;>try contradiction)|(refine An.mk ?_;intro x hx))
            all_goals first | exact lp_n ((k : Int) - 1, []) hmu (fin1 _ hXe hc) nm | exact lp_n ((k : Int) - 1, s) hmu (fin2 hc) nm
          · have hXe : s.drop (k + 1) = dropL s k := by rw [dropL, g1]; rfl
            obtain ⟨hX1, hX2⟩ := hX _ hXe
            repeat' (first|refine st ?_|refine u0 ?_|refine u1 ?_|refine u2 ?_|refine u3 ?_|refine u4 ?_|refine u5 ?_|refine u6 ?_|refine u7 ?_|refine u8 ?_|refine u9 ?_|refine u10 ?_|refine u11 ?_|(apply i_ca;first|(apply i_f 69;refine c0 (hX1) ?_)|(apply i_f 22;refine c0 (hX2) ?_))|(refine Br.mk ?_ ?_<;>intro hc<;>try contradiction)|(refine An.mk ?_;intro x hx))
            all_goals first | exact lp_n ((k : Int) - 1, s.drop (k + 1)) hmu (fin1 _ hXe hc) nm | exact lp_n ((k : Int) - 1, s) hmu (fin2 hc) nm
          · have hXe : s.take k = dropL s k := by rw [dropL, g2]; simp
            obtain ⟨hX1, hX2⟩ := hX _ hXe
            repeat' (first|refine st ?_|refine u0 ?_|refine u1 ?_|refine u2 ?_|refine u3 ?_|refine u4 ?_|refine u5 ?_|refine u6 ?_|refine u7 ?_|refine u8 ?_|refine u9 ?_|refine u10 ?_|refine u11 ?_|(apply i_ca;first|(apply i_f 69;refine c0 (hX1) ?_)|(apply i_f 22;refine c0 (hX2) ?_))|(refine Br.mk ?_ ?_<;>intro hc<;>try contradiction)|(refine An.mk ?_;intro x hx))
            all_goals first | exact lp_n ((k : Int) - 1, s.take k) hmu (fin1 _ hXe hc) nm | exact lp_n ((k : Int) - 1, s) hmu (fin2 hc) nm
          · have hXe : s.take k ++ s.drop (k + 1) = dropL s k := rfl
            obtain ⟨hX1, hX2⟩ := hX _ hXe
            repeat' (first|refine st ?_|refine u0 ?_|refine u1 ?_|refine u2 ?_|refine u3 ?_|refine u4 ?_|refine u5 ?_|refine u6 ?_|refine u7 ?_|refine u8 ?_|refine u9 ?_|refine u10 ?_|refine u11 ?_|(apply i_ca;first|(apply i_f 69;refine c0 (hX1) ?_)|(apply i_f 22;refine c0 (hX2) ?_))|(refine Br.mk ?_ ?_<;>intro hc<;>try contradiction)|(refine An.mk ?_;intro x hx))
            all_goals first | exact lp_n ((k : Int) - 1, s.take k ++ s.drop (k + 1)) hmu (fin1 _ hXe hc) nm | exact lp_n ((k : Int) - 1, s) hmu (fin2 hc) nm
        · have e : (q + 1).toNat = 0 := by omega
          rw [e] at h1
          repeat' (first|refine st ?_|refine u0 ?_|refine u1 ?_|refine u2 ?_|refine u3 ?_|refine u4 ?_|refine u5 ?_|refine u6 ?_|refine u7 ?_|refine u8 ?_|refine u9 ?_|refine u10 ?_|refine u11 ?_|(refine Br.mk ?_ ?_<;>intro hc<;>try contradiction)|(refine An.mk ?_;intro x hx))
          exact h1
  · have hR : clashL l n = [] := by rw [clashL, if_neg hg]
    rw [hR]
    apply call_ro' rfl rfl rfl rfl
    repeat' (first|refine st ?_|refine u0 ?_|refine u1 ?_|refine u2 ?_|refine u3 ?_|refine u4 ?_|refine u5 ?_|refine u6 ?_|refine u7 ?_|refine u8 ?_|refine u9 ?_|refine u10 ?_|refine u11 ?_|(apply i_ca;first|(apply i_f 21;refine c0 (k_sAreRows l n hl) ?_)|(apply i_f 22;refine c0 (k_sIsConsistent l n hl) ?_))|(refine Br.mk ?_ ?_<;>intro hc<;>try contradiction)|(refine An.mk ?_;intro x hx))
    all_goals first | exact fin (P := ([] : List Int) = []) rfl (g := fun p => gv_hs (l' := []) (f := V.i) p rfl rfl (fun _ => okA)) | exact absurd ⟨‹_›, hc⟩ hg
theorem canD_len {l : List (List Int)} {rows left : List Int} : (canD l rows left).length ≤ left.length := List.length_filter_le _ _
theorem runD_size (l : List (List Int)) : ∀ (n : Nat) (left rows : List Int) (st : List (List Int)) (B : Nat), left.length ≤ B → (runD l n left rows st).2.2.length ≤ rows.length ∧ (runD l n left rows st).2.1.length ≤ left.length ∧ (runD l n left rows st).1.length ≤ st.length + left.length ∧ ∀ s ∈ (runD l n left rows st).1, s ∈ st ∨ s.length ≤ B
  | 0, left, rows, st, B, hB => ⟨Nat.le_refl _, Nat.le_refl _, by simp [runD], fun s hs => .inl hs⟩
  | n + 1, left, rows, st, B, hB => by
    simp only [runD]
    split
    · exact ⟨Nat.le_refl _, Nat.le_refl _, by simp, fun s hs => .inl hs⟩
    · split
      · exact ⟨Nat.le_refl _, Nat.le_refl _, by simp, fun s hs => .inl hs⟩
      · rename_i hc
        have h1 := restD_lt hc
        obtain ⟨g1, g2, g3, g4⟩ := runD_size l n (restD (canD l rows left) left) (keepD l (canD l rows left) rows) (st ++ [canD l rows left]) B (by omega)
        refine ⟨Nat.le_trans g1 (List.length_filter_le _ _), by omega, by simp at g3; omega, fun s hs => ?_⟩
        rcases g4 s hs with h | h
        · rcases List.mem_append.1 h with h | h
          · exact .inl h
          · right
            rw [List.mem_singleton.1 h]
            have := canD_len (l := l) (rows := rows) (left := left)
            omega
        · exact .inr h
theorem areRows_n {l : List (List Int)} {n : Int} (h : areRows l n = true) : 1 ≤ n ∧ n ≤ 5 ∧ l.length ≤ 20 := by
  simp only [areRows, Bool.and_eq_true, decide_eq_true_eq] at h
  omega
theorem runA_size {l : List (List Int)} {n : Int} (h : areRows l n = true) : (runA l n).2.2.length ≤ 20 ∧ (runA l n).2.1.length ≤ 5 ∧ (runA l n).1.length ≤ 5 ∧ ∀ s ∈ (runA l n).1, s.length ≤ 5 := by
  obtain ⟨h1, h2, h3⟩ := areRows_n h
  have h4 : (rng n.toNat).length ≤ 5 := by rw [rng_len]; omega
  obtain ⟨g1, g2, g3, g4⟩ := runD_size l (rng n.toNat).length (rng n.toNat) (rng l.length) [] 5 h4
  have g5 := rng_len l.length
  exact ⟨by unfold runA runL; omega, by unfold runA runL; omega, by unfold runA runL; simp at g3; omega, fun s hs => by rcases g4 s hs with h | h; · simp at h
                                                                                                                        · exact h⟩
theorem stuckL_ok (l : List (List Int)) (n : Int) : (stuckL l n).length ≤ 20 := by
  unfold stuckL
  split
  · rename_i h; exact (runA_size h.1).1
  · simp
theorem clashL_len (l : List (List Int)) (n : Int) : (clashL l n).length ≤ 20 := by
  unfold clashL
  split
  · rename_i h
    have h1 := areRows_n h.1
    have h2 := clG_len (l := l) (n := n) (k := l.length) (s := rng l.length)
    rw [rng_len] at h2
    omega
  · simp
theorem law_FnExactClashOf (l : List (List Int)) (n : Int) (hl : Bnd.wf l) (_hn : Bnd.wf n) : CALLB Γ T 10 [] [eL eR l, .i n] = some (.b true, []) := by
  obtain ⟨t0, hk0, m0, rfl, h0⟩ := sz_RowS l 1048576 (by omega) (by omega) hl
  apply call_ro' rfl rfl rfl rfl
  (try refine st ?_)
  refine c0 (hk0) ?_
  repeat' (first|refine st ?_|refine u0 ?_|refine u1 ?_|refine u2 ?_|refine u3 ?_|refine u4 ?_|refine u5 ?_|refine u6 ?_|refine u7 ?_|refine u8 ?_|refine u9 ?_|(refine Br.mk ?_ ?_<;>intro hc)|(refine An.mk ?_;intro x hx))
  · rfl
  have h := (h0.resolve_left (by omega)).1
  have hk1 := k_sClashOf l n h
  have hk2 := k_ClashOf l n h
  have hS : Bnd.ok (clashL l n) := ok_ints (by have := clashL_len l n; omega)
  by_cases hg : areRows l n = true ∧ isCons l n = false
  · rw [if_pos hg] at hk2
    generalize clashL l n = s at *
    have hQ_l := cn_RowS h
    have hQ_s := ok_len hS
    have hM_s := (mk_len (1) s.length).symm
    repeat' (first|refine st ?_|refine u0 ?_|refine u1 ?_|refine u2 ?_|refine u3 ?_|refine u4 ?_|refine u5 ?_|refine u6 ?_|refine u7 ?_|refine u8 ?_|refine u9 ?_|(apply i_ca;first|(apply i_f 20;refine c0 (hk1) ?_)|(apply i_f 16;refine c0 (hk2) ?_)|(apply i_f 33;refine c0 (to_RowS l h) ?_)|(apply i_f 34;refine c0 (eq_RowS l l h) ?_)|(apply i_f 46;refine ci (mark_RowS l (1) h (by omega)) ?_ ?_)|(apply i_f 45;refine c0 (eq_IntS s s hS) ?_)|(apply i_f 47;refine ci (mark_IntS s (1) (by omega) (by omega)) ?_ ?_)|(apply i_f 48;refine c0 (held_IntS s.length (1) (by omega) (by omega)) ?_))|(refine Br.mk ?_ ?_<;>intro hc)|(refine An.mk ?_;intro x hx))
    all_goals first | rfl | exact mkS_len _ _ | exact mk_len _ _ | exact absurd rfl hc | exact absurd hc (by decide)
  · rw [if_neg hg] at hk2
    have hs : clashL l n = [] := by rw [clashL, if_neg hg]
    rw [hs] at hk1
    have hQ_l := cn_RowS h
    have heN0 := eq_IntS [] [] ok_nilL
    have hhN0 := held_IntS 0 (1) (by omega) (by omega)
    repeat' (first|refine st ?_|refine u0 ?_|refine u1 ?_|refine u2 ?_|refine u3 ?_|refine u4 ?_|refine u5 ?_|refine u6 ?_|refine u7 ?_|refine u8 ?_|refine u9 ?_|(apply i_ca;first|(apply i_f 20;refine c0 (hk1) ?_)|(apply i_f 16;refine c0 (hk2) ?_)|(apply i_f 33;refine c0 (to_RowS l h) ?_)|(apply i_f 34;refine c0 (eq_RowS l l h) ?_)|(apply i_f 46;refine ci (mark_RowS l (1) h (by omega)) ?_ ?_)|(apply i_f 45;refine c0 (heN0) ?_)|(apply i_f 48;refine c0 (hhN0) ?_)|(apply i_f 47;refine ci0 (markN_IntS (1)) ?_))|(refine Br.mk ?_ ?_<;>intro hc)|(refine An.mk ?_;intro x hx))
    all_goals first | rfl | exact mkS_len _ _ | exact mk_len _ _ | exact absurd rfl hc | exact absurd hc (by decide)
end Go.Am
