/-
  Contracts of functions that the law reaches.
-/
import Derived.Test.YthpaolkonlhjfaaFnExactLargestConsistentC
set_option linter.all false
set_option maxHeartbeats 1000000
set_option synthInstance.maxSize 1000
namespace Go.Am
attribute [local irreducible] snapB roT giveB okD free packB
abbrev eRow (x : List Int) : V := .st [eI x]
abbrev oRow (x : List Int) : V := .st [oI x]
abbrev eRowS (x : List (List Int)) : V := eL eRow x
abbrev oRowS (x : List (List Int)) : V := oL 1 oRow x
theorem sz_IntS (l : List Int) (n : Int) (h0 : 0 ≤ n) (h1 : n ≤ 1048576) (hl : Bnd.wf l) : ∃ t, CALLB Γ T 85 [] [eI l, .i n] = some (t, []) ∧ SzP l n t := by
  have hle := wf_len hl
  apply call_ex rfl rfl rfl rfl
  repeat' (first|refine st ?_|refine u0 ?_|refine u1 ?_|refine u2 ?_|refine u3 ?_|refine u4 ?_|refine u5 ?_|refine u6 ?_|refine u7 ?_|refine u8 ?_|refine u9 ?_|(refine Br.mk ?_ ?_<;>intro hc)|(refine An.mk ?_;intro x hx))
  · exact sz_neg
  · exact sz_ok ⟨by omega, fun _ _ => trivial⟩
theorem sz_Row (l : List Int) (n : Int) (h0 : 0 ≤ n) (h1 : n ≤ 1048576) (hl : Bnd.wf l) : ∃ t, CALLB Γ T 77 [] [eRow l, .i n] = some (t, []) ∧ SzP l n t := by
  apply call_ex rfl rfl rfl rfl
  obtain ⟨t0, hk0, m0, rfl, h0_⟩ := sz_IntS l n (by omega) (by omega) hl
  repeat' (first|refine st ?_|refine u0 ?_|refine u1 ?_|refine u2 ?_|refine u3 ?_|refine u4 ?_|refine u5 ?_|refine u6 ?_|refine u7 ?_|refine u8 ?_|refine u9 ?_|(apply i_ca;first|refine c0 (hk0) ?_)|(refine Br.mk ?_ ?_<;>intro hc)|(refine An.mk ?_;intro x hx))
  · exact sz_neg
  have h0' := h0_.resolve_left (by omega)
  repeat' (first|refine st ?_|refine u0 ?_|refine u1 ?_|refine u2 ?_|refine u3 ?_|refine u4 ?_|refine u5 ?_|refine u6 ?_|refine u7 ?_|refine u8 ?_|refine u9 ?_|(refine Br.mk ?_ ?_<;>intro hc)|(refine An.mk ?_;intro x hx))
  exact sz_ok (h0'.1)
theorem sz_RowS (l : List (List Int)) (n : Int) (h0 : 0 ≤ n) (h1 : n ≤ 1048576) (hl : Bnd.wf l) : ∃ t, CALLB Γ T 32 [] [eRowS l, .i n] = some (t, []) ∧ SzP l n t := by
  have hle := wf_len hl
  apply call_ex rfl rfl rfl rfl
  repeat' (first|refine st ?_|refine u0 ?_|refine u1 ?_|refine u2 ?_|refine u3 ?_|refine u4 ?_|refine u5 ?_|refine u6 ?_|refine u7 ?_|refine u8 ?_|refine u9 ?_|(refine Br.mk ?_ ?_<;>intro hc)|(refine An.mk ?_;intro x hx))
  · exact sz_neg
  refine wp_eachI (l) (fun _ _ => ()) (fun i (g : Int) => ⟨envA [(0, eRowS l), (1, .i g), (5, .i (i : Nat))], heapA [], 0, false⟩) (n - l.length) (()) (fun i (g : Int) => 0 ≤ g ∧ g ≤ n ∧ l.length ≤ 1048576 ∧ ∀ x ∈ l.take i, Bnd.ok x) nm ?_ ?_ ?_ ?_
  · rfl
  · exact ⟨by omega, by omega, by omega, take_nil⟩
  · intro i g x hi hx hm _ hI
    obtain ⟨t, hk, m, rfl, hm'⟩ := sz_Row x g (by omega) (by omega) (wf_mem hl hm)
    repeat' (first|refine st ?_|refine u0 ?_|refine u1 ?_|refine u2 ?_|refine u3 ?_|refine u4 ?_|refine u5 ?_|refine u6 ?_|refine u7 ?_|refine u8 ?_|refine u9 ?_|(apply i_ca;first|refine c0 (hk) ?_)|(refine Br.mk ?_ ?_<;>intro hc)|(refine An.mk ?_;intro x hx))
    · exact sz_neg
    · have hm2 := hm'.resolve_left (by omega)
      exact ei_n m rfl ⟨hm2.2.1, by omega, hI.2.2.1, take_all hI.2.2.2 hx hm2.1⟩ nm
  · intro g _ hI
    repeat' (first|refine st ?_|refine u0 ?_|refine u1 ?_|refine u2 ?_|refine u3 ?_|refine u4 ?_|refine u5 ?_|refine u6 ?_|refine u7 ?_|refine u8 ?_|refine u9 ?_|(refine Br.mk ?_ ?_<;>intro hc)|(refine An.mk ?_;intro x hx))
    exact sz_ok ⟨by omega, take_end hI.2.2.2⟩ hI.1 hI.2.1
theorem eq_IntS (a b : List Int) (ha : Bnd.ok a) : CALLB Γ T 45 [] [eI a, eI b] = some (.b (decide (a = b)), []) := by
  have hle := ok_len ha
  apply call_ro' rfl rfl rfl rfl
  repeat' (first|refine st ?_|refine u0 ?_|refine u1 ?_|refine u2 ?_|refine u3 ?_|refine u4 ?_|refine u5 ?_|refine u6 ?_|refine u7 ?_|refine u8 ?_|refine u9 ?_|(refine Br.mk ?_ ?_<;>intro hc)|(refine An.mk ?_;intro x hx))
  · exact (decide_eq_false (by rintro rfl; omega)).symm
  refine wp_eachI (a) (fun _ _ => ()) (fun i (_ : Unit) => ⟨envA [(0, eI a), (1, eI b), (5, .i (i : Nat))], heapA [], 0, false⟩) (()) (()) (fun i (_ : Unit) => a.take i = b.take i) nm ?_ ?_ ?_ ?_
  · rfl
  · rfl
  · intro i g x hi hx hm _ hI
    obtain ⟨y, hy⟩ := cell_of (r := b) (j := i) (by omega)
    repeat' (first|refine st ?_|refine u0 ?_|refine u1 ?_|refine u2 ?_|refine u3 ?_|refine u4 ?_|refine u5 ?_|refine u6 ?_|refine u7 ?_|refine u8 ?_|refine u9 ?_|(refine Br.mk ?_ ?_<;>intro hc)|(refine An.mk ?_;intro x hx))
    · exact (decide_eq_false (ne_of_at hx hy (by assumption))).symm
    · exact ei_n () rfl (take_eq hI hx hy (by assumption)) nm
  · intro g _ hI
    repeat' (first|refine st ?_|refine u0 ?_|refine u1 ?_|refine u2 ?_|refine u3 ?_|refine u4 ?_|refine u5 ?_|refine u6 ?_|refine u7 ?_|refine u8 ?_|refine u9 ?_|(refine Br.mk ?_ ?_<;>intro hc)|(refine An.mk ?_;intro x hx))
    exact (decide_eq_true (eq_of_take hI (by omega))).symm
theorem eq_Row (a b : List Int) (ha : Bnd.ok a) : CALLB Γ T 55 [] [eRow a, eRow b] = some (.b (decide (a = b)), []) := by
  apply call_ro' rfl rfl rfl rfl
  repeat' (first|refine st ?_|refine u0 ?_|refine u1 ?_|refine u2 ?_|refine u3 ?_|refine u4 ?_|refine u5 ?_|refine u6 ?_|refine u7 ?_|refine u8 ?_|refine u9 ?_|(apply i_ca;first|(apply i_f 45;refine c0 (eq_IntS _ _ ha) ?_))|(refine Br.mk ?_ ?_<;>intro hc)|(refine An.mk ?_;intro x hx))
  · exact (decide_eq_false (by assumption)).symm
  · exact (decide_eq_true (by assumption)).symm
theorem eq_RowS (a b : List (List Int)) (ha : Bnd.ok a) : CALLB Γ T 34 [] [eRowS a, eRowS b] = some (.b (decide (a = b)), []) := by
  have hle := ok_len ha
  apply call_ro' rfl rfl rfl rfl
  repeat' (first|refine st ?_|refine u0 ?_|refine u1 ?_|refine u2 ?_|refine u3 ?_|refine u4 ?_|refine u5 ?_|refine u6 ?_|refine u7 ?_|refine u8 ?_|refine u9 ?_|(refine Br.mk ?_ ?_<;>intro hc)|(refine An.mk ?_;intro x hx))
  · exact (decide_eq_false (by rintro rfl; omega)).symm
  refine wp_eachI (a) (fun _ _ => ()) (fun i (_ : Unit) => ⟨envA [(0, eRowS a), (1, eRowS b), (5, .i (i : Nat))], heapA [], 0, false⟩) (()) (()) (fun i (_ : Unit) => a.take i = b.take i) nm ?_ ?_ ?_ ?_
  · rfl
  · rfl
  · intro i g x hi hx hm _ hI
    obtain ⟨y, hy⟩ := cell_of (r := b) (j := i) (by omega)
    repeat' (first|refine st ?_|refine u0 ?_|refine u1 ?_|refine u2 ?_|refine u3 ?_|refine u4 ?_|refine u5 ?_|refine u6 ?_|refine u7 ?_|refine u8 ?_|refine u9 ?_|(apply i_ca;first|(apply i_f 55;refine c0 (eq_Row x y (ok_mem ha hm)) ?_))|(refine Br.mk ?_ ?_<;>intro hc)|(refine An.mk ?_;intro x hx))
    · exact (decide_eq_false (ne_of_at hx hy (by assumption))).symm
    · exact ei_n () rfl (take_eq hI hx hy (by assumption)) nm
  · intro g _ hI
    repeat' (first|refine st ?_|refine u0 ?_|refine u1 ?_|refine u2 ?_|refine u3 ?_|refine u4 ?_|refine u5 ?_|refine u6 ?_|refine u7 ?_|refine u8 ?_|refine u9 ?_|(refine Br.mk ?_ ?_<;>intro hc)|(refine An.mk ?_;intro x hx))
    exact (decide_eq_true (eq_of_take hI (by omega))).symm
theorem to_IntS (l : List Int) (hl : Bnd.ok l) : CALLB Γ T 54 [] [eI l] = some (oI l, []) := by
  have hle := ok_len hl
  apply call_ro' rfl rfl rfl rfl
  repeat' (first|refine st ?_|refine u0 ?_|refine u1 ?_|refine u2 ?_|refine u3 ?_|refine u4 ?_|refine u5 ?_|refine u6 ?_|refine u7 ?_|refine u8 ?_|refine u9 ?_|(refine Br.mk ?_ ?_<;>intro hc)|(refine An.mk ?_;intro x hx))
  refine wp_each (l) (fun _ _ => ()) (fun i (_ : Unit) => ⟨envA [(0, eI l), (3, .hs 0 0 l.length l.length), (4, .i (i : Nat))], heapA [some ⟨1, (l.take i).map V.i ++ List.replicate (l.length - i) (.im (.int .i64 0)), false⟩], 1, false⟩) (()) (()) nm ?_ ?_ ?_
  · rfl
  · intro i g x hi hx hm _
    repeat' (first|refine st ?_|refine u0 ?_|refine u1 ?_|refine u2 ?_|refine u3 ?_|refine u4 ?_|refine u5 ?_|refine u6 ?_|refine u7 ?_|refine u8 ?_|refine u9 ?_|(refine Br.mk ?_ ?_<;>intro hc)|(refine An.mk ?_;intro x hx))
    exact ea_n () rfl nm
  · intro g _
    rw [fill_full]
    repeat' (first|refine st ?_|refine u0 ?_|refine u1 ?_|refine u2 ?_|refine u3 ?_|refine u4 ?_|refine u5 ?_|refine u6 ?_|refine u7 ?_|refine u8 ?_|refine u9 ?_|(refine Br.mk ?_ ?_<;>intro hc)|(refine An.mk ?_;intro x hx))
    rfl
theorem to_Row (l : List Int) (hl : Bnd.ok l) : CALLB Γ T 78 [] [eRow l] = some (oRow l, []) := by
  apply call_ro' rfl rfl rfl rfl
  repeat' (first|refine st ?_|refine u0 ?_|refine u1 ?_|refine u2 ?_|refine u3 ?_|refine u4 ?_|refine u5 ?_|refine u6 ?_|refine u7 ?_|refine u8 ?_|refine u9 ?_|(apply i_ca;first|(apply i_f 54;refine c0 (to_IntS _ hl) ?_))|(refine Br.mk ?_ ?_<;>intro hc)|(refine An.mk ?_;intro x hx))
  exact ⟨rfl, trivial⟩
theorem to_RowS (l : List (List Int)) (hl : Bnd.ok l) : CALLB Γ T 33 [] [eRowS l] = some (oRowS l, []) := by
  have hle := ok_len hl
  apply call_ro' rfl rfl rfl rfl
  repeat' (first|refine st ?_|refine u0 ?_|refine u1 ?_|refine u2 ?_|refine u3 ?_|refine u4 ?_|refine u5 ?_|refine u6 ?_|refine u7 ?_|refine u8 ?_|refine u9 ?_|(refine Br.mk ?_ ?_<;>intro hc)|(refine An.mk ?_;intro x hx))
  refine wp_each (l) (fun _ _ => ()) (fun i (_ : Unit) => ⟨envA [(0, eRowS l), (3, .hs 0 0 l.length l.length), (4, .i (i : Nat))], heapA [some ⟨1, (l.take i).map oRow ++ List.replicate (l.length - i) ((.st [.e0])), false⟩], 1, false⟩) (()) (()) nm ?_ ?_ ?_
  · rfl
  · intro i g x hi hx hm _
    repeat' (first|refine st ?_|refine u0 ?_|refine u1 ?_|refine u2 ?_|refine u3 ?_|refine u4 ?_|refine u5 ?_|refine u6 ?_|refine u7 ?_|refine u8 ?_|refine u9 ?_|(apply i_ca;first|(apply i_f 78;refine c0 (to_Row x (ok_mem hl hm)) ?_))|(refine Br.mk ?_ ?_<;>intro hc)|(refine An.mk ?_;intro x hx))
    exact ea_n () rfl nm
  · intro g _
    rw [fill_full]
    repeat' (first|refine st ?_|refine u0 ?_|refine u1 ?_|refine u2 ?_|refine u3 ?_|refine u4 ?_|refine u5 ?_|refine u6 ?_|refine u7 ?_|refine u8 ?_|refine u9 ?_|(refine Br.mk ?_ ?_<;>intro hc)|(refine An.mk ?_;intro x hx))
    rfl
theorem k_l1In (x a b : Int) : CALLB Γ T 71 [] [.i x, .i a, .i b] = some (.b (decide (a ≤ x ∧ x ≤ b)), []) := by
  apply call_ro' rfl rfl rfl rfl
  repeat' (first|refine st ?_|refine u0 ?_|refine u1 ?_|refine u2 ?_|refine u3 ?_|refine u4 ?_|refine u5 ?_|refine u6 ?_|refine u7 ?_|refine u8 ?_|refine u9 ?_|(refine Br.mk ?_ ?_<;>intro hc)|(refine An.mk ?_;intro x hx))
  all_goals simp [*]
theorem k_within (x a b : Int) : CALLB Γ T 91 [] [.i x, .i a, .i b] = some (.b (decide (a ≤ x ∧ x ≤ b)), []) := by
  apply call_ro' rfl rfl rfl rfl
  repeat' (first|refine st ?_|refine u0 ?_|refine u1 ?_|refine u2 ?_|refine u3 ?_|refine u4 ?_|refine u5 ?_|refine u6 ?_|refine u7 ?_|refine u8 ?_|refine u9 ?_|(refine Br.mk ?_ ?_<;>intro hc)|(refine An.mk ?_;intro x hx))
  all_goals simp [*]
def isRow (l : List Int) (n : Int) : Bool := l.all (fun m => decide (-1 ≤ m ∧ m ≤ 1)) && (decide (1 ≤ n ∧ n ≤ 5) && decide ((l.length : Int) = n))
theorem k_IsRow (l : List Int) (n : Int) (hl : Bnd.ok l) : CALLB Γ T 90 [] [eR l, .i n] = some (.b (isRow l n), []) := by
  have hle := ok_len hl
  apply call_ro' rfl rfl rfl rfl
  repeat' (first|refine st ?_|refine u0 ?_|refine u1 ?_|refine u2 ?_|refine u3 ?_|refine u4 ?_|refine u5 ?_|refine u6 ?_|refine u7 ?_|refine u8 ?_|refine u9 ?_|(refine Br.mk ?_ ?_<;>intro hc)|(refine An.mk ?_;intro x hx))
  refine wp_each (l) (fun r _ => r.all (fun m => decide (-1 ≤ m ∧ m ≤ 1)) && (decide (1 ≤ n ∧ n ≤ 5) && decide ((l.length : Int) = n))) (fun i (_ : Unit) => ⟨envA [(1, .i n), (2, .hp 0 0), (8, eI l), (9, .i l.length), (10, .i (i : Nat))], heapA [some ⟨1, [eR l], false⟩], 1, false⟩) (()) (isRow l n) nm ?_ ?_ ?_
  · rfl
  · intro i g x hi hx hm hF
    repeat' (first|refine st ?_|refine u0 ?_|refine u1 ?_|refine u2 ?_|refine u3 ?_|refine u4 ?_|refine u5 ?_|refine u6 ?_|refine u7 ?_|refine u8 ?_|refine u9 ?_|(apply i_ca;first|(apply i_f 91;refine c0 (k_within _ _ _) ?_))|(refine Br.mk ?_ ?_<;>intro hc)|(refine An.mk ?_;intro x hx))
    · rw [← hF]; simp [*]
    · exact ea_n () (by rw [← hF]; simp [hc]) nm
  · intro g hF
    repeat' (first|refine st ?_|refine u0 ?_|refine u1 ?_|refine u2 ?_|refine u3 ?_|refine u4 ?_|refine u5 ?_|refine u6 ?_|refine u7 ?_|refine u8 ?_|refine u9 ?_|(apply i_ca;first|(apply i_f 91;refine c0 (k_within _ _ _) ?_))|(refine Br.mk ?_ ?_<;>intro hc)|(refine An.mk ?_;intro x hx))
    all_goals rw [← hF]; simp [*]
theorem k_sIsRow (l : List Int) (n : Int) (hl : Bnd.ok l) : CALLB Γ T 70 [] [eR l, .i n] = some (.b (isRow l n), []) := by
  have hle := ok_len hl
  apply call_ro' rfl rfl rfl rfl
  repeat' (first|refine st ?_|refine u0 ?_|refine u1 ?_|refine u2 ?_|refine u3 ?_|refine u4 ?_|refine u5 ?_|refine u6 ?_|refine u7 ?_|refine u8 ?_|refine u9 ?_|(refine Br.mk ?_ ?_<;>intro hc)|(refine An.mk ?_;intro x hx))
  refine wp_each (l) (fun r _ => r.all (fun m => decide (-1 ≤ m ∧ m ≤ 1)) && (decide (1 ≤ n ∧ n ≤ 5) && decide ((l.length : Int) = n))) (fun i (_ : Unit) => ⟨envA [(1, .i n), (2, .hp 0 0), (5, .i (i : Nat))], heapA [some ⟨1, [eR l], false⟩], 1, false⟩) (()) (isRow l n) nm ?_ ?_ ?_
  · rfl
  · intro i g x hi hx hm hF
    repeat' (first|refine st ?_|refine u0 ?_|refine u1 ?_|refine u2 ?_|refine u3 ?_|refine u4 ?_|refine u5 ?_|refine u6 ?_|refine u7 ?_|refine u8 ?_|refine u9 ?_|(apply i_ca;first|(apply i_f 71;refine c0 (k_l1In _ _ _) ?_))|(refine Br.mk ?_ ?_<;>intro hc)|(refine An.mk ?_;intro x hx))
    · rw [← hF]; simp [*]
    · exact ea_n () (by rw [← hF]; simp [hc]) nm
  · intro g hF
    repeat' (first|refine st ?_|refine u0 ?_|refine u1 ?_|refine u2 ?_|refine u3 ?_|refine u4 ?_|refine u5 ?_|refine u6 ?_|refine u7 ?_|refine u8 ?_|refine u9 ?_|(apply i_ca;first|(apply i_f 71;refine c0 (k_l1In _ _ _) ?_))|(refine Br.mk ?_ ?_<;>intro hc)|(refine An.mk ?_;intro x hx))
    all_goals rw [← hF]; simp [*]
def idxFrom {α : Type} (p : α → Bool) : List α → Nat → Int
  | [], _ => -1
  | x :: r, i => if p x then (i : Int) else idxFrom p r (i + 1)
theorem idxFrom_congr {α : Type} {p q : α → Bool} : ∀ {l : List α} {i : Nat}, (∀ x ∈ l, p x = q x) → idxFrom p l i = idxFrom q l i
  | [], _, _ => rfl
  | x :: l, i, h => by
    simp only [idxFrom, h x (by simp)]
    rw [idxFrom_congr (l := l) fun y hy => h y (by simp [hy])]
theorem any_mem {l : List Int} {x : Int} : (l.any fun y => decide (y = x)) = decide (x ∈ l) := by
  rw [Bool.eq_iff_iff]; simp
theorem k_l12Has (l : List Int) (x : Int) (hl : Bnd.ok l) : CALLB Γ T 100 [] [eI l, .i x] = some (.b (decide (x ∈ l)), []) := by
  have hle := ok_len hl
  apply call_ro' rfl rfl rfl rfl
  repeat' (first|refine st ?_|refine u0 ?_|refine u1 ?_|refine u2 ?_|refine u3 ?_|refine u4 ?_|refine u5 ?_|refine u6 ?_|refine u7 ?_|refine u8 ?_|refine u9 ?_|(refine Br.mk ?_ ?_<;>intro hc)|(refine An.mk ?_;intro x hx))
  refine wp_each (l) (fun r _ => r.any fun y => decide (y = x)) (fun i (_ : Unit) => ⟨envA [(0, eI l), (1, .i x), (5, .i (i : Nat))], heapA [], 0, false⟩) (()) (decide (x ∈ l)) nm ?_ ?_ ?_
  · exact any_mem
  · intro i g y hi hx hm hF
    repeat' (first|refine st ?_|refine u0 ?_|refine u1 ?_|refine u2 ?_|refine u3 ?_|refine u4 ?_|refine u5 ?_|refine u6 ?_|refine u7 ?_|refine u8 ?_|refine u9 ?_|(refine Br.mk ?_ ?_<;>intro hc)|(refine An.mk ?_;intro x hx))
    · rw [← hF]; simp [hc]
    · exact ea_n () (by simpa [hc] using hF) nm
  · intro g hF
    repeat' (first|refine st ?_|refine u0 ?_|refine u1 ?_|refine u2 ?_|refine u3 ?_|refine u4 ?_|refine u5 ?_|refine u6 ?_|refine u7 ?_|refine u8 ?_|refine u9 ?_|(refine Br.mk ?_ ?_<;>intro hc)|(refine An.mk ?_;intro x hx))
    rw [← hF]; rfl
theorem idxFrom_pos {α : Type} {p : α → Bool} : ∀ {l : List α} {i : Nat}, (0 ≤ idxFrom p l i) ↔ l.any p = true
  | [], i => by simp [idxFrom]
  | x :: l, i => by
    simp only [idxFrom, List.any_cons]
    cases hp : p x with
    | true => simp
    | false => simpa using idxFrom_pos (l := l) (i := i + 1)
theorem k_slIndex (l : List Int) (x : Int) (hl : Bnd.ok l) : CALLB Γ T 94 [] [eI l, .i x] = some (.i (idxFrom (fun y => decide (x = y)) l 0), []) := by
  have hle := ok_len hl
  apply call_ro' rfl rfl rfl rfl
  repeat' (first|refine st ?_|refine u0 ?_|refine u1 ?_|refine u2 ?_|refine u3 ?_|refine u4 ?_|refine u5 ?_|refine u6 ?_|refine u7 ?_|refine u8 ?_|refine u9 ?_|(refine Br.mk ?_ ?_<;>intro hc)|(refine An.mk ?_;intro x hx))
  refine wp_eachI (l) (fun r g => idxFrom (fun y => decide (x = y)) r g) (fun i (g : Nat) => ⟨envA [(0, eI l), (1, .i x), (7, .i l.length), (8, .i (i : Nat))], heapA [], 0, false⟩) (0) (idxFrom (fun y => decide (x = y)) l 0) (fun i (g : Nat) => g = i) nm ?_ ?_ ?_ ?_
  · rfl
  · rfl
  · rintro i g y hi hx hm hF rfl
    repeat' (first|refine st ?_|refine u0 ?_|refine u1 ?_|refine u2 ?_|refine u3 ?_|refine u4 ?_|refine u5 ?_|refine u6 ?_|refine u7 ?_|refine u8 ?_|refine u9 ?_|(refine Br.mk ?_ ?_<;>intro hc)|(refine An.mk ?_;intro x hx))
    · rw [← hF]; simp [idxFrom, hc]
    · exact ei_n (g + 1) (by rw [← hF]; simp [idxFrom, hc]) rfl nm
  · intro g hF hI
    repeat' (first|refine st ?_|refine u0 ?_|refine u1 ?_|refine u2 ?_|refine u3 ?_|refine u4 ?_|refine u5 ?_|refine u6 ?_|refine u7 ?_|refine u8 ?_|refine u9 ?_|(refine Br.mk ?_ ?_<;>intro hc)|(refine An.mk ?_;intro x hx))
    rw [← hF]; rfl
theorem k_slContains (l : List Int) (x : Int) (hl : Bnd.ok l) : CALLB Γ T 73 [] [eI l, .i x] = some (.b (decide (x ∈ l)), []) := by
  apply call_ro' rfl rfl rfl rfl
  repeat' (first|refine st ?_|refine u0 ?_|refine u1 ?_|refine u2 ?_|refine u3 ?_|refine u4 ?_|refine u5 ?_|refine u6 ?_|refine u7 ?_|refine u8 ?_|refine u9 ?_|(apply i_ca;first|(apply i_f 94;refine c0 (k_slIndex _ _ hl) ?_))|(refine Br.mk ?_ ?_<;>intro hc)|(refine An.mk ?_;intro x hx))
  rw [Bool.eq_iff_iff]; simp [idxFrom_pos]
theorem k_IndexFuncI (f : Nat) (v : V) (p : Int → Bool) (l : List Int) (hmd : Γ.md f = some []) (hl : Bnd.ok l) (hp : ∀ x ∈ l, CALLB Γ T f [] [.i x, .rp v] = some (.b (p x), [])) :
    CALLB Γ T 118 [] [eI l, .cl f [.rp v]] = some (.i (idxFrom p l 0), []) := by
  have hle := ok_len hl
  apply call_ro' rfl rfl rfl rfl
  repeat' (first|refine st ?_|refine u0 ?_|refine u1 ?_|refine u2 ?_|refine u3 ?_|refine u4 ?_|refine u5 ?_|refine u6 ?_|refine u7 ?_|refine u8 ?_|refine u9 ?_|(refine Br.mk ?_ ?_<;>intro hc)|(refine An.mk ?_;intro x hx))
  refine wp_eachI (l) (fun r g => idxFrom p r g) (fun i (g : Nat) => ⟨envA [(0, eI l), (1, .cl f [.rp v]), (7, .i l.length), (8, .i (i : Nat))], heapA [], 0, false⟩) (0) (idxFrom p l 0) (fun i (g : Nat) => g = i) nm ?_ ?_ ?_ ?_
  · rfl
  · rfl
  · rintro i g x hi hx hm hF rfl
    have hk := hp x hm
    repeat' (first|refine st ?_|refine u0 ?_|refine u1 ?_|refine u2 ?_|refine u3 ?_|refine u4 ?_|refine u5 ?_|refine u6 ?_|refine u7 ?_|refine u8 ?_|refine u9 ?_|(apply i_ca;first|refine cv (hk) ?_)|(refine Br.mk ?_ ?_<;>intro hc)|(refine An.mk ?_;intro x hx))
    · rw [← hF]; simp [idxFrom, hc]
    · exact ei_n (g + 1) (by rw [← hF]; simp [idxFrom, hc]) rfl nm
  · intro g hF hI
    repeat' (first|refine st ?_|refine u0 ?_|refine u1 ?_|refine u2 ?_|refine u3 ?_|refine u4 ?_|refine u5 ?_|refine u6 ?_|refine u7 ?_|refine u8 ?_|refine u9 ?_|(refine Br.mk ?_ ?_<;>intro hc)|(refine An.mk ?_;intro x hx))
    rw [← hF]; rfl
theorem k_IndexFuncI2 (f : Nat) (v w : V) (p : Int → Bool) (l : List Int) (hmd : Γ.md f = some []) (hl : Bnd.ok l) (hp : ∀ x ∈ l, CALLB Γ T f [] [.i x, .rp v, .rp w] = some (.b (p x), [])) :
    CALLB Γ T 118 [] [eI l, .cl f [.rp v, .rp w]] = some (.i (idxFrom p l 0), []) := by
  have hle := ok_len hl
  apply call_ro' rfl rfl rfl rfl
  repeat' (first|refine st ?_|refine u0 ?_|refine u1 ?_|refine u2 ?_|refine u3 ?_|refine u4 ?_|refine u5 ?_|refine u6 ?_|refine u7 ?_|refine u8 ?_|refine u9 ?_|(refine Br.mk ?_ ?_<;>intro hc)|(refine An.mk ?_;intro x hx))
  refine wp_eachI (l) (fun r g => idxFrom p r g) (fun i (g : Nat) => ⟨envA [(0, eI l), (1, .cl f [.rp v, .rp w]), (7, .i l.length), (8, .i (i : Nat))], heapA [], 0, false⟩) (0) (idxFrom p l 0) (fun i (g : Nat) => g = i) nm ?_ ?_ ?_ ?_
  · rfl
  · rfl
  · rintro i g x hi hx hm hF rfl
    have hk := hp x hm
    repeat' (first|refine st ?_|refine u0 ?_|refine u1 ?_|refine u2 ?_|refine u3 ?_|refine u4 ?_|refine u5 ?_|refine u6 ?_|refine u7 ?_|refine u8 ?_|refine u9 ?_|(apply i_ca;first|refine cv (hk) ?_)|(refine Br.mk ?_ ?_<;>intro hc)|(refine An.mk ?_;intro x hx))
    · rw [← hF]; simp [idxFrom, hc]
    · exact ei_n (g + 1) (by rw [← hF]; simp [idxFrom, hc]) rfl nm
  · intro g hF hI
    repeat' (first|refine st ?_|refine u0 ?_|refine u1 ?_|refine u2 ?_|refine u3 ?_|refine u4 ?_|refine u5 ?_|refine u6 ?_|refine u7 ?_|refine u8 ?_|refine u9 ?_|(refine Br.mk ?_ ?_<;>intro hc)|(refine An.mk ?_;intro x hx))
    rw [← hF]; rfl
theorem k_ContainsFuncI2 (f : Nat) (v w : V) (p : Int → Bool) (l : List Int) (hmd : Γ.md f = some []) (hl : Bnd.ok l) (hp : ∀ x ∈ l, CALLB Γ T f [] [.i x, .rp v, .rp w] = some (.b (p x), [])) :
    CALLB Γ T 106 [] [eI l, .cl f [.rp v, .rp w]] = some (.b (l.any p), []) := by
  apply call_ro' rfl rfl rfl rfl
  repeat' (first|refine st ?_|refine u0 ?_|refine u1 ?_|refine u2 ?_|refine u3 ?_|refine u4 ?_|refine u5 ?_|refine u6 ?_|refine u7 ?_|refine u8 ?_|refine u9 ?_|(apply i_ca;first|(apply i_f 118;refine c0 (k_IndexFuncI2 f v w p l hmd hl hp) ?_))|(refine Br.mk ?_ ?_<;>intro hc)|(refine An.mk ?_;intro x hx))
  rw [Bool.eq_iff_iff]; simp [idxFrom_pos]
theorem k_IndexFuncR (f : Nat) (v : V) (p : List Int → Bool) (l : List (List Int)) (hmd : Γ.md f = some []) (hl : Bnd.ok l) (hp : ∀ x ∈ l, CALLB Γ T f [] [eR x, .rp v] = some (.b (p x), [])) :
    CALLB Γ T 117 [] [eL eR l, .cl f [.rp v]] = some (.i (idxFrom p l 0), []) := by
  have hle := ok_len hl
  apply call_ro' rfl rfl rfl rfl
  repeat' (first|refine st ?_|refine u0 ?_|refine u1 ?_|refine u2 ?_|refine u3 ?_|refine u4 ?_|refine u5 ?_|refine u6 ?_|refine u7 ?_|refine u8 ?_|refine u9 ?_|(refine Br.mk ?_ ?_<;>intro hc)|(refine An.mk ?_;intro x hx))
  refine wp_eachI (l) (fun r g => idxFrom p r g) (fun i (g : Nat) => ⟨envA [(0, eL eR l), (1, .cl f [.rp v]), (7, .i l.length), (8, .i (i : Nat))], heapA [], 0, false⟩) (0) (idxFrom p l 0) (fun i (g : Nat) => g = i) nm ?_ ?_ ?_ ?_
  · rfl
  · rfl
  · rintro i g x hi hx hm hF rfl
    have hk := hp x hm
    repeat' (first|refine st ?_|refine u0 ?_|refine u1 ?_|refine u2 ?_|refine u3 ?_|refine u4 ?_|refine u5 ?_|refine u6 ?_|refine u7 ?_|refine u8 ?_|refine u9 ?_|(apply i_ca;first|refine cv (hk) ?_)|(refine Br.mk ?_ ?_<;>intro hc)|(refine An.mk ?_;intro x hx))
    · rw [← hF]; simp [idxFrom, hc]
    · exact ei_n (g + 1) (by rw [← hF]; simp [idxFrom, hc]) rfl nm
  · intro g hF hI
    repeat' (first|refine st ?_|refine u0 ?_|refine u1 ?_|refine u2 ?_|refine u3 ?_|refine u4 ?_|refine u5 ?_|refine u6 ?_|refine u7 ?_|refine u8 ?_|refine u9 ?_|(refine Br.mk ?_ ?_<;>intro hc)|(refine An.mk ?_;intro x hx))
    rw [← hF]; rfl
theorem k_ContainsFuncR (f : Nat) (v : V) (p : List Int → Bool) (l : List (List Int)) (hmd : Γ.md f = some []) (hl : Bnd.ok l) (hp : ∀ x ∈ l, CALLB Γ T f [] [eR x, .rp v] = some (.b (p x), [])) :
    CALLB Γ T 101 [] [eL eR l, .cl f [.rp v]] = some (.b (l.any p), []) := by
  apply call_ro' rfl rfl rfl rfl
  repeat' (first|refine st ?_|refine u0 ?_|refine u1 ?_|refine u2 ?_|refine u3 ?_|refine u4 ?_|refine u5 ?_|refine u6 ?_|refine u7 ?_|refine u8 ?_|refine u9 ?_|(apply i_ca;first|(apply i_f 117;refine c0 (k_IndexFuncR f v p l hmd hl hp) ?_))|(refine Br.mk ?_ ?_<;>intro hc)|(refine An.mk ?_;intro x hx))
  rw [Bool.eq_iff_iff]; simp [idxFrom_pos]
def areRows (l : List (List Int)) (n : Int) : Bool := l.all (fun r => isRow r n) && (decide (1 ≤ n ∧ n ≤ 5) && decide ((l.length : Int) ≤ 20))
theorem k_AreRows (l : List (List Int)) (n : Int) (hl : Bnd.ok l) : CALLB Γ T 64 [] [eL eR l, .i n] = some (.b (areRows l n), []) := by
  have hle := ok_len hl
  apply call_ro' rfl rfl rfl rfl
  repeat' (first|refine st ?_|refine u0 ?_|refine u1 ?_|refine u2 ?_|refine u3 ?_|refine u4 ?_|refine u5 ?_|refine u6 ?_|refine u7 ?_|refine u8 ?_|refine u9 ?_|(refine Br.mk ?_ ?_<;>intro hc)|(refine An.mk ?_;intro x hx))
  refine wp_each (l) (fun r _ => r.all (fun r => isRow r n) && (decide (1 ≤ n ∧ n ≤ 5) && decide ((l.length : Int) ≤ 20))) (fun i (_ : Unit) => ⟨envA [(0, eL eR l), (1, .i n), (7, eL eR l), (8, .i l.length), (9, .i (i : Nat))], heapA [], 0, false⟩) (()) (areRows l n) nm ?_ ?_ ?_
  · rfl
  · intro i g x hi hx hm hF
    repeat' (first|refine st ?_|refine u0 ?_|refine u1 ?_|refine u2 ?_|refine u3 ?_|refine u4 ?_|refine u5 ?_|refine u6 ?_|refine u7 ?_|refine u8 ?_|refine u9 ?_|(apply i_ca;first|(apply i_f 90;refine c0 (k_IsRow _ _ (ok_mem hl hm)) ?_))|(refine Br.mk ?_ ?_<;>intro hc)|(refine An.mk ?_;intro x hx))
    · rw [← hF]; simp [*]
    · exact ea_n () (by rw [← hF]; simp [*]) nm
  · intro g hF
    repeat' (first|refine st ?_|refine u0 ?_|refine u1 ?_|refine u2 ?_|refine u3 ?_|refine u4 ?_|refine u5 ?_|refine u6 ?_|refine u7 ?_|refine u8 ?_|refine u9 ?_|(apply i_ca;first|(apply i_f 91;refine c0 (k_within _ _ _) ?_))|(refine Br.mk ?_ ?_<;>intro hc)|(refine An.mk ?_;intro x hx))
    all_goals rw [← hF]; simp [*]
theorem k_sAreRows (l : List (List Int)) (n : Int) (hl : Bnd.ok l) : CALLB Γ T 21 [] [eL eR l, .i n] = some (.b (areRows l n), []) := by
  have hle := ok_len hl
  apply call_ro' rfl rfl rfl rfl
  repeat' (first|refine st ?_|refine u0 ?_|refine u1 ?_|refine u2 ?_|refine u3 ?_|refine u4 ?_|refine u5 ?_|refine u6 ?_|refine u7 ?_|refine u8 ?_|refine u9 ?_|(refine Br.mk ?_ ?_<;>intro hc)|(refine An.mk ?_;intro x hx))
  refine wp_each (l) (fun r _ => r.all (fun r => isRow r n) && (decide (1 ≤ n ∧ n ≤ 5) && decide ((l.length : Int) ≤ 20))) (fun i (_ : Unit) => ⟨envA [(0, eL eR l), (1, .i n), (5, .i (i : Nat))], heapA [], 0, false⟩) (()) (areRows l n) nm ?_ ?_ ?_
  · rfl
  · intro i g x hi hx hm hF
    repeat' (first|refine st ?_|refine u0 ?_|refine u1 ?_|refine u2 ?_|refine u3 ?_|refine u4 ?_|refine u5 ?_|refine u6 ?_|refine u7 ?_|refine u8 ?_|refine u9 ?_|(apply i_ca;first|(apply i_f 70;refine c0 (k_sIsRow _ _ (ok_mem hl hm)) ?_))|(refine Br.mk ?_ ?_<;>intro hc)|(refine An.mk ?_;intro x hx))
    · rw [← hF]; simp [*]
    · exact ea_n () (by rw [← hF]; simp [*]) nm
  · intro g hF
    repeat' (first|refine st ?_|refine u0 ?_|refine u1 ?_|refine u2 ?_|refine u3 ?_|refine u4 ?_|refine u5 ?_|refine u6 ?_|refine u7 ?_|refine u8 ?_|refine u9 ?_|(apply i_ca;first|(apply i_f 71;refine c0 (k_l1In _ _ _) ?_))|(refine Br.mk ?_ ?_<;>intro hc)|(refine An.mk ?_;intro x hx))
    all_goals rw [← hF]; simp [*]
def mkD (l : List (List Int)) (i k : Int) : Int := (l.getD i.toNat []).getD k.toNat 0
theorem mkD_of {l : List (List Int)} {i k : Int} {r : List Int} {m : Int} (h1 : l[i.toNat]? = some r) (h2 : r[k.toNat]? = some m) : mkD l i k = m := by simp [mkD, List.getD_eq_getElem?_getD, h1, h2]
def fineD (l : List (List Int)) (rows : List Int) (k : Int) : Bool := rows.all fun i => !decide (mkD l i k = -1)
def canD (l : List (List Int)) (rows left : List Int) : List Int := left.filter (fineD l rows)
def restD (c left : List Int) : List Int := left.filter fun k => !decide (k ∈ c)
def wonD (l : List (List Int)) (c : List Int) (i : Int) : Bool := c.any fun k => decide (mkD l i k = 1)
def keepD (l : List (List Int)) (c rows : List Int) : List Int := rows.filter fun i => !wonD l c i
def runD (l : List (List Int)) : Nat → List Int → List Int → List (List Int) → List (List Int) × List Int × List Int
  | 0, left, rows, st => (st, left, rows)
  | n + 1, left, rows, st => if left = [] then (st, left, rows) else if canD l rows left = [] then (st, left, rows) else runD l n (restD (canD l rows left) left) (keepD l (canD l rows left) rows) (st ++ [canD l rows left])
def rng (n : Nat) : List Int := (List.range n).map Int.ofNat
/-- What the lists are made of. -/
structure InD (l : List (List Int)) (n : Int) (left rows : List Int) : Prop where
  row : ∀ r ∈ l, (r.length : Int) = n
  n0 : 0 ≤ n
  nl : n ≤ 2 ^ 20
  ll : l.length ≤ 2 ^ 20
  lf : ∀ k ∈ left, 0 ≤ k ∧ k < n
  rw_ : ∀ i ∈ rows, 0 ≤ i ∧ i < l.length
theorem InD.cell {l : List (List Int)} {n : Int} {left rows : List Int} (h : InD l n left rows) {i k : Int} (hi : i ∈ rows) (hk : 0 ≤ k ∧ k < n) : ∃ r m, l[i.toNat]? = some r ∧ r[k.toNat]? = some m ∧ r ∈ l ∧ (r.length : Int) = n ∧ mkD l i k = m := by
  have h1 := h.rw_ i hi
  have hlt : i.toNat < l.length := by omega
  have h3 := h.row _ (List.getElem_mem hlt)
  refine ⟨l[i.toNat], l[i.toNat][k.toNat]'(by omega), List.getElem?_eq_getElem hlt, List.getElem?_eq_getElem _, List.getElem_mem hlt, h3, ?_⟩
  exact mkD_of (List.getElem?_eq_getElem hlt) (List.getElem?_eq_getElem _)
theorem InD.ok {l : List (List Int)} {n : Int} {left rows : List Int} (h : InD l n left rows) : Bnd.ok l := by
  have h1 := h.ll
  have h2 := h.nl
  exact ⟨by omega, fun r hr => ⟨by have := h.row r hr; omega, fun _ _ => trivial⟩⟩
theorem k_l15Stratum (l : List (List Int)) (n : Int) (rows left : List Int) (hl : Bnd.ok left) (hr : Bnd.ok rows) (h : InD l n left rows) : CALLB Γ T 99 [] [eL eR l, eI rows, eI left] = some (oI (canD l rows left), []) := by
  have hle := ok_len hl
  have hre := ok_len hr
  have hn := h.nl
  apply call_ro' rfl rfl rfl rfl
  repeat' (first|refine st ?_|refine u0 ?_|refine u1 ?_|refine u2 ?_|refine u3 ?_|refine u4 ?_|refine u5 ?_|refine u6 ?_|refine u7 ?_|refine u8 ?_|refine u9 ?_|(refine Br.mk ?_ ?_<;>intro hc)|(refine An.mk ?_;intro x hx))
  refine wp_eachI (left) (fun r acc => acc ++ r.filter (fineD l rows)) (fun i (acc : List Int) => ⟨envA [(0, eL eR l), (1, eI rows), (2, eI left), (7, .hs 0 0 (acc).length (acc).length), (8, .i (i : Nat))], heapA [some ⟨1, (acc).map V.i, false⟩], 1, false⟩) ([]) (canD l rows left) (fun i (acc : List Int) => acc.length ≤ i) nm ?_ ?_ ?_ ?_
  · rfl
  · simp
  · intro i acc k hi hx hm hF hI
    repeat' (first|refine st ?_|refine u0 ?_|refine u1 ?_|refine u2 ?_|refine u3 ?_|refine u4 ?_|refine u5 ?_|refine u6 ?_|refine u7 ?_|refine u8 ?_|refine u9 ?_|(refine Br.mk ?_ ?_<;>intro hc)|(refine An.mk ?_;intro x hx))
    refine wp_each (rows) (fun r g => g && r.all (fun i => !decide (mkD l i k = -1))) (fun j (g : Bool) => ⟨envA [(0, eL eR l), (1, eI rows), (2, eI left), (7, .hs 0 0 (acc).length (acc).length), (8, .i (i : Nat)), (9, .b g), (10, .i (j : Nat))], heapA [some ⟨1, (acc).map V.i, false⟩], 1, false⟩) (true) (fineD l rows k) nm ?_ ?_ ?_
    · rfl
    · intro j g y hj hy hym hF2
      obtain ⟨r, m, h1, h2, h3, h4, h5⟩ := h.cell hym (h.lf k hm)
      have h6 := h.rw_ y hym
      have h7 := h.lf k hm
      repeat' (first|refine st ?_|refine u0 ?_|refine u1 ?_|refine u2 ?_|refine u3 ?_|refine u4 ?_|refine u5 ?_|refine u6 ?_|refine u7 ?_|refine u8 ?_|refine u9 ?_|(refine Br.mk ?_ ?_<;>intro hc)|(refine An.mk ?_;intro x hx))
      · exact ea_n (!decide (m = -1)) (by simpa [h5, hc] using hF2) nm
      · exact ea_n false (by simpa [hc] using hF2) nm
    · intro g hF2
      have hg : g = fineD l rows k := by simpa using hF2
      subst hg
      repeat' (first|refine st ?_|refine u0 ?_|refine u1 ?_|refine u2 ?_|refine u3 ?_|refine u4 ?_|refine u5 ?_|refine u6 ?_|refine u7 ?_|refine u8 ?_|refine u9 ?_|(refine Br.mk ?_ ?_<;>intro hc)|(refine An.mk ?_;intro x hx))
      · exact ei_n (acc ++ [k]) (by simpa [hc] using hF) (by simp; omega) nm
      · exact ei_n acc (by simpa [hc] using hF) (by omega) nm
  · intro acc hF hI
    repeat' (first|refine st ?_|refine u0 ?_|refine u1 ?_|refine u2 ?_|refine u3 ?_|refine u4 ?_|refine u5 ?_|refine u6 ?_|refine u7 ?_|refine u8 ?_|refine u9 ?_|(refine Br.mk ?_ ?_<;>intro hc)|(refine An.mk ?_;intro x hx))
    simpa using hF
theorem k_demote1 (r : List Int) (k m : Int) (h0 : 0 ≤ k) (hm : r[k.toNat]? = some m) : CALLB Γ T 102 [] [eR r, .rp (.i k)] = some (.b (decide (m = -1)), []) := by
  have hlt : k.toNat < r.length := (List.getElem?_eq_some_iff.1 hm).1
  apply call_ro' rfl rfl rfl rfl
  repeat' (first|refine st ?_|refine u0 ?_|refine u1 ?_|refine u2 ?_|refine u3 ?_|refine u4 ?_|refine u5 ?_|refine u6 ?_|refine u7 ?_|refine u8 ?_|refine u9 ?_|(refine Br.mk ?_ ?_<;>intro hc)|(refine An.mk ?_;intro x hx))
  rfl
theorem k_demote2 (c : List Int) (k : Int) (hc : Bnd.ok c) : CALLB Γ T 104 [] [.i k, .rp (eI c)] = some (.b (decide (k ∈ c)), []) := by
  apply call_ro' rfl rfl rfl rfl
  repeat' (first|refine st ?_|refine u0 ?_|refine u1 ?_|refine u2 ?_|refine u3 ?_|refine u4 ?_|refine u5 ?_|refine u6 ?_|refine u7 ?_|refine u8 ?_|refine u9 ?_|(apply i_ca;first|(apply i_f 73;refine c0 (k_slContains _ _ hc) ?_))|(refine Br.mk ?_ ?_<;>intro hc)|(refine An.mk ?_;intro x hx))
  rfl
theorem k_demote31 (l : List (List Int)) (i k m : Int) (r : List Int) (h1 : l[i.toNat]? = some r) (h2 : r[k.toNat]? = some m) (hi : 0 ≤ i) (hk : 0 ≤ k) : CALLB Γ T 107 [] [.i k, .rp (eL eR l), .rp (.i i)] = some (.b (decide (m = 1)), []) := by
  apply call_ro' rfl rfl rfl rfl
  repeat' (first|refine st ?_|refine u0 ?_|refine u1 ?_|refine u2 ?_|refine u3 ?_|refine u4 ?_|refine u5 ?_|refine u6 ?_|refine u7 ?_|refine u8 ?_|refine u9 ?_|(refine Br.mk ?_ ?_<;>intro hc)|(refine An.mk ?_;intro x hx))
  rfl
theorem k_demote3 (l : List (List Int)) (n : Int) (c rows : List Int) (i : Int) (hc : Bnd.ok c) (h : InD l n c rows) (hi : i ∈ rows) : CALLB Γ T 105 [] [.i i, .rp (eI c), .rp (eL eR l)] = some (.b (wonD l c i), []) := by
  have h1 : ∀ k ∈ c, CALLB Γ T 107 [] [.i k, .rp (eL eR l), .rp (.i i)] = some (.b (decide (mkD l i k = 1)), []) := by
    intro k hk
    obtain ⟨r, m, g1, g2, _, _, g5⟩ := h.cell hi (h.lf k hk)
    rw [g5]
    exact k_demote31 l i k m r g1 g2 (h.rw_ i hi).1 (h.lf k hk).1
  apply call_ro' rfl rfl rfl rfl
  repeat' (first|refine st ?_|refine u0 ?_|refine u1 ?_|refine u2 ?_|refine u3 ?_|refine u4 ?_|refine u5 ?_|refine u6 ?_|refine u7 ?_|refine u8 ?_|refine u9 ?_|(apply i_ca;first|(apply i_f 106;refine c0 (k_ContainsFuncI2 107 (eL eR l) (.i i) (fun k => decide (mkD l i k = 1)) c rfl hc h1) ?_))|(refine Br.mk ?_ ?_<;>intro hc)|(refine An.mk ?_;intro x hx))
  rfl
theorem filter_take {α : Type} {q : α → Bool} {l : List α} {i : Nat} {x : α} (h : l[i]? = some x) : (l.take (i + 1)).filter q = (l.take i).filter q ++ (if q x then [x] else []) := by
  rw [List.take_add_one, h, List.filter_append]
  cases hq : q x <;> simp [hq]
theorem idxFrom_ge {α : Type} {p : α → Bool} : ∀ {l : List α} {i : Nat}, idxFrom p l i = -1 → ∀ x ∈ l, p x = false
  | [], _, _ => by simp
  | y :: l, i, h => by
    unfold idxFrom at h
    split at h
    · omega
    · rename_i hy
      intro x hx
      rcases List.mem_cons.1 hx with rfl | hx
      · simpa using hy
      · exact idxFrom_ge h x hx
theorem idxFrom_at {α : Type} {p : α → Bool} : ∀ {l : List α} {i : Nat}, idxFrom p l i ≠ -1 → ∃ j x, idxFrom p l i = ((i + j : Nat) : Int) ∧ l[j]? = some x ∧ p x = true ∧ ∀ y ∈ l.take j, p y = false
  | [], _, h => by simp [idxFrom] at h
  | y :: l, i, h => by
    unfold idxFrom at h ⊢
    split at h
    · rename_i hy
      rw [if_pos hy]
      exact ⟨0, y, by simp, rfl, hy, by simp⟩
    · rename_i hy
      rw [if_neg hy]
      obtain ⟨j, x, h1, h2, h3, h4⟩ := idxFrom_at h
      exact ⟨j + 1, x, by rw [h1]; congr 1; omega, by simpa using h2, h3, by
        intro z hz
        rw [List.take_succ_cons] at hz
        rcases List.mem_cons.1 hz with rfl | hz
        · simpa using hy
        · exact h4 z hz⟩
theorem drop_get {α : Type} {e l : List α} {j : Nat} {x : α} (h : e.drop j = l.drop j) (hx : l[j]? = some x) : e[j]? = some x := by
  have h1 : (e.drop j)[0]? = (l.drop j)[0]? := by rw [h]
  simpa [hx] using h1
theorem drop_next {α : Type} {e l : List α} {j : Nat} (h : e.drop j = l.drop j) : e.drop (j + 1) = l.drop (j + 1) := by
  rw [← List.drop_drop, ← List.drop_drop, h]
theorem take_set {α : Type} {e : List α} {i : Nat} {x : α} (hi : i < e.length) : (e.set i x).take (i + 1) = e.take i ++ [x] := by
  rw [List.take_set, List.take_succ_eq_append_getElem hi, List.set_append_right _ _ (by simp; omega)]
  have : i - (e.take i).length = 0 := by simp; omega
  rw [this]; rfl
theorem drop_set {α : Type} {e : List α} {i j : Nat} {x : α} (h : i < j) : (e.set i x).drop j = e.drop j := by
  rw [List.drop_set, if_pos h]
theorem filter_self {α : Type} {q : α → Bool} {l : List α} (h : ∀ x ∈ l, q x = true) : l.filter q = l := List.filter_eq_self.2 h
theorem k_DeleteFunc (f : Nat) (v : V) (p : Int → Bool) (l : List Int) (hmd : Γ.md f = some []) (hl : Bnd.ok l) (hp : ∀ x ∈ l, CALLB Γ T f [] [.i x, .rp v] = some (.b (p x), [])) :
    CALLB Γ T 103 [.tk, .ro] [oI l, .cl f [.rp v]] = some (oI (l.filter fun x => !p x), []) := by
  have hle := ok_len hl
  refine call_md' rfl rfl rfl rfl tkLA ?_
  by_cases hm1 : idxFrom p l 0 = -1
  · repeat' (first|refine st ?_|refine u0 ?_|refine u1 ?_|refine u2 ?_|refine u3 ?_|refine u4 ?_|refine u5 ?_|refine u6 ?_|refine u7 ?_|refine u8 ?_|refine u9 ?_|(apply i_ca;first|(apply i_f 118;refine c0 (k_IndexFuncI f v p l hmd hl hp) ?_))|(refine Br.mk ?_ ?_<;>intro hc)|(refine An.mk ?_;intro x hx))
    rw [filter_self]
    intro x hx
    rw [idxFrom_ge hm1 x hx]; rfl
  · obtain ⟨j0, x0, h1, h2, h3, h4⟩ := idxFrom_at hm1
    rw [Nat.zero_add] at h1
    have hk := k_IndexFuncI f v p l hmd hl hp
    rw [h1] at hk
    have hj0 := (List.getElem?_eq_some_iff.1 h2).1
    (try refine st ?_)
    refine c0 (hk) ?_
    repeat' (first|refine st ?_|refine u0 ?_|refine u1 ?_|refine u2 ?_|refine u3 ?_|refine u4 ?_|refine u5 ?_|refine u6 ?_|refine u7 ?_|refine u8 ?_|refine u9 ?_|(refine Br.mk ?_ ?_<;>intro hc)|(refine An.mk ?_;intro x hx))
    refine wp_while (fun (x : Nat × Nat × List Int) => ⟨envA [(0, .hs 0 0 l.length l.length), (1, .cl f [.rp v]), (5, .i (x.1 : Nat)), (6, .i (x.2.1 : Nat))], heapA [some ⟨1, (x.2.2.map V.i), false⟩], 1, false⟩) (fun (x : Nat × Nat × List Int) => x.2.2.length = l.length ∧ x.2.1 ≤ l.length ∧ x.1 < x.2.1 ∧ x.2.2.take x.1 = (l.take x.2.1).filter (fun x => !p x) ∧ x.2.2.drop x.2.1 = l.drop x.2.1) (fun (x : Nat × Nat × List Int) => l.length - x.2.1) ((j0, j0 + 1, l)) nm ?_ ?_
    · refine ⟨rfl, by show j0 + 1 ≤ l.length; omega, by show j0 < j0 + 1; omega, ?_, rfl⟩
      show l.take j0 = (l.take (j0 + 1)).filter _
      rw [filter_take h2, h3, filter_self fun y hy => by rw [h4 y hy]; rfl]
      simp
    · rintro ⟨i, j, e⟩ ⟨g1, g2, g3, g4, g5⟩
      simp only at g1 g2 g3 g4 g5
      dsimp only
      by_cases hj : j < l.length
      · have hx := drop_get g5 (List.getElem?_eq_getElem hj)
        have hxl : l[j]? = some l[j] := List.getElem?_eq_getElem hj
        generalize l[j] = x at hx hxl
        have hpx := hp x (List.mem_of_getElem? hxl)
        repeat' (first|refine st ?_|refine u0 ?_|refine u1 ?_|refine u2 ?_|refine u3 ?_|refine u4 ?_|refine u5 ?_|refine u6 ?_|refine u7 ?_|refine u8 ?_|refine u9 ?_|(apply i_ca;first|refine cv (hpx) ?_)|(refine Br.mk ?_ ?_<;>intro hc)|(refine An.mk ?_;intro x hx))
        · refine lp_n (i + 1, j + 1, e.set i x) (by show l.length - (j + 1) < l.length - j; omega) ⟨by simpa using g1, by show j + 1 ≤ _; omega, by show i + 1 < j + 1; omega, ?_, ?_⟩ nm
          · show (e.set i x).take (i + 1) = (l.take (j + 1)).filter _
            rw [take_set (by omega), g4, filter_take hxl, hc]; rfl
          · show (e.set i x).drop (j + 1) = l.drop (j + 1)
            rw [drop_set (by omega)]; exact drop_next g5
        · refine lp_n (i, j + 1, e) (by show l.length - (j + 1) < l.length - j; omega) ⟨g1, by show j + 1 ≤ _; omega, by show i < j + 1; omega, ?_, drop_next g5⟩ nm
          show e.take i = (l.take (j + 1)).filter _
          rw [g4, filter_take hxl, hc]; simp
      · repeat' (first|refine st ?_|refine u0 ?_|refine u1 ?_|refine u2 ?_|refine u3 ?_|refine u4 ?_|refine u5 ?_|refine u6 ?_|refine u7 ?_|refine u8 ?_|refine u9 ?_|(refine Br.mk ?_ ?_<;>intro hc)|(refine An.mk ?_;intro x hx))
        refine g_sch rfl rfl rfl rfl rfl (by omega) ?_
        refine g_cr rfl rfl rfl rfl (by simp; omega) ?_
        repeat' (first|refine st ?_|refine u0 ?_|refine u1 ?_|refine u2 ?_|refine u3 ?_|refine u4 ?_|refine u5 ?_|refine u6 ?_|refine u7 ?_|refine u8 ?_|refine u9 ?_|(refine Br.mk ?_ ?_<;>intro hc)|(refine An.mk ?_;intro x hx))
        refine g_sch rfl rfl rfl rfl rfl (by omega) ?_
        (try refine st ?_)
        have hjl : j = l.length := by omega
        rw [hjl, List.take_length] at g4
        have hi : ((i : Int) - ((0 : Nat) : Int)).toNat = i := by omega
        have hi2 : 0 + (i : Int).toNat = i := by omega
        refine fin_gv rfl (gv_front (ts := (l.filter fun x => !p x).map V.i) rfl ?_ ?_ (allL_map fun _ => okA)) rfl
        · rw [hi, hi2, splice_length _ _ _ (by simp; omega)]; simp; omega
        · rw [hi, hi2, splice_take (by simp; omega), ← List.map_take, g4]
theorem k_DeleteFunc2 (f : Nat) (v w : V) (p : Int → Bool) (l : List Int) (hmd : Γ.md f = some []) (hl : Bnd.ok l) (hp : ∀ x ∈ l, CALLB Γ T f [] [.i x, .rp v, .rp w] = some (.b (p x), [])) :
    CALLB Γ T 103 [.tk, .ro] [oI l, .cl f [.rp v, .rp w]] = some (oI (l.filter fun x => !p x), []) := by
  have hle := ok_len hl
  refine call_md' rfl rfl rfl rfl tkLA ?_
  by_cases hm1 : idxFrom p l 0 = -1
  · repeat' (first|refine st ?_|refine u0 ?_|refine u1 ?_|refine u2 ?_|refine u3 ?_|refine u4 ?_|refine u5 ?_|refine u6 ?_|refine u7 ?_|refine u8 ?_|refine u9 ?_|(apply i_ca;first|(apply i_f 118;refine c0 (k_IndexFuncI2 f v w p l hmd hl hp) ?_))|(refine Br.mk ?_ ?_<;>intro hc)|(refine An.mk ?_;intro x hx))
    rw [filter_self]
    intro x hx
    rw [idxFrom_ge hm1 x hx]; rfl
  · obtain ⟨j0, x0, h1, h2, h3, h4⟩ := idxFrom_at hm1
    rw [Nat.zero_add] at h1
    have hk := k_IndexFuncI2 f v w p l hmd hl hp
    rw [h1] at hk
    have hj0 := (List.getElem?_eq_some_iff.1 h2).1
    (try refine st ?_)
    refine c0 (hk) ?_
    repeat' (first|refine st ?_|refine u0 ?_|refine u1 ?_|refine u2 ?_|refine u3 ?_|refine u4 ?_|refine u5 ?_|refine u6 ?_|refine u7 ?_|refine u8 ?_|refine u9 ?_|(refine Br.mk ?_ ?_<;>intro hc)|(refine An.mk ?_;intro x hx))
    refine wp_while (fun (x : Nat × Nat × List Int) => ⟨envA [(0, .hs 0 0 l.length l.length), (1, .cl f [.rp v, .rp w]), (5, .i (x.1 : Nat)), (6, .i (x.2.1 : Nat))], heapA [some ⟨1, (x.2.2.map V.i), false⟩], 1, false⟩) (fun (x : Nat × Nat × List Int) => x.2.2.length = l.length ∧ x.2.1 ≤ l.length ∧ x.1 < x.2.1 ∧ x.2.2.take x.1 = (l.take x.2.1).filter (fun x => !p x) ∧ x.2.2.drop x.2.1 = l.drop x.2.1) (fun (x : Nat × Nat × List Int) => l.length - x.2.1) ((j0, j0 + 1, l)) nm ?_ ?_
    · refine ⟨rfl, by show j0 + 1 ≤ l.length; omega, by show j0 < j0 + 1; omega, ?_, rfl⟩
      show l.take j0 = (l.take (j0 + 1)).filter _
      rw [filter_take h2, h3, filter_self fun y hy => by rw [h4 y hy]; rfl]
      simp
    · rintro ⟨i, j, e⟩ ⟨g1, g2, g3, g4, g5⟩
      simp only at g1 g2 g3 g4 g5
      dsimp only
      by_cases hj : j < l.length
      · have hx := drop_get g5 (List.getElem?_eq_getElem hj)
        have hxl : l[j]? = some l[j] := List.getElem?_eq_getElem hj
        generalize l[j] = x at hx hxl
        have hpx := hp x (List.mem_of_getElem? hxl)
        repeat' (first|refine st ?_|refine u0 ?_|refine u1 ?_|refine u2 ?_|refine u3 ?_|refine u4 ?_|refine u5 ?_|refine u6 ?_|refine u7 ?_|refine u8 ?_|refine u9 ?_|(apply i_ca;first|refine cv (hpx) ?_)|(refine Br.mk ?_ ?_<;>intro hc)|(refine An.mk ?_;intro x hx))
        · refine lp_n (i + 1, j + 1, e.set i x) (by show l.length - (j + 1) < l.length - j; omega) ⟨by simpa using g1, by show j + 1 ≤ _; omega, by show i + 1 < j + 1; omega, ?_, ?_⟩ nm
          · show (e.set i x).take (i + 1) = (l.take (j + 1)).filter _
            rw [take_set (by omega), g4, filter_take hxl, hc]; rfl
          · show (e.set i x).drop (j + 1) = l.drop (j + 1)
            rw [drop_set (by omega)]; exact drop_next g5
        · refine lp_n (i, j + 1, e) (by show l.length - (j + 1) < l.length - j; omega) ⟨g1, by show j + 1 ≤ _; omega, by show i < j + 1; omega, ?_, drop_next g5⟩ nm
          show e.take i = (l.take (j + 1)).filter _
          rw [g4, filter_take hxl, hc]; simp
      · repeat' (first|refine st ?_|refine u0 ?_|refine u1 ?_|refine u2 ?_|refine u3 ?_|refine u4 ?_|refine u5 ?_|refine u6 ?_|refine u7 ?_|refine u8 ?_|refine u9 ?_|(refine Br.mk ?_ ?_<;>intro hc)|(refine An.mk ?_;intro x hx))
        refine g_sch rfl rfl rfl rfl rfl (by omega) ?_
        refine g_cr rfl rfl rfl rfl (by simp; omega) ?_
        repeat' (first|refine st ?_|refine u0 ?_|refine u1 ?_|refine u2 ?_|refine u3 ?_|refine u4 ?_|refine u5 ?_|refine u6 ?_|refine u7 ?_|refine u8 ?_|refine u9 ?_|(refine Br.mk ?_ ?_<;>intro hc)|(refine An.mk ?_;intro x hx))
        refine g_sch rfl rfl rfl rfl rfl (by omega) ?_
        (try refine st ?_)
        have hjl : j = l.length := by omega
        rw [hjl, List.take_length] at g4
        have hi : ((i : Int) - ((0 : Nat) : Int)).toNat = i := by omega
        have hi2 : 0 + (i : Int).toNat = i := by omega
        refine fin_gv rfl (gv_front (ts := (l.filter fun x => !p x).map V.i) rfl ?_ ?_ (allL_map fun _ => okA)) rfl
        · rw [hi, hi2, splice_length _ _ _ (by simp; omega)]; simp; omega
        · rw [hi, hi2, splice_take (by simp; omega), ← List.map_take, g4]
theorem k_all (c : List Int) (w : List (List Int)) : CALLB Γ T 84 [.tk, .ro] [oI c, eL eR w] = some (oI c, []) := by
  refine call_md' rfl rfl rfl rfl tkLA ?_
  repeat' (first|refine st ?_|refine u0 ?_|refine u1 ?_|refine u2 ?_|refine u3 ?_|refine u4 ?_|refine u5 ?_|refine u6 ?_|refine u7 ?_|refine u8 ?_|refine u9 ?_|(refine Br.mk ?_ ?_<;>intro hc)|(refine An.mk ?_;intro x hx))
  rfl
theorem canD_sub {l : List (List Int)} {rows left : List Int} : ∀ k ∈ canD l rows left, k ∈ left := fun k hk => (List.mem_filter.1 hk).1
theorem InD.sub {l : List (List Int)} {n : Int} {left rows left' rows' : List Int} (h : InD l n left rows) (h1 : ∀ k ∈ left', k ∈ left) (h2 : ∀ i ∈ rows', i ∈ rows) : InD l n left' rows' :=
  ⟨h.row, h.n0, h.nl, h.ll, fun k hk => h.lf k (h1 k hk), fun i hi => h.rw_ i (h2 i hi)⟩
theorem restD_sub {c left : List Int} : ∀ k ∈ restD c left, k ∈ left := fun k hk => (List.mem_filter.1 hk).1
theorem keepD_sub {l : List (List Int)} {c rows : List Int} : ∀ k ∈ keepD l c rows, k ∈ rows := fun k hk => (List.mem_filter.1 hk).1
theorem restD_lt {l : List (List Int)} {rows left : List Int} (h : canD l rows left ≠ []) : (restD (canD l rows left) left).length < left.length := by
  obtain ⟨k, hk⟩ := List.exists_mem_of_ne_nil _ h
  unfold restD
  refine List.length_filter_lt_length_iff_exists.2 ⟨k, canD_sub k hk, by simp [hk]⟩
theorem ok_ints {l : List Int} (h : l.length ≤ 2 ^ 20) : Bnd.ok l := ⟨h, fun _ _ => trivial⟩
theorem rng_len (n : Nat) : (rng n).length = n := by simp [rng]
theorem rng_succ (n : Nat) : rng (n + 1) = rng n ++ [(n : Int)] := by simp [rng, List.range_succ]
theorem mem_rng {n : Nat} {k : Int} : k ∈ rng n ↔ 0 ≤ k ∧ k < n := by
  simp only [rng, List.mem_map, List.mem_range]
  constructor
  · rintro ⟨i, hi, rfl⟩
    simp
    omega
  · intro h; exact ⟨k.toNat, by omega, by simp; omega⟩
/-- The run, of any number of rounds that is enough. -/
theorem runD_more (l : List (List Int)) : ∀ (n m : Nat) (left rows : List Int) (st : List (List Int)), left.length ≤ n → n ≤ m → runD l m left rows st = runD l n left rows st
  | 0, m, left, rows, st, h, _ => by
    obtain rfl := List.length_eq_zero_iff.1 (Nat.le_zero.1 h)
    cases m <;> simp [runD]
  | n + 1, 0, left, rows, st, h, hm => by omega
  | n + 1, m + 1, left, rows, st, h, hm => by
    simp only [runD]
    split
    · rfl
    · split
      · rfl
      · rename_i hc
        have := restD_lt hc
        exact runD_more l n m _ _ _ (by omega) (by omega)
def runL (l : List (List Int)) (left rows : List Int) (st : List (List Int)) : List (List Int) × List Int × List Int := runD l left.length left rows st
theorem runL_step {l : List (List Int)} {left rows : List Int} {st : List (List Int)} (h : left ≠ []) (hc : canD l rows left ≠ []) : runL l left rows st = runL l (restD (canD l rows left) left) (keepD l (canD l rows left) rows) (st ++ [canD l rows left]) := by
  unfold runL
  obtain ⟨m, hm⟩ : ∃ m, left.length = m + 1 := ⟨left.length - 1, by have := List.length_pos_iff.2 h; omega⟩
  have := restD_lt hc
  rw [hm]
  simp only [runD, if_neg h, if_neg hc]
  exact runD_more l _ m _ _ _ (Nat.le_refl _) (by omega)
theorem runL_end {l : List (List Int)} {rows : List Int} {st : List (List Int)} : runL l [] rows st = (st, [], rows) := rfl
theorem runL_stuck {l : List (List Int)} {left rows : List Int} {st : List (List Int)} (h : left ≠ []) (hc : canD l rows left = []) : runL l left rows st = (st, left, rows) := by
  unfold runL
  obtain ⟨m, hm⟩ : ∃ m, left.length = m + 1 := ⟨left.length - 1, by have := List.length_pos_iff.2 h; omega⟩
  rw [hm]
  simp only [runD, if_neg h, hc, if_true]
abbrev oT (x : List (List Int) × List Int × List Int) : V := .tu [oL 1 oI x.1, oI x.2.1, oI x.2.2]
theorem k_l15Run (l : List (List Int)) (n : Int) (h : InD l n (rng n.toNat) (rng l.length)) : CALLB Γ T 82 [] [eL eR l, .i n] = some (oT (runL l (rng n.toNat) (rng l.length) []), []) := by
  have hle := h.ll
  have hn := h.nl
  have hn0 := h.n0
  apply call_ro' rfl rfl rfl rfl
  repeat' (first|refine st ?_|refine u0 ?_|refine u1 ?_|refine u2 ?_|refine u3 ?_|refine u4 ?_|refine u5 ?_|refine u6 ?_|refine u7 ?_|refine u8 ?_|refine u9 ?_|(refine Br.mk ?_ ?_<;>intro hc)|(refine An.mk ?_;intro x hx))
  refine wp_upto (n.toNat) (fun _ g => ()) (fun i (_ : Unit) => ⟨envA [(0, eL eR l), (1, .i n), (7, .hs 0 0 (([] : List (List Int))).length (([] : List (List Int))).length), (8, .hs 1 0 ((rng i)).length ((rng i)).length), (9, .hs 2 0 (([] : List Int)).length (([] : List Int)).length), (10, .i (i : Nat))], heapA [some ⟨1, (([] : List (List Int))).map oI, false⟩, some ⟨1, ((rng i)).map V.i, false⟩, some ⟨1, (([] : List Int)).map V.i, false⟩], 3, false⟩) (()) (()) nm ?_ ?_ ?_
  · rfl
  · intro i g hi _
    have hrl := rng_len i
    repeat' (first|refine st ?_|refine u0 ?_|refine u1 ?_|refine u2 ?_|refine u3 ?_|refine u4 ?_|refine u5 ?_|refine u6 ?_|refine u7 ?_|refine u8 ?_|refine u9 ?_|(refine Br.mk ?_ ?_<;>intro hc)|(refine An.mk ?_;intro x hx))
    exact ea_n () rfl (by rw [rng_succ]; exact nm)
  · intro g _
    repeat' (first|refine st ?_|refine u0 ?_|refine u1 ?_|refine u2 ?_|refine u3 ?_|refine u4 ?_|refine u5 ?_|refine u6 ?_|refine u7 ?_|refine u8 ?_|refine u9 ?_|(refine Br.mk ?_ ?_<;>intro hc)|(refine An.mk ?_;intro x hx))
    refine wp_upto (l.length) (fun _ g => ()) (fun i (_ : Unit) => ⟨envA [(0, eL eR l), (7, .hs 0 0 (([] : List (List Int))).length (([] : List (List Int))).length), (8, .hs 1 0 ((rng n.toNat)).length ((rng n.toNat)).length), (9, .hs 2 0 ((rng i)).length ((rng i)).length), (11, .i (i : Nat))], heapA [some ⟨1, (([] : List (List Int))).map oI, false⟩, some ⟨1, ((rng n.toNat)).map V.i, false⟩, some ⟨1, ((rng i)).map V.i, false⟩], 3, false⟩) (()) (()) nm ?_ ?_ ?_
    · rfl
    · intro i g hi _
      have hrl := rng_len i
      repeat' (first|refine st ?_|refine u0 ?_|refine u1 ?_|refine u2 ?_|refine u3 ?_|refine u4 ?_|refine u5 ?_|refine u6 ?_|refine u7 ?_|refine u8 ?_|refine u9 ?_|(refine Br.mk ?_ ?_<;>intro hc)|(refine An.mk ?_;intro x hx))
      exact ea_n () rfl (by rw [rng_succ]; exact nm)
    · intro g _
      repeat' (first|refine st ?_|refine u0 ?_|refine u1 ?_|refine u2 ?_|refine u3 ?_|refine u4 ?_|refine u5 ?_|refine u6 ?_|refine u7 ?_|refine u8 ?_|refine u9 ?_|(refine Br.mk ?_ ?_<;>intro hc)|(refine An.mk ?_;intro x hx))
      refine wp_while (fun (x : Nat × List (List Int) × List Int × List Int) => ⟨envA [(0, eL eR l), (7, .hs 0 0 x.1 x.1), (8, .hs 1 0 (x.2.2.1).length (x.2.2.1).length), (9, .hs 2 0 (x.2.2.2).length (x.2.2.2).length)], heapA [some ⟨1, (x.2.1.map oI), false⟩, some ⟨1, (x.2.2.1).map V.i, false⟩, some ⟨1, (x.2.2.2).map V.i, false⟩], 3, false⟩) (fun (x : Nat × List (List Int) × List Int × List Int) => x.1 = x.2.1.length ∧ runL l x.2.2.1 x.2.2.2 x.2.1 = runL l (rng n.toNat) (rng l.length) [] ∧ InD l n x.2.2.1 x.2.2.2 ∧ x.2.1.length + x.2.2.1.length ≤ 2 ^ 20 ∧ x.2.2.2.length ≤ 2 ^ 20) (fun (x : Nat × List (List Int) × List Int × List Int) => x.2.2.1.length) ((0, [], rng n.toNat, rng l.length)) nm ?_ ?_
      · refine ⟨rfl, rfl, h, ?_, ?_⟩
        · show 0 + (rng n.toNat).length ≤ _; rw [rng_len]; omega
        · show (rng l.length).length ≤ _; rw [rng_len]; omega
      · rintro ⟨m, sa, left, rows⟩ ⟨hm, hF, hD, hb1, hb2⟩
        simp only at hm hF hD hb1 hb2
        subst hm
        dsimp only
        have ok1 : Bnd.ok left := ok_ints (by omega)
        have ok2 : Bnd.ok rows := ok_ints (by omega)
        have hcl : (canD l rows left).length ≤ left.length := List.length_filter_le _ _
        repeat' (first|refine st ?_|refine u0 ?_|refine u1 ?_|refine u2 ?_|refine u3 ?_|refine u4 ?_|refine u5 ?_|refine u6 ?_|refine u7 ?_|refine u8 ?_|refine u9 ?_|(apply i_ca;first|(apply i_f 99;refine c0 (k_l15Stratum l n rows left ok1 ok2 hD) ?_))|(refine Br.mk ?_ ?_<;>intro hc)|(refine An.mk ?_;intro x hx))
        · have hc0 : canD l rows left = [] := List.length_eq_zero_iff.1 (by omega)
          have hl0 : left ≠ [] := by rintro rfl; simp at *
          rw [runL_stuck hl0 hc0] at hF
          rw [← hF]
          exact ⟨rfl, rfl, rfl, trivial⟩
        · have ok3 : Bnd.ok (canD l rows left) := ok_ints (by omega)
          have hc0 : canD l rows left ≠ [] := fun hh => by rw [hh] at hc; exact hc rfl
          have hl0 : left ≠ [] := by rintro rfl; exact hc0 rfl
          have hlt := restD_lt hc0
          rw [runL_step hl0 hc0] at hF
          have hD2 := hD.sub (left' := canD l rows left) (rows' := rows) canD_sub fun _ h => h
          have hD3 := hD.sub (left' := restD (canD l rows left) left) (rows' := keepD l (canD l rows left) rows) restD_sub keepD_sub
          have hkl : (keepD l (canD l rows left) rows).length ≤ rows.length := List.length_filter_le _ _
          generalize hcv : canD l rows left = c at *
          refine wp_eachI (left) (fun r acc => acc ++ restD c r) (fun i (acc : List Int) => ⟨envA [(0, eL eR l), (7, .hs 0 0 (sa.length + 1) (sa.length + 1)), (8, .hs 1 0 (left).length (left).length), (9, .hs 2 0 (rows).length (rows).length), (12, .hs 3 0 (c).length (c).length), (13, .hs 4 0 (acc).length (acc).length), (14, .i (i : Nat))], heapA [some ⟨1, (sa.map oI ++ [.hs 3 0 c.length c.length]), false⟩, some ⟨1, (left).map V.i, false⟩, some ⟨1, (rows).map V.i, false⟩, some ⟨1, (c).map V.i, false⟩, some ⟨1, (acc).map V.i, false⟩], 5, false⟩) ([]) (restD c left) (fun i (acc : List Int) => acc.length ≤ i) nm ?_ ?_ ?_ ?_
          · rfl
          · simp
          · intro i acc k hi hx hm hF2 hI
            repeat' (first|refine st ?_|refine u0 ?_|refine u1 ?_|refine u2 ?_|refine u3 ?_|refine u4 ?_|refine u5 ?_|refine u6 ?_|refine u7 ?_|refine u8 ?_|refine u9 ?_|(apply i_ca;first|(apply i_f 100;refine c0 (k_l12Has c k ok3) ?_))|(refine Br.mk ?_ ?_<;>intro hc)|(refine An.mk ?_;intro x hx))
            · exact ei_n (acc ++ [k]) (by simpa [restD, hc] using hF2) (by simp; omega) nm
            · exact ei_n acc (by simpa [restD, hc] using hF2) (by omega) nm
          · intro acc hF2 hI
            have hacc : acc = restD c left := by simpa [restD] using hF2
            subst hacc
            repeat' (first|refine st ?_|refine u0 ?_|refine u1 ?_|refine u2 ?_|refine u3 ?_|refine u4 ?_|refine u5 ?_|refine u6 ?_|refine u7 ?_|refine u8 ?_|refine u9 ?_|(refine Br.mk ?_ ?_<;>intro hc)|(refine An.mk ?_;intro x hx))
            refine wp_eachI (rows) (fun r acc => acc ++ keepD l c r) (fun i (acc : List Int) => ⟨envA [(0, eL eR l), (7, .hs 0 0 (sa.length + 1) (sa.length + 1)), (8, .hs 1 0 ((restD c left)).length ((restD c left)).length), (9, .hs 2 0 (rows).length (rows).length), (12, .hs 3 0 (c).length (c).length), (15, .hs 4 0 (acc).length (acc).length), (16, .i (i : Nat))], heapA [some ⟨1, (sa.map oI ++ [.hs 3 0 c.length c.length]), false⟩, some ⟨1, ((restD c left)).map V.i, false⟩, some ⟨1, (rows).map V.i, false⟩, some ⟨1, (c).map V.i, false⟩, some ⟨1, (acc).map V.i, false⟩], 5, false⟩) ([]) (keepD l c rows) (fun i (acc : List Int) => acc.length ≤ i) nm ?_ ?_ ?_ ?_
            · rfl
            · simp
            · intro i acc y hi hx hym hF3 hI2
              repeat' (first|refine st ?_|refine u0 ?_|refine u1 ?_|refine u2 ?_|refine u3 ?_|refine u4 ?_|refine u5 ?_|refine u6 ?_|refine u7 ?_|refine u8 ?_|refine u9 ?_|(refine Br.mk ?_ ?_<;>intro hc)|(refine An.mk ?_;intro x hx))
              refine wp_each (c) (fun r g => g || r.any (fun k => decide (mkD l y k = 1))) (fun j (g : Bool) => ⟨envA [(0, eL eR l), (7, .hs 0 0 (sa.length + 1) (sa.length + 1)), (8, .hs 1 0 ((restD c left)).length ((restD c left)).length), (9, .hs 2 0 (rows).length (rows).length), (12, .hs 3 0 (c).length (c).length), (15, .hs 4 0 (acc).length (acc).length), (16, .i (i : Nat)), (17, .b g), (18, .i (j : Nat))], heapA [some ⟨1, (sa.map oI ++ [.hs 3 0 c.length c.length]), false⟩, some ⟨1, ((restD c left)).map V.i, false⟩, some ⟨1, (rows).map V.i, false⟩, some ⟨1, (c).map V.i, false⟩, some ⟨1, (acc).map V.i, false⟩], 5, false⟩) (false) (wonD l c y) nm ?_ ?_ ?_
              · rfl
              · intro j g k hj hk hkm hF4
                obtain ⟨r, m, g1, g2, g3, g4, g5⟩ := hD2.cell hym (hD2.lf k hkm)
                have h6 := hD2.rw_ y hym
                have h7 := hD2.lf k hkm
                repeat' (first|refine st ?_|refine u0 ?_|refine u1 ?_|refine u2 ?_|refine u3 ?_|refine u4 ?_|refine u5 ?_|refine u6 ?_|refine u7 ?_|refine u8 ?_|refine u9 ?_|(refine Br.mk ?_ ?_<;>intro hc)|(refine An.mk ?_;intro x hx))
                · exact ea_n true (by simpa [hc] using hF4) nm
                · exact ea_n (decide (m = 1)) (by simpa [g5, hc] using hF4) nm
              · intro g hF4
                have hg : g = wonD l c y := by simpa using hF4
                subst hg
                repeat' (first|refine st ?_|refine u0 ?_|refine u1 ?_|refine u2 ?_|refine u3 ?_|refine u4 ?_|refine u5 ?_|refine u6 ?_|refine u7 ?_|refine u8 ?_|refine u9 ?_|(refine Br.mk ?_ ?_<;>intro hc)|(refine An.mk ?_;intro x hx))
                · exact ei_n (acc ++ [y]) (by simpa [keepD, hc] using hF3) (by simp; omega) nm
                · exact ei_n acc (by simpa [keepD, hc] using hF3) (by omega) nm
            · intro acc hF3 hI2
              have hacc : acc = keepD l c rows := by simpa [keepD] using hF3
              subst hacc
              repeat' (first|refine st ?_|refine u0 ?_|refine u1 ?_|refine u2 ?_|refine u3 ?_|refine u4 ?_|refine u5 ?_|refine u6 ?_|refine u7 ?_|refine u8 ?_|refine u9 ?_|(refine Br.mk ?_ ?_<;>intro hc)|(refine An.mk ?_;intro x hx))
              exact lp_n (sa.length + 1, sa ++ [c], restD c left, keepD l c rows) hlt ⟨by simp, hF, hD3, by simp; omega, by simp; omega⟩ nm
        · have hl0 : left = [] := List.length_eq_zero_iff.1 (by omega)
          subst hl0
          rw [runL_end] at hF
          rw [← hF]
          exact ⟨rfl, rfl, rfl, trivial⟩
def pickD (l : List (List Int)) (rows : List Int) : List (List Int) := rows.map fun i => l.getD i.toNat []
theorem pickD_any {l : List (List Int)} {k : Int} : ∀ {rows : List Int}, (pickD l rows).any (fun r => decide (r.getD k.toNat 0 = -1)) = !fineD l rows k
  | [] => rfl
  | i :: rows => by
    have h := pickD_any (l := l) (k := k) (rows := rows)
    simp only [pickD, List.map_cons, List.any_cons, fineD, List.all_cons] at h ⊢
    rw [h]
    simp [mkD]
end Go.Am
